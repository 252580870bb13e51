/- The plain law of SlabTakes. -/
import Derived.Test.YtmkcmchmmemcgaaDoorK4
namespace Go.Proofs.YtmkcmchmmemcgaaDoor.slabTakes
open Go.Abs
set_option maxRecDepth 100000

theorem low_ones (u : Nat) : ∀ n, (∀ i, i < n → u / 2 ^ i % 2 = 1) → u % 2 ^ n = 2 ^ n - 1
  | 0, _ => by rw [Nat.pow_zero, Nat.mod_one]
  | n + 1, h => by
    rw [Nat.mod_pow_succ, low_ones u n (fun i hi => h i (by omega)), h n (by omega), Nat.pow_succ]
    have := Nat.two_pow_pos n
    omega
theorem ones_low {u n : Nat} (h : u % 2 ^ n = 2 ^ n - 1) (i : Nat) (hi : i < n) : u / 2 ^ i % 2 = 1 := by
  have := Nat.testBit_mod_two_pow u n i
  rw [h, Nat.testBit_two_pow_sub_one] at this
  simp only [hi, decide_true, Bool.true_and] at this
  rw [bit_eq, ← this]; rfl
theorem least_one {u : Int} {j k : Nat} (h : least u k) (h0 : u.toNat / 2 ^ j % 2 ≠ 1) (h1 : ∀ i, i < j → u.toNat / 2 ^ i % 2 = 1) : j = k := by
  obtain ⟨b1, b2⟩ := least_bit h
  rcases Nat.lt_trichotomy j k with g | g | g
  · exact absurd (ones_low b2 j g) h0
  · exact g
  · have := h1 k g
    omega

/-- The chunks of a page, gone through. -/
theorem chunks_scan {x : Pg} {c p : Int} (hc : 0 ≤ c ∧ c < 5) (hw : wfP x) (hu : x.2.2.toNat < 2 ^ ch c) :
    (x.2.2.toNat = 2 ^ ch c - 1 ∧ iter mx (F_ref05_place.l6734 mx c p x) (0 : Int) = some (.inr ())) ∨
      (x.2.2.toNat ≠ 2 ^ ch c - 1 ∧ ∀ k, least x.2.2 k → iter mx (F_ref05_place.l6734 mx c p x) (0 : Int) = some (.inl (p, (k : Int), true))) := by
  have hcl := ch_le c
  rcases iter_scan (f := F_ref05_place.l6734 mx c p x) (fun j => (j : Int)) (ch c) (fun j => x.2.2.toNat / 2 ^ j % 2 = 1) (lt_N0 (by omega)) (fun j => .inl (p, (j : Int), true)) (.inr ())
    (fun j hj hp _ => by
      simp only [F_ref05_place.l6734, (chunks_ok hc).2.2, Option.bind_some, ltd hj, cond_true, has_ok hw (show j < 16 by omega), hp, decide_true, Bool.not_true, cond_false]
      rw [inc64 (by omega)])
    (fun j hj hp _ => by
      simp only [F_ref05_place.l6734, (chunks_ok hc).2.2, Option.bind_some, ltd hj, cond_true, has_ok hw (show j < 16 by omega), hp, decide_false, Bool.not_false])
    (fun _ => by simp only [F_ref05_place.l6734, (chunks_ok hc).2.2, Option.bind_some, nltd, cond_false]) with ⟨h, e⟩ | ⟨j, hj, hb, hbef, e⟩
  · left
    have := low_ones x.2.2.toNat (ch c) h
    rw [Nat.mod_eq_of_lt hu] at this
    exact ⟨this, e⟩
  · right
    refine ⟨fun hc' => hb ?_, fun k hk => ?_⟩
    · refine ones_low ?_ j hj
      rw [Nat.mod_eq_of_lt hu]; exact hc'
    · have := least_one hk hb hbef
      subst this
      exact e

theorem s1682_ok {t c : Int} {x : Pg} : F_ref05_place.s1682 mx t c x = some (if x.2.2 ≠ 0 ∧ x.1 = t ∧ x.2.1 = c then .inr () else .inl ()) := by
  simp only [F_ref05_place.s1682, F_ref05_IsFree, Option.bind_some, ieq, ine]
  by_cases h0 : x.2.2 = 0
  · simp [h0]
  · by_cases h1 : x.1 = t
    · by_cases h2 : x.2.1 = c
      · simp [h0, h1, h2]
      · simp [h0, h1, h2]
    · simp [h0, h1]

theorem full_iff {u c : Int} (h0 : 0 ≤ u) : u.toNat = 2 ^ ch c - 1 ↔ u = 2 ^ ch c - 1 := by
  have e : ((2 ^ ch c : Nat) : Int) = 2 ^ ch c := by simp
  have := Nat.two_pow_pos (ch c)
  rw [← e]; omega

/-- A round of the first search. -/
theorem round1 {s : List Pg} {t c : Int} (hs : okS s) (hw : wfS s) (hc : 0 ≤ c ∧ c < 5) {i : Nat} (hi : i < s.length) :
    (¬ hasRoom s t c i ∧ F_ref05_place.l26 mx s t c (i : Int) = some (.next ((i + 1 : Nat) : Int))) ∨
      (hasRoom s t c i ∧ ∀ k, least (s.getD i (0, 0, 0)).2.2 k → F_ref05_place.l26 mx s t c (i : Int) = some (.fin (.inl ((i : Int), (k : Int), true)))) := by
  have hlen := hs.2.1
  have hwi := hw i hi
  have hok := hs.2.2 i hi
  by_cases h : (s.getD i (0, 0, 0)).2.2 ≠ 0 ∧ (s.getD i (0, 0, 0)).1 = t ∧ (s.getD i (0, 0, 0)).2.1 = c
  · obtain ⟨g0, g1, g2⟩ := h
    have hu := ((okP1 g0).1 hok).2.2
    rw [g2] at hu
    rcases chunks_scan (x := s.getD i (0, 0, 0)) (p := (i : Int)) hc hwi hu with ⟨e1, e2⟩ | ⟨e1, e2⟩
    · left
      refine ⟨fun hr => hr.2.2.2 ((full_iff hwi.1).1 e1), ?_⟩
      simp only [F_ref05_place.l26, lez, Bool.and_self, ltd hi, cond_true, Int.toNat_natCast, s1682_ok]
      rw [if_pos ⟨g0, g1, g2⟩]
      simp only [Option.bind_some, e2]
      rw [inc64 (by omega)]
    · right
      refine ⟨⟨g0, g1, g2, fun hh => e1 ((full_iff hwi.1).2 hh)⟩, fun k hk => ?_⟩
      simp only [F_ref05_place.l26, lez, Bool.and_self, ltd hi, cond_true, Int.toNat_natCast, s1682_ok]
      rw [if_pos ⟨g0, g1, g2⟩]
      simp only [Option.bind_some, e2 k hk]
  · left
    refine ⟨fun hr => h ⟨hr.1, hr.2.1, hr.2.2.1⟩, ?_⟩
    simp only [F_ref05_place.l26, lez, Bool.and_self, ltd hi, cond_true, Int.toNat_natCast, s1682_ok]
    rw [if_neg h]
    simp only [Option.bind_some]
    rw [inc64 (by omega)]

theorem round2 {s : List Pg} {t q : Int} (hl : s.length ≤ 100) {i : Nat} (hi : i < s.length) :
    F_ref05_place.l58 mx s t q (i : Int) = some (if cntTo s t s.length < q then (if isFree s i then .fin (.inl ((i : Int), 0, true)) else .next ((i + 1 : Nat) : Int)) else .fin (.inr ())) := by
  simp only [F_ref05_place.l58, F_ref05_place.s232, ltd hi, cond_true, owned_ref hl, Option.bind_some]
  by_cases hq : cntTo s t s.length < q
  · simp only [hq, decide_true, cond_true, Option.bind_some, lez, Bool.and_self, ltd hi, Int.toNat_natCast, F_ref05_IsFree, ieq, if_true]
    rw [inc64 (by omega)]
    by_cases hf : (s.getD i (0, 0, 0)).2.2 = 0
    · have : isFree s i := hf
      simp only [hf, decide_true, cond_true, this, if_true]
    · have : ¬ isFree s i := hf
      simp only [hf, decide_false, cond_false, this, if_false]
  · simp only [hq, decide_false, cond_false, Option.bind_some, if_false]

theorem place_some {s : List Pg} {t c q : Int} (hs : okS s) (hw : wfS s) (hc : 0 ≤ c ∧ c < 5) {p k : Nat} (hT : Taken s t c q (some p)) (hk : least (s.getD p (0, 0, 0)).2.2 k) :
    F_ref05_place mx (s, t, c, q) = some ((p : Int), (k : Int), true) := by
  have hlen := hs.2.1
  cases hT with
  | room _ hp h before =>
    have e := iter_count (f := F_ref05_place.l26 mx s t c) (fun i => (i : Int)) p (r := .inl ((p : Int), (k : Int), true)) (lt_N0 (by omega))
      (fun i hi => by
        rcases round1 (t := t) hs hw hc (show i < s.length by omega) with ⟨_, e⟩ | ⟨e, _⟩
        · exact e
        · exact absurd e (before i hi))
      (by
        rcases round1 (t := t) hs hw hc hp with ⟨e, _⟩ | ⟨_, e⟩
        · exact absurd h e
        · exact e k hk)
    have e' : iter mx (F_ref05_place.l26 mx s t c) 0 = some (.inl ((p : Int), (k : Int), true)) := e
    simp only [F_ref05_place, e', Option.bind_some]
  | free _ hp no hq h before =>
    have e := iter_count (f := F_ref05_place.l26 mx s t c) (fun i => (i : Int)) s.length (r := .inr ()) (lt_N0 (by omega))
      (fun i hi => by
        rcases round1 (t := t) hs hw hc hi with ⟨_, e⟩ | ⟨e, _⟩
        · exact e
        · exact absurd e (no i hi))
      (by simp only [F_ref05_place.l26, nltd, cond_false])
    have e' : iter mx (F_ref05_place.l26 mx s t c) 0 = some (.inr ()) := e
    have f := iter_count (f := F_ref05_place.l58 mx s t q) (fun i => (i : Int)) p (r := .inl ((p : Int), (0 : Int), true)) (lt_N0 (by omega))
      (fun i hi => by rw [round2 (by omega) (show i < s.length by omega), if_pos hq, if_neg (before i hi)])
      (by rw [round2 (by omega) hp, if_pos hq, if_pos h])
    have f' : iter mx (F_ref05_place.l58 mx s t q) 0 = some (.inl ((p : Int), (0 : Int), true)) := f
    have hk0 : k = 0 := by
      have h0 : (s.getD p (0, 0, 0)).2.2 = 0 := h
      rw [h0] at hk
      have := (least_bit hk).2
      simp at this
      have h2 := Nat.one_le_two_pow (n := k)
      rcases Nat.eq_zero_or_pos k with g | g
      · exact g
      · have := Nat.pow_le_pow_right (n := 2) (by decide) g
        omega
    subst hk0
    simp only [F_ref05_place, e', f', Option.bind_some]
    rfl
theorem place_none {s : List Pg} {t c q : Int} (hs : okS s) (hw : wfS s) (hc : 0 ≤ c ∧ c < 5) (hT : Taken s t c q none) :
    F_ref05_place mx (s, t, c, q) = some (0, 0, false) := by
  have hlen := hs.2.1
  obtain ⟨no, hfree⟩ : (∀ i, i < s.length → ¬ hasRoom s t c i) ∧ (cntTo s t s.length < q → ∀ i, i < s.length → ¬ isFree s i) := by cases hT with | none a b => exact ⟨a, b⟩
  have e := iter_count (f := F_ref05_place.l26 mx s t c) (fun i => (i : Int)) s.length (r := .inr ()) (lt_N0 (by omega))
    (fun i hi => by
      rcases round1 (t := t) hs hw hc hi with ⟨_, e⟩ | ⟨e, _⟩
      · exact e
      · exact absurd e (no i hi))
    (by simp only [F_ref05_place.l26, nltd, cond_false])
  have e' : iter mx (F_ref05_place.l26 mx s t c) 0 = some (.inr ()) := e
  have f' : iter mx (F_ref05_place.l58 mx s t q) 0 = some (.inr ()) := by
    by_cases hq : cntTo s t s.length < q
    · exact iter_count (f := F_ref05_place.l58 mx s t q) (fun i => (i : Int)) s.length (r := .inr ()) (lt_N0 (by omega))
        (fun i hi => by rw [round2 (by omega) hi, if_pos hq, if_neg (hfree hq i hi)])
        (by simp only [F_ref05_place.l58, F_ref05_place.s232, nltd, cond_false, Option.bind_some])
    · exact iter_count (f := F_ref05_place.l58 mx s t q) (fun i => (i : Int)) 0 (r := .inr ()) (lt_N0 (by omega)) (fun i hi => by omega)
        (by rw [round2 (by omega) (show 0 < s.length by have := hs.1; omega), if_neg hq])
  simp only [F_ref05_place, e', f', Option.bind_some]

theorem arg_ref {t c q : Int} : F_ref05_Take.s60 mx t c q = some (!decide (okArg t c q)) := by
  have := arg_ok (t := t) (c := c) (q := q)
  rw [← this]; rfl
theorem twin {s : List Pg} (hl : s.length ≤ 1000) : F_ref05_Twin mx s = some s := by
  have : Nat.ble s.length 4294967296 = true := Nat.ble_eq_true_of_le (by omega)
  simp [F_ref05_Twin, this]
theorem shl2 {k : Nat} (hk : k ≤ 15) : shlOp .u16 (1 : Int) (k : Int) = ((2 ^ k : Nat) : Int) := by
  have hpk := pow_le k hk
  show IntKind.u16.wrap (1 * 2 ^ min k 16) = _
  rw [Nat.min_eq_left (by omega), wu16]
  · simp
  · have : (0 : Int) ≤ ((2 ^ k : Nat) : Int) := Int.natCast_nonneg _
    simpa using this
  · have : ((2 ^ k : Nat) : Int) ≤ 65535 := by omega
    simpa using this
/-- Both take alike. -/
theorem takes (s : List Pg) (t c q : Int) (hw : wfS s) (hl : s.length ≤ 1000) : ∃ x, F_slab_Take mx (s, t, c, q) = some x ∧ F_ref05_Take mx (s, t, c, q) = some x ∧ x.1.length ≤ s.length := by
  by_cases hs : okS s
  · by_cases ha : okArg t c q
    · rcases take_ok hs hw ha with ⟨hT, e⟩ | ⟨p, k, hT, hk, e⟩
      · refine ⟨_, e, ?_, Nat.zero_le _⟩
        simp only [F_ref05_Take, check_ref05 hw, scheck, hs, if_true, Option.bind_some, bne_self_eq_false, cond_false, arg_ref, ha, decide_true, Bool.not_true, place_none hs hw ha.2.1 hT, Bool.not_false, cond_true]
      · refine ⟨_, e, ?_, by simp [put]⟩
        obtain ⟨hp, hor, hk15, _, hwp, _, _⟩ := put_page hs hw ha hT hk
        have d3 : decide ((k : Int) < 0) = false := by simp
        have hwr : IntKind.u64.wrap (k : Int) = (k : Int) := wu64 (by omega) (by omega)
        have e2 : ((2 ^ k : Nat) : Int) = 2 ^ k := by simp
        simp only [F_ref05_Take, check_ref05 hw, scheck, hs, if_true, Option.bind_some, bne_self_eq_false, cond_false, arg_ref, ha, decide_true, Bool.not_true, place_some hs hw ha.2.1 hT hk, twin hl, lez, Bool.and_self, ltd hp, cond_true, Int.toNat_natCast, hwr, d3, blt_t hp, shl2 hk15, e2]
        rw [wu16 hwp.1 hwp.2]
        rfl
    · refine ⟨_, take_arg hw hs ha, ?_, Nat.zero_le _⟩
      simp [F_ref05_Take, check_ref05 hw, scheck, hs, arg_ref, ha]
  · refine ⟨_, take_bad hw hs, ?_, Nat.zero_le _⟩
    simp [F_ref05_Take, check_ref05 hw, scheck, hs]

theorem has_out {x : Pg} {k : Int} (h : k < 0 ∨ 15 < k) : F_ref05_Has mx (x.1, x.2.1, x.2.2, k) = some false := by
  simp only [F_ref05_Has]
  by_cases h1 : 0 ≤ k
  · have h2 : ¬ k < 16 := by omega
    simp [h1, h2]
  · simp [h1]
theorem Free_ref {s : List Pg} {p k : Int} (hw : wfS s) (hl : s.length ≤ 1000) : F_ref05_Free mx (s, p, k) = some (sfree s p k) := by
  unfold sfree
  by_cases hs : okS s
  · rw [if_neg (by simpa using hs)]
    by_cases h1 : p < 0
    · rw [if_pos (.inl h1)]; simp [F_ref05_Free, check_ref05 hw, scheck, hs, h1]
    by_cases h2 : (s.length : Int) ≤ p
    · rw [if_pos (.inr h2)]; simp [F_ref05_Free, check_ref05 hw, scheck, hs, h1, h2]
    rw [if_neg (by omega)]
    obtain ⟨p, rfl⟩ := Int.eq_ofNat_of_zero_le (show 0 ≤ p by omega)
    have hp : p < s.length := by omega
    have d1 : decide ((p : Int) < 0) = false := by simp
    have d2 : decide ((s.length : Int) ≤ (p : Int)) = false := by simp; omega
    by_cases h3 : k < 0 ∨ 15 < k
    · rw [if_pos h3]
      simp only [F_ref05_Free, check_ref05 hw, scheck, hs, if_true, Option.bind_some, bne_self_eq_false, cond_false, d1, d2, lez, Bool.and_self, ltd hp, cond_true, Int.toNat_natCast, has_out h3, Bool.not_false]
    rw [if_neg h3]
    obtain ⟨k, rfl⟩ := Int.eq_ofNat_of_zero_le (show 0 ≤ k by omega)
    rw [Int.toNat_natCast, Int.toNat_natCast]
    have hwp := hw p hp
    have hk15 : k ≤ 15 := by omega
    by_cases hb : (s.getD p (0, 0, 0)).2.2.toNat / 2 ^ k % 2 = 1
    · rw [if_pos hb]
      obtain ⟨f1, f2, f3⟩ := freed_ok (hs.2.2 p hp) hwp hk15 hb
      have d3 : decide ((k : Int) < 0) = false := by simp
      have hwr : IntKind.u64.wrap (k : Int) = (k : Int) := wu64 (by omega) (by omega)
      have e2 : ((2 ^ k : Nat) : Int) = 2 ^ k := by simp
      have hw2 : IntKind.u16.wrap ((s.getD p (0, 0, 0)).2.2 - 2 ^ k) = (s.getD p (0, 0, 0)).2.2 - 2 ^ k := by
        have := f2.1
        have := f2.2
        rw [f3] at *
        exact wu16 (by assumption) (by assumption)
      have hpl : ∀ y : Pg, p < (s.set p y).length := fun y => by simpa using hp
      simp only [F_ref05_Free, check_ref05 hw, scheck, hs, if_true, Option.bind_some, bne_self_eq_false, cond_false, d1, d2, lez, Bool.and_self, ltd hp, cond_true, Int.toNat_natCast, has_ok hwp (show k < 16 by omega), hb, decide_true, Bool.not_true, twin hl, hwr, d3, blt_t hp, shl2 hk15, e2, hw2, F_ref05_Free.s510, ltd (hpl _), blt_t (hpl _), gset_self hp, ieq]
      by_cases e : (s.getD p (0, 0, 0)).2.2.toNat = 2 ^ k
      · have hz : (s.getD p (0, 0, 0)).2.2 - 2 ^ k = 0 := by
          have := hwp.1
          rw [← e2]; omega
        rw [hz, freed, if_pos e]
        simp
      · have hz : ¬ (s.getD p (0, 0, 0)).2.2 - 2 ^ k = 0 := by
          have := hwp.1
          rw [← e2]; omega
        rw [freed, if_neg e]
        simp only [hz, decide_false, cond_false, Option.bind_some]
    · rw [if_neg hb]
      simp only [F_ref05_Free, check_ref05 hw, scheck, hs, if_true, Option.bind_some, bne_self_eq_false, cond_false, d1, d2, lez, Bool.and_self, ltd hp, cond_true, Int.toNat_natCast, has_ok hwp (show k < 16 by omega), hb, decide_false, Bool.not_false]
  · rw [if_pos hs]
    simp [F_ref05_Free, check_ref05 hw, scheck, hs]
theorem sfree_len {s : List Pg} {p k : Int} : (sfree s p k).1.length ≤ s.length := by
  unfold sfree
  repeat' split
  all_goals simp
theorem last_ref {s : List Pg} {t : Int} (hl : s.length ≤ 100) : F_ref05_Last mx (s, t) = some (lastTo s t s.length) := by
  have := iter_count (f := F_ref05_Last.l58 mx s t) (fun k => (lastTo s t k, (k : Int))) s.length (r := lastTo s t s.length) (lt_N0 (by omega))
    (fun k hk => by
      simp only [F_ref05_Last.l58, lez, Bool.and_self, ltd hk, cond_true, Int.toNat_natCast, F_ref05_IsFree, Option.bind_some, ieq]
      rw [inc64 (by omega)]
      by_cases h0 : (s.getD k (0, 0, 0)).2.2 = 0
      · have ho : ¬ ownd s t k := fun h => h.1 h0
        simp only [h0, decide_true, Bool.not_true, cond_false, lastTo, ho, if_false]
      · by_cases ht : (s.getD k (0, 0, 0)).1 = t
        · have ho : ownd s t k := ⟨h0, ht⟩
          simp only [h0, ht, decide_true, decide_false, Bool.not_false, cond_true, lastTo, ho, if_true]
        · have ho : ¬ ownd s t k := fun h => ht h.2
          simp only [h0, ht, decide_false, Bool.not_false, cond_true, cond_false, lastTo, ho, if_false])
    (by simp only [F_ref05_Last.l58, nltd, cond_false])
  simp only [F_ref05_Last]
  rw [show ((-1 : Int), (0 : Int)) = (lastTo s t 0, ((0 : Nat) : Int)) from rfl, this]
  rfl
theorem fill1 {a : List Pg} (hl : a.length ≤ 1000) : ∃ r, iter mx (F_law05_SlabTakes.l524282 mx) ((0 : Int), a) = some r := by
  obtain ⟨r, h, _⟩ := iter_inv (f := F_law05_SlabTakes.l524282 mx) (fun x => ∃ k : Nat, x.1 = (k : Int) ∧ k ≤ x.2.length ∧ x.2.length = a.length) (fun x => (a.length - x.1).toNat) (fun _ => True) ((0 : Int), a) ⟨0, rfl, Nat.zero_le _, rfl⟩ (lt_N0 (by simp; omega))
    (by
      rintro ⟨i, b⟩ ⟨k, rfl, h1, h2⟩
      simp only at h1 h2
      by_cases h : k < b.length
      · left
        refine ⟨(((k + 1 : Nat) : Int), b.set k ((b.getD k (0, 0, 0)).1, (b.getD k (0, 0, 0)).2.1, 77)), ?_, ⟨k + 1, rfl, ?_, ?_⟩, ?_⟩
        rotate_left
        · simp; omega
        · simp [h2]
        · simp only; omega
        · simp only [F_law05_SlabTakes.l524282, lez, Bool.and_self, ltd h, cond_true, Int.toNat_natCast, blt_t h]
          rw [inc64 (by omega)]
      · right
        have : k = b.length := by omega
        subst this
        exact ⟨(), by simp only [F_law05_SlabTakes.l524282, nltd, cond_false], trivial⟩)
  exact ⟨r, h⟩
theorem fill2 {a : List Pg} (hl : a.length ≤ 1000) : ∃ r, iter mx (F_law05_SlabTakes.l1048570 mx) ((0 : Int), a) = some r := fill1 hl
theorem New_ref {n : Int} : F_ref05_New mx n = F_slab_New mx n := rfl
theorem New_len {n : Int} {x : List Pg × Int} (h : F_slab_New mx n = some x) : x.1.length ≤ 16 := by
  simp only [F_slab_New] at h
  by_cases h1 : n < 1
  · simp only [h1, decide_true, cond_true, Option.some.injEq] at h; subst h; simp
  · by_cases h2 : 16 < n
    · simp only [h1, h2, decide_true, decide_false, cond_true, cond_false, Option.some.injEq] at h; subst h; simp
    · simp only [h1, h2, decide_false, cond_false] at h
      cases hb : (decide ((0 : Int) ≤ n) && decide (n ≤ n)) && decide (n ≤ (4294967296 : Int)) with
      | false => rw [hb] at h; cases h
      | true => rw [hb] at h; simp only [cond_true, Option.some.injEq] at h; subst h; simp; omega
theorem New_some {n : Int} : ∃ x, F_slab_New mx n = some x := by
  simp only [F_slab_New]
  by_cases h1 : n < 1
  · simp only [h1, decide_true, cond_true]; exact ⟨_, rfl⟩
  · by_cases h2 : 16 < n
    · simp only [h1, h2, decide_true, decide_false, cond_true, cond_false]; exact ⟨_, rfl⟩
    · have : (decide ((0 : Int) ≤ n) && decide (n ≤ n) && decide (n ≤ (4294967296 : Int))) = true := by simp; omega
      simp only [h1, h2, this, decide_false, cond_true, cond_false]; exact ⟨_, rfl⟩

theorem main (s : List Pg) (t c q pg ck : Int) (hw : wfS s) : F_law05_SlabTakes mx (s, t, c, q, pg, ck) = some true := by
  simp only [F_law05_SlabTakes]
  by_cases h1 : (100 : Int) < (s.length : Int)
  · simp [h1]
  have hl : s.length ≤ 100 := by omega
  obtain ⟨n, hn⟩ := New_some (n := q)
  have hnl := New_len hn
  obtain ⟨x, x1, x2, x3⟩ := takes s t c q hw (by omega)
  obtain ⟨r1, hr1⟩ := fill1 (a := x.1) (by omega)
  have hfl := sfree_len (s := s) (p := pg) (k := ck)
  obtain ⟨r2, hr2⟩ := fill2 (a := (sfree s pg ck).1) (by omega)
  have hask : F_law05_SlabTakes.s32766 mx t (scheck s) = some (sasked s t) := by
    simp only [F_law05_SlabTakes.s32766, scheck, sasked, F_ref05_IsTenant, bif_and, Option.bind_some]
    by_cases hs : okS s
    · by_cases ht : 0 ≤ t ∧ t < 4
      · have ht' : (decide (0 ≤ t) && decide (t < 4)) = true := by simp; omega
        simp [hs, ht']; omega
      · have ht' : (decide (0 ≤ t) && decide (t < 4)) = false := by simp; omega
        rw [ht']
        simp [hs, ht]
    · simp [hs]
  have hlast : F_law05_SlabTakes.s65534 mx s t (if sasked s t = 0 then (cntTo s t s.length, 0) else (0, sasked s t)) (if sasked s t = 0 then (lastTo s t s.length, 0) else (0, sasked s t)) (sasked s t) = some (.inr ()) := by
    simp only [F_law05_SlabTakes.s65534, owned_ref hl, last_ref hl, Option.bind_some]
    by_cases h : sasked s t = 0
    · simp [h]
    · simp [h, ieq]
  simp only [h1, decide_false, cond_false, twin (show s.length ≤ 1000 by omega), Option.bind_some, New_ref, hn, x1, x2, Free_ok hw, Free_ref hw (show s.length ≤ 1000 by omega), same_slab (show n.1.length ≤ 1000 by omega), same_slab (show x.1.length ≤ 1000 by omega), same_slab (show (sfree s pg ck).1.length ≤ 1000 by omega), same_slab (show s.length ≤ 1000 by omega), Bool.not_true, bne_self_eq_false, check_slab hw, check_ref05 hw, Owned_ok hw, Last_ok hw, hask, hlast, hr1, hr2]
theorem pure (p) (hp : wfIns F_law05_SlabTakes.sig.pars p) : F_law05_SlabTakes mx p = some true := by
  obtain ⟨s, t, c, q, pg, ck⟩ := p
  refine main s t c q pg ck fun k hk => ?_
  have hs : Ty.wf (.sl (.pr (.int .i64) (.pr (.int .i64) (.int .u16)))) s := hp.1.1
  have := hs.1 _ (getD_lt (d := (0, 0, 0)) hk)
  exact wfu16 this.2.2
end Go.Proofs.YtmkcmchmmemcgaaDoor.slabTakes
