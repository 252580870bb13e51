/- The plain law of PromoteTurns. -/
import Derived.Test.YtajlmgpcfbhgjaaGreatKXf
import Derived.Test.YtajlmgpcfbhgjaaGreatKPr
namespace Go.Proofs.YtajlmgpcfbhgjaaGreat.promoteTurns
open Go.Abs
set_option maxRecDepth 100000
theorem rin26_ok (x : Int) : F_ref26_in mx x = some (decide (inN x)) := by
  simp only [F_ref26_in]
  by_cases h : 0 ≤ x
  · rw [decide_eq_true h, cond_true]; congr 1; exact decide_eq_decide.2 ⟨fun hh => ⟨h, hh⟩, fun hh => hh.2⟩
  · rw [decide_eq_false h, decide_eq_false (fun hh : inN x => h hh.1)]; rfl
theorem next_both {a w : Int} (h1 : -9223372036854775808 ≤ w) (h2 : w ≤ 9223372036854775807) : ∃ x, F_promote_Next mx (a, w) = some x ∧ F_ref26_Next mx (a, w) = some x := by
  simp only [F_ref26_Next, rin26_ok, Option.bind_some]
  by_cases ha : inN a
  case neg =>
    rw [decide_eq_false ha]
    refine ⟨(0, 2), ?_, rfl⟩
    simp only [F_promote_Next]
    by_cases k1 : a < 0
    · rw [decide_eq_true k1]; rfl
    · rw [decide_eq_false k1, decide_eq_true (show 2147483647 < a by unfold inN at ha; omega)]; rfl
  rw [decide_eq_true ha]
  obtain ⟨a0, a1⟩ := ha
  by_cases hw : w = 0 ∨ w = 1
  case neg =>
    refine ⟨(0, 2), ?_, ?_⟩
    · have hne : (bitsOp .andNot .i64 (w : Int) 1 != 0) = true := bne_iff_ne.2 fun h => hw (andNot1 h1 h2 h)
      simp only [F_promote_Next, hne, cond_true]
      cases decide (a < 0) <;> cases decide ((2147483647 : Int) < a) <;> rfl
    · by_cases k1 : w < 0
      · rw [decide_eq_true k1]; rfl
      · rw [decide_eq_false k1, decide_eq_true (show 1 < w by omega)]; rfl
  obtain ⟨m, rfl, hm⟩ : ∃ m : Nat, w = (m : Int) ∧ m < 2 := ⟨w.toNat, by omega, by omega⟩
  refine ⟨_, pnext_ok hm, ?_⟩
  rw [if_neg (by omega), decide_eq_false (show ¬ (m : Int) < 0 by omega), decide_eq_false (show ¬ (1 : Int) < (m : Int) by omega)]
  obtain ⟨n, rfl⟩ := Int.eq_ofNat_of_zero_le a0
  have e1 : IntKind.i64.wrap ((n : Int) + 1) = ((n + 1 : Nat) : Int) := inc64 (by omega)
  have e2 : ((n + 1 : Nat) : Int).tmod (2 : Int) = (((n + 1) % 2 : Nat) : Int) := cast_tmod (n + 1) 2
  simp only [Bool.not_true, cond_false, F_ref26_Next.s30, e1, e2, Int.toNat_natCast, bne_int]
  have e3 : IntKind.i64.wrap (((n + 1 : Nat) : Int) + 1) = ((n + 2 : Nat) : Int) := inc64 (by omega)
  by_cases k : ((((n + 1) % 2 : Nat) : Int) = (m : Int))
  · rw [decide_eq_true k]
    have hz : ((n + 1) % 2 + m) % 2 = 0 := by omega
    simp only [Bool.not_true, cond_false, Option.bind_some, hz]
    by_cases k2 : (2147483647 : Int) < ((n + 1 : Nat) : Int)
    · rw [decide_eq_true k2, if_pos (by omega)]; rfl
    · rw [decide_eq_false k2, if_neg (by omega)]; rfl
  · rw [decide_eq_false k]
    have hz : ((n + 1) % 2 + m) % 2 = 1 := by omega
    simp only [Bool.not_false, cond_true, e3, Option.bind_some, hz]
    by_cases k2 : (2147483647 : Int) < ((n + 2 : Nat) : Int)
    · rw [decide_eq_true k2, if_pos (by omega)]; rfl
    · rw [decide_eq_false k2, if_neg (by omega)]
      simp only [cond_false]
      congr 2 <;> omega
theorem whose_both (a : Int) : ∃ x, F_promote_Whose mx a = some x ∧ F_ref26_Whose mx a = some x := by
  simp only [F_ref26_Whose, rin26_ok, Option.bind_some]
  by_cases ha : inN a
  · rw [decide_eq_true ha]
    refine ⟨_, whose_ok ha.1 ha.2, ?_⟩
    obtain ⟨n, rfl⟩ := Int.eq_ofNat_of_zero_le ha.1
    have e2 : (n : Int).tmod (2 : Int) = ((n % 2 : Nat) : Int) := cast_tmod n 2
    simp only [Bool.not_true, cond_false, e2, Int.toNat_natCast]
  · rw [decide_eq_false ha]
    refine ⟨(0, 2), ?_, rfl⟩
    simp only [F_promote_Whose]
    by_cases k1 : a < 0
    · rw [decide_eq_true k1]; rfl
    · rw [decide_eq_false k1, decide_eq_true (show 2147483647 < a by unfold inN at ha; omega)]; rfl
theorem turnC_wf (e : Int) (b : Bool) : ∀ c ∈ [turnC e b], wfC c := fun c hc => by
  rw [List.mem_singleton] at hc; subst hc; exact ⟨⟨Int.le_refl 0, (by decide : (0 : Int) ≤ 4294967295)⟩, Int.le_refl 0, (by decide : (0 : Int) ≤ 18446744073709551615)⟩
theorem term_ok (e : Int) (b : Bool) : F_ref26_term mx (e, b) = some [turnC e b] := rfl
/-- Both turn alike. -/
theorem rturn_ok {v : Img} (hv : okI v) {e : Int} (he : inN e) (b : Bool) (g : ¬ e < v.2.2.2.1) : F_ref21_Apply mx (v.1, v.2.1, v.2.2.1, v.2.2.2.1, v.2.2.2.2.1, v.2.2.2.2.2, [turnC e b]) = some (v.1, v.2.1, v.2.2.1, e, v.2.2.2.2.1, b, 0) := by
  have h1 := rapply_ok (okI_len hv) (turnC_wf e b)
  have h2 := apply_ok (okI_len hv) (turnC_wf e b)
  have h3 : F_image_Apply mx (v.1, v.2.1, v.2.2.1, v.2.2.2.1, v.2.2.2.2.1, v.2.2.2.2.2, [turnC e b]) = _ := apply_turn hv he b g
  rw [h3] at h2
  rw [h1, ← Option.some.inj h2]
theorem up_both {f : Fol} (hf : wfF f) {w : Int} (h1 : -9223372036854775808 ≤ w) (h2 : w ≤ 9223372036854775807) : ∃ y,
    F_promote_Up mx (f.1, f.2.1, f.2.2.1, f.2.2.2.1, f.2.2.2.2.1, f.2.2.2.2.2.1, f.2.2.2.2.2.2.1, f.2.2.2.2.2.2.2, w) = some y ∧ F_ref26_Up mx (f.1, f.2.1, f.2.2.1, f.2.2.2.1, f.2.2.2.2.1, f.2.2.2.2.2.1, f.2.2.2.2.2.2.1, f.2.2.2.2.2.2.2, w) = some y ∧
      y.2.2.2.1.length ≤ 100 ∧ y.2.2.2.2.2.1.length ≤ 100 ∧ y.2.2.2.2.2.2.1.length ≤ 2000 ∧ y.2.2.2.2.2.2.2.2.2.2.1.length ≤ 1 := by
  have hck := fcheck_ok hf
  have hrk := rcheck25_ok hf
  have hup := fun h : okF f => up_ok h h1 h2
  obtain ⟨nx, hn1, hn2⟩ := next_both (a := f.1) h1 h2
  have hnx := pnext_any (a := f.1) h1 h2
  obtain ⟨e, n, t, q, l, ie, inn, ib⟩ := f
  dsimp only at hck hrk hup hn1 hn2 hnx ⊢
  by_cases hF : okF (e, n, t, q, l, ie, inn, ib)
  case neg =>
    rw [if_neg hF] at hck hrk
    refine ⟨(0, 0, 0, [], 0, [], [], 0, 0, false, [], 8), ?_, ?_, by simp, by simp, by simp, by simp⟩
    · simp only [F_promote_Up, hck, Option.bind_some]; rfl
    · simp only [F_ref26_Up, hrk, Option.bind_some]; rfl
  rw [if_pos hF] at hck hrk
  obtain ⟨o1, o2, o3, o4, o5, o6⟩ := id hF
  dsimp only at o1 o2 o3 o4 o5 o6
  subst o4 o5 o6
  by_cases g : nx.2 = 0
  case neg =>
    refine ⟨(0, 0, 0, [], 0, [], [], 0, 0, false, [], nx.2), ?_, ?_, by simp, by simp, by simp, by simp⟩
    · simp only [F_promote_Up, hck, hn1, Option.bind_some, bne_self_eq_false, cond_false, bne_iff_ne.2 g, cond_true]
    · simp only [F_ref26_Up, hrk, hn2, Option.bind_some, bne_self_eq_false, cond_false, bne_iff_ne.2 g, cond_true]
  obtain ⟨z, hz, _, hz2⟩ := hnx
  rw [hn1] at hz
  have hz := Option.some.inj hz
  subst hz
  obtain ⟨p1, p2, p3, p4, p5, p6⟩ := hz2 g
  have hin : inN nx.1 := ⟨p2, p3⟩
  have ht := turn_ok o3 hin true
  dsimp only at ht
  rw [if_neg (show ¬ nx.1 < ie by omega)] at ht
  have hr := rturn_ok o3 hin true (show ¬ nx.1 < ie by omega)
  dsimp only at hr
  refine ⟨(nx.1, inn, 0, [], t, q, l, nx.1, inn, true, [turnC nx.1 true], 0), ?_, ?_, by simp, ?_, ?_, by simp⟩
  · simp only [F_promote_Up, hck, hn1, Option.bind_some, bne_self_eq_false, cond_false, g, newN_ok, if_pos (show inN nx.1 ∧ inN inn from ⟨hin, o2⟩), ht]; rfl
  · simp only [F_ref26_Up, hrk, hn2, Option.bind_some, bne_self_eq_false, cond_false, g, term_ok, rnew24_ok, if_pos (show inN nx.1 ∧ inN inn from ⟨hin, o2⟩), hr]
  · have := o3.2.1.2.1; dsimp only at this ⊢; omega
  · have := o3.2.2.1; dsimp only at this ⊢; omega
theorem down_both {s : Snd} (hs : wfS s) {v : Img} (hb : ∀ k ∈ v.2.2.1, k.2.1.length ≤ 140737488351232 ∧ k.2.2.1.length ≤ 140737488351232) (x : Int) : ∃ y,
    F_promote_Down mx (s.1, s.2.1, s.2.2.1, s.2.2.2, v.1, v.2.1, v.2.2.1, v.2.2.2.1, v.2.2.2.2.1, v.2.2.2.2.2, x) = some y ∧ F_ref26_Down mx (s.1, s.2.1, s.2.2.1, s.2.2.2, v.1, v.2.1, v.2.2.1, v.2.2.2.1, v.2.2.2.2.1, v.2.2.2.2.2, x) = some y ∧
      y.2.2.2.1.length ≤ 100 ∧ y.2.2.2.2.1.length ≤ 2000 ∧ y.2.2.2.2.2.2.2.2.1.length ≤ 1 := by
  have hcs := checkN_ok hs
  have hrs := rcheck24_ok hs
  have hci := check_ok hb
  have hri := rcheck_ok hb
  obtain ⟨e, n, a, rs⟩ := s
  obtain ⟨t, q, l, ie, inn, ib⟩ := v
  dsimp only at hcs hci hrs hri ⊢
  have bad : ∀ er : Int, er ≠ 0 → ∀ {A B : Option (Int × Int × Int × List Int × List Kept × Int × Int × Bool × List Chg × Int)}, A = some (0, 0, 0, [], [], 0, 0, false, [], er) → B = some (0, 0, 0, [], [], 0, 0, false, [], er) → ∃ y, A = some y ∧ B = some y ∧ y.2.2.2.1.length ≤ 100 ∧ y.2.2.2.2.1.length ≤ 2000 ∧ y.2.2.2.2.2.2.2.2.1.length ≤ 1 :=
    fun er _ {A B} h1 h2 => ⟨_, h1, h2, by simp, by simp, by simp⟩
  by_cases h1 : okN (e, n, a, rs)
  case neg =>
    refine bad 8 (by decide) ?_ ?_
    · simp only [F_promote_Down, hcs.2 h1, Option.bind_some]; rfl
    · simp only [F_ref26_Down, hrs.2 h1, Option.bind_some, F_ref26_Down.s14]; rfl
  by_cases h2 : okI (t, q, l, ie, inn, ib)
  case neg =>
    refine bad 8 (by decide) ?_ ?_
    · simp only [F_promote_Down, hcs.1 h1, hci, if_neg h2, Option.bind_some]; rfl
    · simp only [F_ref26_Down, hrs.1 h1, hri, if_neg h2, Option.bind_some, F_ref26_Down.s14]; rfl
  have hr := fun hx hg => rturn_ok h2 (e := e) hx false hg
  have ht := turn_ok h2 h1.1 false
  dsimp only at ht hr
  simp only [F_promote_Down, hcs.1 h1, hci, if_pos h2, Option.bind_some, bne_self_eq_false, cond_false, bne_int, F_ref26_Down, hrs.1 h1, hri, F_ref26_Down.s14, beq_self_eq_true, cond_true, decide_true, Bool.not_true, rin26_ok, term_ok]
  by_cases h3 : ie = e
  case neg => rw [decide_eq_false h3]; exact bad 260 (by decide) rfl rfl
  rw [decide_eq_true h3]
  by_cases h4 : inn = n
  case neg => rw [decide_eq_false h4]; exact bad 260 (by decide) rfl rfl
  rw [decide_eq_true h4]
  cases ib with
  | false => exact bad 260 (by decide) rfl rfl
  | true =>
  simp only [Bool.not_true, cond_false]
  by_cases h5 : inN x
  case neg =>
    rw [decide_eq_false h5]
    refine bad 2 (by decide) ?_ rfl
    by_cases k1 : x < 0
    · rw [decide_eq_true k1]; rfl
    · rw [decide_eq_false k1, decide_eq_true (show 2147483647 < x by unfold inN at h5; omega)]; rfl
  rw [decide_eq_true h5, decide_eq_false (show ¬ x < 0 by have := h5.1; omega), decide_eq_false (show ¬ 2147483647 < x by have := h5.2; omega)]
  by_cases h7 : x ≤ e
  · rw [decide_eq_true h7]; exact bad 250 (by decide) rfl rfl
  rw [decide_eq_false h7]
  rw [if_neg (show ¬ e < ie by omega)] at ht
  simp only [Bool.not_true, cond_false, ht, hr h1.1 (show ¬ e < ie by omega), Option.bind_some]
  refine ⟨_, rfl, ?_, ?_, ?_, by simp⟩
  · rw [h4]; rfl
  · have := h2.2.1.2.1; dsimp only at this ⊢; omega
  · have := h2.2.2.1; dsimp only at this ⊢; omega
theorem sure_both {s : Snd} (hs : wfS s) (k : Int) (b : Bool) : ∃ y, F_promote_Sure mx (s.1, s.2.1, s.2.2.1, s.2.2.2, k, b) = some y ∧ F_ref26_Sure mx (s.1, s.2.1, s.2.2.1, s.2.2.2, k, b) = some y := by
  have hcs := checkN_ok hs
  have hrs := rcheck24_ok hs
  obtain ⟨e, n, a, rs⟩ := s
  dsimp only at hcs hrs ⊢
  by_cases h1 : okN (e, n, a, rs)
  case neg =>
    refine ⟨(false, 8), ?_, ?_⟩
    · simp only [F_promote_Sure, hcs.2 h1, Option.bind_some]; rfl
    · simp only [F_ref26_Sure, hrs.2 h1, Option.bind_some]; rfl
  simp only [F_promote_Sure, hcs.1 h1, F_ref26_Sure, hrs.1 h1, Option.bind_some, bne_self_eq_false, cond_false]
  by_cases h2 : k < 0
  · rw [decide_eq_true h2]; exact ⟨_, rfl, rfl⟩
  rw [decide_eq_false h2]
  by_cases h3 : n < k
  · rw [decide_eq_true h3]; exact ⟨_, rfl, rfl⟩
  rw [decide_eq_false h3]
  cases b <;> exact ⟨_, rfl, rfl⟩
theorem l1_ok {l : List Kept} (hl : l.length ≤ 100000) : ∃ r, iter mx (F_law26_PromoteTurns.l262138 mx) ((0 : Int), l) = some r := by
  obtain ⟨r, hr, _⟩ := iter_inv (f := F_law26_PromoteTurns.l262138 mx) (fun s => ∃ k : Nat, s.1 = (k : Int) ∧ s.2.length = l.length ∧ k ≤ l.length) (fun s => l.length - s.1.toNat) (fun _ => True) ((0 : Int), l) ⟨0, rfl, rfl, Nat.zero_le _⟩ (lt_N0 (by dsimp only; omega)) (fun s ⟨k, e, hk, hk2⟩ => by
    obtain ⟨i, m⟩ := s
    dsimp only at e hk
    subst e
    by_cases h : k < l.length
    · refine .inl ⟨_, by simp only [F_law26_PromoteTurns.l262138, hk, ltd h, lez, Bool.and_self, cond_true, Int.toNat_natCast, blt_t h]; rfl, ⟨k + 1, by dsimp only; rw [inc64 (by omega)], by dsimp only; rw [List.length_set, hk], h⟩, ?_⟩
      dsimp only; rw [inc64 (by omega)]; omega
    · exact .inr ⟨(), by simp only [F_law26_PromoteTurns.l262138, hk, decide_eq_false (show ¬ (k : Int) < (l.length : Int) by omega), cond_false], trivial⟩)
  exact ⟨r, hr⟩
theorem l2_ok {l : List Kept} (hl : l.length ≤ 100000) : ∃ r, iter mx (F_law26_PromoteTurns.l524282 mx) ((0 : Int), l) = some r := l1_ok hl
theorem main {f : Fol} (hfl : f.2.2.2.2.1.length ≤ 140737488351232) (hf : wfF f) {s : Snd} (hs : wfS s) {v : Img} (hvl : v.2.2.1.length ≤ 140737488351232) (hv : ∀ k ∈ v.2.2.1, k.2.1.length ≤ 140737488351232 ∧ k.2.2.1.length ≤ 140737488351232)
    (a w k : Int) (h1 : -9223372036854775808 ≤ w) (h2 : w ≤ 9223372036854775807) (b : Bool) :
    F_law26_PromoteTurns mx (f.1, f.2.1, f.2.2.1, f.2.2.2.1, f.2.2.2.2.1, f.2.2.2.2.2.1, f.2.2.2.2.2.2.1, f.2.2.2.2.2.2.2, s.1, s.2.1, s.2.2.1, s.2.2.2, v.1, v.2.1, v.2.2.1, v.2.2.2.1, v.2.2.2.2.1, v.2.2.2.2.2, a, w, k, b) = some true := by
  obtain ⟨b1, e1, c1⟩ := great_some f.2.2 (by omega)
  obtain ⟨b2, e2, c2⟩ := great24 s (by have := hs.1; omega)
  obtain ⟨b3, e3, c3⟩ := great_some v (by omega)
  have e1 : F_ref21_Great mx (f.2.2.1, f.2.2.2.1, f.2.2.2.2.1, f.2.2.2.2.2.1, f.2.2.2.2.2.2.1, f.2.2.2.2.2.2.2) = some b1 := e1
  have e2 : F_ref24_Great mx (s.1, s.2.1, s.2.2.1, s.2.2.2) = some b2 := e2
  have e3 : F_ref21_Great mx (v.1, v.2.1, v.2.2.1, v.2.2.2.1, v.2.2.2.2.1, v.2.2.2.2.2) = some b3 := e3
  simp only [F_law26_PromoteTurns, e1, e2, e3, Option.bind_some]
  cases b1 with
  | true => rfl
  | false =>
  cases b2 with
  | true => rfl
  | false =>
  cases b3 with
  | true => rfl
  | false =>
  obtain ⟨f1, f2⟩ := c1 rfl
  have s1 := c2 rfl
  obtain ⟨v1, v2⟩ := c3 rfl
  have t1 := rtwin25_ok (f := f) (by omega) (by omega)
  have t2 := rtwin24_ok (s := s) (by omega) (fun r hr => (hs.2 r hr).2)
  have t3 := rtwin21_ok (v := v) (by omega) (by omega)
  have t1 : F_ref25_Twin mx (f.1, f.2.1, f.2.2.1, f.2.2.2.1, f.2.2.2.2.1, f.2.2.2.2.2.1, f.2.2.2.2.2.2.1, f.2.2.2.2.2.2.2) = some f := t1
  have t2 : F_ref24_Twin mx (s.1, s.2.1, s.2.2.1, s.2.2.2) = some s := t2
  have t3 : F_ref21_Twin mx (v.1, v.2.1, v.2.2.1, v.2.2.2.1, v.2.2.2.2.1, v.2.2.2.2.2) = some v := t3
  obtain ⟨x, hx1, hx2⟩ := next_both (a := a) h1 h2
  obtain ⟨y, hy1, hy2⟩ := whose_both a
  obtain ⟨u, hu1, hu2, u1, u2, u3, u4⟩ := up_both hf h1 h2
  obtain ⟨d, hd1, hd2, d1, d2, d3⟩ := down_both hs hv a
  obtain ⟨z, hz1, hz2⟩ := sure_both hs k b
  have q1 := rsameS_ok (s := (u.1, u.2.1, u.2.2.1, u.2.2.2.1)) (by dsimp only; omega)
  have q2 := rsame21 (v := (u.2.2.2.2.1, u.2.2.2.2.2.1, u.2.2.2.2.2.2.1, u.2.2.2.2.2.2.2.1, u.2.2.2.2.2.2.2.2.1, u.2.2.2.2.2.2.2.2.2.1)) (by dsimp only; omega) (by dsimp only; omega)
  have q3 := rsameC_ok (cs := u.2.2.2.2.2.2.2.2.2.2.1) (by omega)
  have q4 := rsame25_ok (f := (d.1, d.2.1, d.2.2.1, d.2.2.2.1, d.2.2.2.2.1, d.2.2.2.2.2.1, d.2.2.2.2.2.2.1, d.2.2.2.2.2.2.2.1)) (by dsimp only; omega) (by dsimp only; omega)
  have q5 := rsameC_ok (cs := d.2.2.2.2.2.2.2.2.1) (by omega)
  obtain ⟨r1, hr1⟩ := l1_ok (l := u.2.2.2.2.2.2.1) (by omega)
  obtain ⟨r2, hr2⟩ := l2_ok (l := d.2.2.2.2.1) (by omega)
  have q6 := rsame25_ok (f := f) (by omega) (by omega)
  have q7 := rsameS_ok (s := s) (by omega)
  have q8 := rsame21 (v := v) (by omega) (by omega)
  have q6 : F_ref25_Same mx (f.1, f.2.1, f.2.2.1, f.2.2.2.1, f.2.2.2.2.1, f.2.2.2.2.2.1, f.2.2.2.2.2.2.1, f.2.2.2.2.2.2.2, f.1, f.2.1, f.2.2.1, f.2.2.2.1, f.2.2.2.2.1, f.2.2.2.2.2.1, f.2.2.2.2.2.2.1, f.2.2.2.2.2.2.2) = some true := q6
  have q7 : F_ref24_SameSender mx (s.1, s.2.1, s.2.2.1, s.2.2.2, s.1, s.2.1, s.2.2.1, s.2.2.2) = some true := q7
  have q8 : F_ref21_Same mx (v.1, v.2.1, v.2.2.1, v.2.2.2.1, v.2.2.2.2.1, v.2.2.2.2.2, v.1, v.2.1, v.2.2.1, v.2.2.2.1, v.2.2.2.2.1, v.2.2.2.2.2) = some true := q8
  dsimp only at q1 q2 q4
  simp only [cond_false, t1, t2, t3, Option.bind_some, hx1, hx2, hy1, hy2, hu1, hu2, hd1, hd2, hz1, hz2, bne_self_eq_false, q1, q2, q3, q4, q5, q6, q7, q8, Bool.not_true, beq_self_eq_true, hr1, hr2, cond_true]
theorem pure (q : Int × Int × Int × (List Int) × (List (Int × (List Int) × (List Int) × Int × Int × Int)) × Int × Int × Bool × Int × Int × Int × (List (List Int)) × Int × (List Int) × (List (Int × (List Int) × (List Int) × Int × Int × Int)) × Int × Int × Bool × Int × Int × Int × Bool) (h : wfIns F_law26_PromoteTurns.sig.pars q) : F_law26_PromoteTurns mx q = some true := by
  obtain ⟨e, n, t, qs, l, ie, inn, ib, e2, n2, a2, rs, t2, qs2, l2, ie2, inn2, ib2, a, w, k, b⟩ := q
  refine main (f := (e, n, t, qs, l, ie, inn, ib)) (s := (e2, n2, a2, rs)) (v := (t2, qs2, l2, ie2, inn2, ib2)) h.1.2.2.2.2.1.2 (fun k hk => ?_) ⟨h.2.1.2.2.2.1.2, fun r hr => ⟨fun x hx => wfu8 ((h.2.1.2.2.2.1.1 r hr).1 x hx), (h.2.1.2.2.2.1.1 r hr).2⟩⟩ h.2.2.1.2.2.1.2 (fun k hk => ?_) a w k (wf64 h.2.2.2.2.1.1).1 (wf64 h.2.2.2.2.1.1).2 b
  · have := h.1.2.2.2.2.1.1 k hk
    exact ⟨this.2.1.2, this.2.2.1.2⟩
  · have := h.2.2.1.2.2.1.1 k hk
    exact ⟨this.2.1.2, this.2.2.1.2⟩
end Go.Proofs.YtajlmgpcfbhgjaaGreat.promoteTurns
