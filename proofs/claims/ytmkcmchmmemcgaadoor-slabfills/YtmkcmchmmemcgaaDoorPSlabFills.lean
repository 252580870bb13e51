/- The plain law of SlabFills. -/
import Derived.Test.YtmkcmchmmemcgaaDoorK4
namespace Go.Proofs.YtmkcmchmmemcgaaDoor.slabFills
open Go.Abs
set_option maxRecDepth 100000

theorem shr_ch {c : Int} (h : 0 ≤ c ∧ c < 5) : IntKind.u64.wrap c = c ∧ shrOp .i64 (16 : Int) c = (ch c : Int) := by
  have : c = 0 ∨ c = 1 ∨ c = 2 ∨ c = 3 ∨ c = 4 := by omega
  rcases this with h | h | h | h | h <;> subst h <;> exact ⟨by kernel_rfl, by kernel_rfl⟩

/-- How many chunks of the page i are used when n are taken. -/
def lvl (e n i : Nat) : Nat := if i < n / e then e else if i = n / e then n % e else 0
def page (t c : Int) (e n i : Nat) : Pg := if lvl e n i = 0 then (0, 0, 0) else (t, c, 2 ^ lvl e n i - 1)
def fill (t c : Int) (e pages n : Nat) : List Pg := (List.range pages).map (page t c e n)
theorem fill_len {t c : Int} {e pages n : Nat} : (fill t c e pages n).length = pages := by simp [fill]
theorem fill_get {t c : Int} {e pages n i : Nat} (h : i < pages) : (fill t c e pages n).getD i (0, 0, 0) = page t c e n i := by
  rw [getD_some (by rw [fill_len]; exact h)]
  simp [fill]
theorem lvl_le {e n i : Nat} (he : 1 ≤ e) : lvl e n i ≤ e := by
  unfold lvl
  have := Nat.mod_lt n he
  repeat' split
  all_goals omega
theorem pow_int (k : Nat) : ((2 ^ k : Nat) : Int) = 2 ^ k := by simp
theorem page_ok {t c : Int} {n i : Nat} (ht : 0 ≤ t ∧ t < 4) (hc : 0 ≤ c ∧ c < 5) : okP (page t c (ch c) n i) ∧ wfP (page t c (ch c) n i) := by
  have hl := lvl_le (n := n) (i := i) (ch_pos c)
  have hcl := ch_le c
  unfold page
  by_cases h : lvl (ch c) n i = 0
  · rw [if_pos h]; exact ⟨by decide, by simp [wfP]⟩
  · rw [if_neg h]
    have h1 := Nat.pow_le_pow_right (n := 2) (by decide) (show 1 ≤ lvl (ch c) n i by omega)
    have h2 := Nat.pow_le_pow_right (n := 2) (by decide) hl
    have h3 := Nat.pow_le_pow_right (n := 2) (by decide) hcl
    have e := pow_int (lvl (ch c) n i)
    have hne : (2 : Int) ^ lvl (ch c) n i - 1 ≠ 0 := by rw [← e]; omega
    refine ⟨?_, ?_⟩
    · rw [okP1 hne]
      refine ⟨ht, hc, ?_⟩
      simp only
      rw [← e]; omega
    · simp only [wfP]; rw [← e]; omega
theorem fill_ok {t c : Int} {pages n : Nat} (hp : 1 ≤ pages ∧ pages ≤ 16) (ht : 0 ≤ t ∧ t < 4) (hc : 0 ≤ c ∧ c < 5) : okS (fill t c (ch c) pages n) ∧ wfS (fill t c (ch c) pages n) := by
  constructor
  · refine ⟨by rw [fill_len]; exact hp.1, by rw [fill_len]; exact hp.2, fun k hk => ?_⟩
    rw [fill_len] at hk
    rw [fill_get hk]; exact (page_ok ht hc).1
  · intro k hk
    rw [fill_len] at hk
    rw [fill_get hk]; exact (page_ok ht hc).2

theorem page_free {t c : Int} {e n i : Nat} : (page t c e n i).2.2 = 0 ↔ lvl e n i = 0 := by
  unfold page
  by_cases h : lvl e n i = 0
  · rw [if_pos h]; simp [h]
  · rw [if_neg h]
    have h1 := Nat.pow_le_pow_right (n := 2) (by decide) (show 1 ≤ lvl e n i by omega)
    have e2 := pow_int (lvl e n i)
    simp only [h, iff_false]
    rw [← e2]; omega
theorem page_room {t c : Int} {n i pages : Nat} (hi : i < pages) (hc : 0 ≤ c ∧ c < 5) : hasRoom (fill t c (ch c) pages n) t c i ↔ 0 < lvl (ch c) n i ∧ lvl (ch c) n i < ch c := by
  have hl := lvl_le (n := n) (i := i) (ch_pos c)
  unfold hasRoom
  rw [fill_get hi, Ne, page_free]
  by_cases h : lvl (ch c) n i = 0
  · simp [h]
  · have hpg : page t c (ch c) n i = (t, c, 2 ^ lvl (ch c) n i - 1) := by unfold page; rw [if_neg h]
    rw [hpg]
    have e1 := pow_int (lvl (ch c) n i)
    have e2 := pow_int (ch c)
    constructor
    · rintro ⟨_, _, _, h4⟩
      refine ⟨by omega, ?_⟩
      rcases Nat.lt_or_ge (lvl (ch c) n i) (ch c) with g | g
      · exact g
      · exact absurd (by rw [show lvl (ch c) n i = ch c by omega]) h4
    · rintro ⟨_, h4⟩
      have := Nat.pow_lt_pow_right (show 1 < 2 by decide) h4
      have := Nat.two_pow_pos (lvl (ch c) n i)
      refine ⟨h, rfl, rfl, ?_⟩
      simp only
      rw [← e1, ← e2]; omega
theorem free_iff {t c : Int} {n i pages : Nat} (hi : i < pages) : isFree (fill t c (ch c) pages n) i ↔ lvl (ch c) n i = 0 := by
  unfold isFree
  rw [fill_get hi, page_free]
theorem ownd_iff {t c : Int} {n i pages : Nat} (hi : i < pages) : ownd (fill t c (ch c) pages n) t i ↔ lvl (ch c) n i ≠ 0 := by
  unfold ownd
  rw [fill_get hi, Ne, page_free]
  constructor
  · exact fun h => h.1
  · intro h
    refine ⟨h, ?_⟩
    unfold page
    rw [if_neg h]
/-- How many pages are begun. -/
theorem cnt_fill {t c : Int} {n pages m : Nat} (hm : ∀ i, i < pages → (lvl (ch c) n i ≠ 0 ↔ i < m)) (hle : m ≤ pages) : cntTo (fill t c (ch c) pages n) t pages = m := by
  have key : ∀ k, k ≤ pages → cntTo (fill t c (ch c) pages n) t k = (min k m : Nat) := by
    intro k
    induction k with
    | zero => intro _; simp [cntTo, sumTo]
    | succ k ih =>
      intro hk
      have := ih (by omega)
      unfold cntTo at this ⊢
      simp only [sumTo, this]
      have h1 := (ownd_iff (t := t) (c := c) (n := n) (show k < pages by omega)).trans (hm k (by omega))
      by_cases h : k < m
      · rw [if_pos (h1.2 h)]; omega
      · rw [if_neg (fun hh => h (h1.1 hh))]; omega
  have := key pages (Nat.le_refl _)
  rw [this]
  congr 1
  omega
/-- The least chunk of a page whose lowest r are used. -/
theorem least_low {r k : Nat} (h : least ((2 : Int) ^ r - 1) k) (hr : r ≤ 16) : k = r := by
  obtain ⟨h1, h2⟩ := least_bit h
  have e := pow_int r
  have hp := Nat.two_pow_pos r
  have e2 : ((2 : Int) ^ r - 1).toNat = 2 ^ r - 1 := by rw [← e]; omega
  rw [e2] at h1 h2
  rcases Nat.lt_trichotomy k r with g | g | g
  · exfalso
    rw [bit_eq, Nat.testBit_two_pow_sub_one] at h1
    simp [g] at h1
  · exact g
  · exfalso
    have := Nat.pow_lt_pow_right (show 1 < 2 by decide) g
    rw [Nat.mod_eq_of_lt (by omega)] at h2
    omega

theorem step {t c q : Int} {pages n : Nat} (hp : 1 ≤ pages ∧ pages ≤ 16) (ha : okArg t c q) (hn : n < min q.toNat pages * ch c) :
    F_slab_Take mx (fill t c (ch c) pages n, t, c, q) = some (fill t c (ch c) pages (n + 1), ((n / ch c : Nat) : Int), ((n % ch c : Nat) : Int), 0) := by
  obtain ⟨ht, hc, hq⟩ := ha
  obtain ⟨hs, hw⟩ := fill_ok (n := n) hp ht hc
  have he := ch_pos c
  have hcl := ch_le c
  have hdiv : n / ch c < min q.toNat pages := by rw [Nat.div_lt_iff_lt_mul (by omega)]; exact hn
  have hmod := Nat.mod_lt n (show 0 < ch c by omega)
  have hlv : lvl (ch c) n (n / ch c) = n % ch c := by simp [lvl]
  -- the page that is taken
  have hpage : ∀ p, Taken (fill t c (ch c) pages n) t c q (some p) → p = n / ch c := by
    intro p hT
    cases hT with
    | room _ hp1 h _ =>
      rw [fill_len] at hp1
      have := (page_room hp1 hc).1 h
      unfold lvl at this
      by_cases h1 : p < n / ch c
      · simp only [h1, if_true] at this; omega
      · by_cases h2 : p = n / ch c
        · exact h2
        · simp only [h1, h2, if_false] at this; omega
    | free _ hp1 no _ h before =>
      rw [fill_len] at hp1 no
      have h0 := (free_iff hp1).1 h
      have h1 : n % ch c = 0 := by
        have := no (n / ch c) (by omega)
        rw [page_room (by omega) hc, hlv] at this
        omega
      unfold lvl at h0
      by_cases h2 : p < n / ch c
      · simp only [h2, if_true] at h0; omega
      · by_cases h3 : p = n / ch c
        · exact h3
        · exfalso
          refine before (n / ch c) (by omega) ((free_iff (by omega)).2 (by rw [hlv]; exact h1))
  rcases take_ok hs hw ⟨ht, hc, hq⟩ with ⟨hT, _⟩ | ⟨p, k, hT, hk, e⟩
  · exfalso
    obtain ⟨no, hfree⟩ : (∀ i, i < (fill t c (ch c) pages n).length → ¬ hasRoom (fill t c (ch c) pages n) t c i) ∧ (cntTo (fill t c (ch c) pages n) t (fill t c (ch c) pages n).length < q → ∀ i, i < (fill t c (ch c) pages n).length → ¬ isFree (fill t c (ch c) pages n) i) := by cases hT with | none a b => exact ⟨a, b⟩
    rw [fill_len] at no hfree
    have h1 : n % ch c = 0 := by
      have := no (n / ch c) (by omega)
      rw [page_room (by omega) hc, hlv] at this
      omega
    have hcnt : cntTo (fill t c (ch c) pages n) t pages = (n / ch c : Nat) := cnt_fill (fun i hi => by
      unfold lvl
      by_cases h2 : i < n / ch c
      · rw [if_pos h2]; exact ⟨fun _ => h2, fun _ => by omega⟩
      · by_cases h3 : i = n / ch c
        · rw [if_neg h2, if_pos h3]; exact ⟨fun hh => absurd h1 hh, fun hh => absurd hh h2⟩
        · rw [if_neg h2, if_neg h3]; exact ⟨fun hh => absurd rfl hh, fun hh => absurd hh h2⟩) (by omega)
    exact hfree (by rw [hcnt]; omega) (n / ch c) (by omega) ((free_iff (by omega)).2 (by rw [hlv]; exact h1))
  · obtain rfl := hpage p hT
    have hpp : n / ch c < pages := by omega
    have hu : ((fill t c (ch c) pages n).getD (n / ch c) (0, 0, 0)).2.2 = 2 ^ (n % ch c) - 1 := by
      rw [fill_get hpp]
      unfold page
      rw [hlv]
      by_cases h : n % ch c = 0
      · rw [if_pos h, h]; rfl
      · rw [if_neg h]
    rw [hu] at hk
    have hkr := least_low hk (by omega)
    subst hkr
    rw [e]
    congr 2
    -- the slab behind it
    have hl1 : (put (fill t c (ch c) pages n) t c (n / ch c) (n % ch c)).length = pages := by simp [put, fill_len]
    refine List.ext_getElem (by rw [hl1, fill_len]) fun i h1 h2 => ?_
    rw [hl1] at h1
    have g1 : (put (fill t c (ch c) pages n) t c (n / ch c) (n % ch c)).getD i (0, 0, 0) = (fill t c (ch c) pages (n + 1)).getD i (0, 0, 0) := by
      rw [fill_get h1]
      have hdm := Nat.div_add_mod n (ch c)
      have hnext : (n % ch c + 1 < ch c ∧ (n + 1) / ch c = n / ch c ∧ (n + 1) % ch c = n % ch c + 1) ∨ (n % ch c + 1 = ch c ∧ (n + 1) / ch c = n / ch c + 1 ∧ (n + 1) % ch c = 0) := by
        by_cases h : n % ch c + 1 < ch c
        · left
          refine ⟨h, ?_, ?_⟩
          · rw [show n + 1 = ch c * (n / ch c) + (n % ch c + 1) by omega, Nat.mul_add_div (by omega), Nat.div_eq_of_lt h]; omega
          · rw [show n + 1 = ch c * (n / ch c) + (n % ch c + 1) by omega, Nat.mul_add_mod, Nat.mod_eq_of_lt h]
        · right
          have h' : n % ch c + 1 = ch c := by omega
          have e1 : n + 1 = ch c * (n / ch c + 1) := by rw [Nat.mul_add, Nat.mul_one]; omega
          refine ⟨h', ?_, ?_⟩
          · rw [e1, Nat.mul_div_cancel_left _ (by omega)]
          · rw [e1, Nat.mul_mod_right]
      by_cases hi : i = n / ch c
      · subst hi
        rw [put, gset_self (by rw [fill_len]; exact hpp), hu]
        have hlv2 : lvl (ch c) (n + 1) (n / ch c) = n % ch c + 1 := by
          unfold lvl
          rcases hnext with ⟨a1, a2, a3⟩ | ⟨a1, a2, a3⟩
          · rw [a2, a3]; simp
          · rw [a2, if_pos (by omega)]; omega
        unfold page
        rw [hlv2, if_neg (by omega)]
        congr 2
        rw [Int.pow_succ]; omega
      · rw [put, gset_ne (Ne.symm hi), fill_get h1]
        have : lvl (ch c) (n + 1) i = lvl (ch c) n i := by
          unfold lvl
          rcases hnext with ⟨a1, a2, a3⟩ | ⟨a1, a2, a3⟩
          · rw [a2]; simp [hi]
          · rw [a2, a3]
            by_cases h3 : i < n / ch c
            · rw [if_pos h3, if_pos (by omega)]
            · rw [if_neg h3, if_neg (by omega), if_neg hi]
              simp
        unfold page
        rw [this]
    rw [getD_some (by rw [hl1]; exact h1), getD_some h2] at g1
    exact g1

theorem full {t c q : Int} {pages : Nat} (hp : 1 ≤ pages ∧ pages ≤ 16) (ha : okArg t c q) :
    F_slab_Take mx (fill t c (ch c) pages (min q.toNat pages * ch c), t, c, q) = some ([], 0, 0, 9) := by
  obtain ⟨ht, hc, hq⟩ := ha
  obtain ⟨hs, hw⟩ := fill_ok (n := min q.toNat pages * ch c) hp ht hc
  have he := ch_pos c
  have hlv : ∀ i, lvl (ch c) (min q.toNat pages * ch c) i = if i < min q.toNat pages then ch c else 0 := fun i => by
    unfold lvl
    rw [Nat.mul_div_cancel _ (by omega), Nat.mul_mod_left]
    by_cases h : i < min q.toNat pages
    · simp [h]
    · simp [h]
  have hcnt : cntTo (fill t c (ch c) pages (min q.toNat pages * ch c)) t pages = (min q.toNat pages : Nat) := cnt_fill (fun i hi => by
    rw [hlv]
    by_cases h : i < min q.toNat pages
    · rw [if_pos h]; exact ⟨fun _ => h, fun _ => by omega⟩
    · rw [if_neg h]; exact ⟨fun hh => absurd rfl hh, fun hh => absurd hh h⟩) (by omega)
  rcases take_ok hs hw ⟨ht, hc, hq⟩ with ⟨_, e⟩ | ⟨p, k, hT, hk, e⟩
  · exact e
  · exfalso
    cases hT with
    | room _ hp1 h _ =>
      rw [fill_len] at hp1
      have := (page_room hp1 hc).1 h
      rw [hlv] at this
      split at this <;> omega
    | free _ hp1 no hq2 h _ =>
      rw [fill_len] at hp1 hq2
      rw [hcnt] at hq2
      have := (free_iff hp1).1 h
      rw [hlv] at this
      split at this <;> omega

theorem main (pages t c q : Int) : F_law05_SlabFills mx (pages, t, c, q) = some true := by
  simp only [F_law05_SlabFills, alive_ok, Option.bind_some, Bool.not_true, cond_false, F_slab_New]
  by_cases h1 : pages < 1
  · simp [h1]
  by_cases h2 : 16 < pages
  · simp [h1, h2]
  have d1 : (decide ((0 : Int) ≤ pages) && decide (pages ≤ pages) && decide (pages ≤ (4294967296 : Int))) = true := by simp; omega
  simp only [h1, h2, decide_false, cond_false, d1, cond_true, Option.bind_some, bne_self_eq_false]
  by_cases h3 : c < 0
  · simp [h3]
  by_cases h4 : 4 < c
  · simp [h3, h4]
  by_cases h5 : t < 0
  · simp [h3, h4, h5]
  by_cases h6 : 3 < t
  · simp [h3, h4, h5, h6]
  by_cases h7 : q < 0
  · simp [h3, h4, h5, h6, h7]
  by_cases h8 : 16 < q
  · simp [h3, h4, h5, h6, h7, h8]
  have hc : 0 ≤ c ∧ c < 5 := by omega
  have ha : okArg t c q := ⟨by omega, hc, by omega⟩
  obtain ⟨e1, e2⟩ := shr_ch hc
  obtain ⟨n, rfl⟩ := Int.eq_ofNat_of_zero_le (show 0 ≤ pages by omega)
  obtain ⟨w, rfl⟩ := Int.eq_ofNat_of_zero_le (show 0 ≤ q by omega)
  have hn : 1 ≤ n ∧ n ≤ 16 := by omega
  have he := ch_pos c
  have hcl := ch_le c
  have hmin : mnI (w : Int) (n : Int) = ((min w n : Nat) : Int) := by unfold mnI; split <;> omega
  have hmul : min w n * ch c ≤ 256 := by
    have := Nat.mul_le_mul (show min w n ≤ 16 by omega) hcl
    omega
  have hwr : IntKind.i64.wrap (mnI (w : Int) (n : Int) * (ch c : Int)) = ((min w n * ch c : Nat) : Int) := by
    have : mnI (w : Int) (n : Int) * (ch c : Int) = ((min w n * ch c : Nat) : Int) := by rw [hmin]; simp
    rw [this, w64 (by omega) (by omega)]
  have hstart : List.replicate ((n : Int)).toNat ((0 : Int), ((0 : Int), (0 : Int))) = fill t c (ch c) n 0 := by
    rw [Int.toNat_natCast]
    refine List.ext_getElem (by simp [fill]) fun i a b => ?_
    have : lvl (ch c) 0 i = 0 := by
      unfold lvl
      rw [Nat.zero_div, Nat.zero_mod]
      repeat' split
      all_goals omega
    simp [fill, page, this]
  have hloop := iter_count (f := F_law05_SlabFills.l1018 mx (n : Int) t c (w : Int) true (ch c : Int)) (fun k => ((k : Int), fill t c (ch c) n k)) (min w n * ch c) (r := .inl true) (lt_N0 (by omega))
    (fun k hk => by
      have hle : decide ((k : Int) ≤ ((min w n * ch c : Nat) : Int)) = true := by simp only [decide_eq_true_eq]; omega
      have hne : ((k : Int) == ((min w n * ch c : Nat) : Int)) = false := by rw [ieq]; simp only [decide_eq_false_iff_not]; omega
      have h0 : ((ch c : Int) == 0) = false := by rw [ieq]; simp only [decide_eq_false_iff_not]; omega
      have hst := step (t := t) (c := c) (q := (w : Int)) (pages := n) (n := k) hn ha (by rw [Int.toNat_natCast]; exact hk)
      have hd : IntKind.i64.wrap ((k : Int).tdiv (ch c : Int)) = ((k / ch c : Nat) : Int) := by
        have := Nat.div_le_self k (ch c)
        rw [← Int.ofNat_tdiv]
        generalize k / ch c = y at this
        exact w64 (by omega) (by omega)
      have hm : (k : Int).tmod (ch c : Int) = ((k % ch c : Nat) : Int) := by rw [← Int.ofNat_tmod]
      simp only [F_law05_SlabFills.l1018, hwr, hle, cond_true, hst, Option.bind_some, hne, cond_false, bne_self_eq_false, h0, hd, hm]
      rw [inc64 (by omega)])
    (by
      have hle : decide (((min w n * ch c : Nat) : Int) ≤ ((min w n * ch c : Nat) : Int)) = true := by simp
      have hf := full (t := t) (c := c) (q := (w : Int)) (pages := n) hn ha
      rw [Int.toNat_natCast] at hf
      simp only [F_law05_SlabFills.l1018, hwr, hle, cond_true, hf, Option.bind_some, beq_self_eq_true])
  have d8 : decide (c < 0) = false := by simpa using h3
  simp only [h3, h4, h5, h6, h7, h8, decide_false, cond_false, e1, e2, hstart]
  rw [show ((0 : Int), fill t c (ch c) n 0) = (((0 : Nat) : Int), fill t c (ch c) n 0) from rfl, hloop]
  rfl
theorem pure (p) (_ : wfIns F_law05_SlabFills.sig.pars p) : F_law05_SlabFills mx p = some true := main p.1 p.2.1 p.2.2.1 p.2.2.2
end Go.Proofs.YtmkcmchmmemcgaaDoor.slabFills
