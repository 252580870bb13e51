/- A follower. -/
import Derived.Test.YtepgfpihfpjefaaGreatKNc
namespace Go.Proofs.YtepgfpihfpjefaaGreat
open Go.Abs
set_option maxRecDepth 100000
abbrev Fol := Int × Int × Img
def okF (f : Fol) : Prop := inN f.1 ∧ inN f.2.1 ∧ okI f.2.2 ∧ f.2.2.2.2.2.1 = f.1 ∧ f.2.2.2.2.2.2.1 = f.2.1 ∧ f.2.2.2.2.2.2.2 = false
instance (f : Fol) : Decidable (okF f) := by unfold okF; infer_instance
def wfF (f : Fol) : Prop := ∀ k ∈ f.2.2.2.2.1, k.2.1.length ≤ 140737488351232 ∧ k.2.2.1.length ≤ 140737488351232
theorem inF_ok (x : Int) : F_follow_in mx x = some (decide (inN x)) := by
  simp only [F_follow_in]
  by_cases h : 0 ≤ x
  · rw [decide_eq_true h, cond_true]; congr 1; exact decide_eq_decide.2 ⟨fun hh => ⟨h, hh⟩, fun hh => hh.2⟩
  · rw [decide_eq_false h, decide_eq_false (fun hh : inN x => h hh.1)]; rfl
theorem fcheck_ok {f : Fol} (hb : ∀ k ∈ f.2.2.2.2.1, k.2.1.length ≤ 140737488351232 ∧ k.2.2.1.length ≤ 140737488351232) : F_follow_Check mx f = some (if okF f then 0 else 8) := by
  have hic := check_ok (v := f.2.2) hb
  obtain ⟨e, n, t, q, l, ie, inn, ib⟩ := f
  dsimp only at hic
  simp only [F_follow_Check, inF_ok, Option.bind_some, hic, bne_int]
  by_cases h1 : inN e
  case neg => rw [decide_eq_false h1, if_neg (fun h : okF (e, n, t, q, l, ie, inn, ib) => h1 h.1)]; rfl
  by_cases h2 : inN n
  case neg => rw [decide_eq_true h1, decide_eq_false h2, if_neg (fun h : okF (e, n, t, q, l, ie, inn, ib) => h2 h.2.1)]; rfl
  rw [decide_eq_true h1, decide_eq_true h2]
  by_cases h3 : okI (t, q, l, ie, inn, ib)
  case neg => rw [if_neg h3, if_neg (fun h : okF (e, n, t, q, l, ie, inn, ib) => h3 h.2.2.1)]; rfl
  rw [if_pos h3]
  by_cases h4 : ie = e
  case neg => rw [decide_eq_false h4, if_neg (fun h : okF (e, n, t, q, l, ie, inn, ib) => h4 h.2.2.2.1)]; rfl
  by_cases h5 : inn = n
  case neg => rw [decide_eq_true h4, decide_eq_false h5, if_neg (fun h : okF (e, n, t, q, l, ie, inn, ib) => h5 h.2.2.2.2.1)]; rfl
  rw [decide_eq_true h4, decide_eq_true h5]
  cases ib with
  | true => rw [if_neg (fun h : okF (e, n, t, q, l, ie, inn, true) => by have := h.2.2.2.2.2; cases this)]; rfl
  | false => rw [if_pos (show okF (e, n, t, q, l, ie, inn, false) from ⟨h1, h2, h3, h4, h5, rfl⟩)]; rfl
def withEN (v : Img) (e n : Int) : Img := (v.1, v.2.1, v.2.2.1, e, n, false)
theorem ftwin_ok {v : Img} (h : okI v) (e n : Int) : F_follow_twin mx (v.1, v.2.1, v.2.2.1, v.2.2.2.1, v.2.2.2.2.1, v.2.2.2.2.2, e, n) = some (withEN v e n) := by
  have h1 := h.2.1.2.1
  have h2 := h.2.2.1
  have c1 : Nat.ble v.2.1.length 4294967296 = true := ble_t (by omega)
  have c2 : Nat.ble v.2.2.1.length 4294967296 = true := ble_t (by omega)
  simp only [F_follow_twin, C_slices_Clone_int, c1, C_slices_Clone_Kept, c2, cond_true, Option.bind_some]
  rfl
theorem withEN_ok {v : Img} (h : okI v) {e n : Int} (he : inN e) (hn : inN n) : okI (withEN v e n) := by
  obtain ⟨h1, h2, h3, h4, h5, h6, h7⟩ := h
  exact ⟨h1, h2, h3, he, hn, h6, h7⟩
/-- No change of the terms. -/
def plainC (cs : List Chg) : Prop := ∀ c ∈ cs, c.1 ≠ 6 ∧ c.1 ≠ 7
theorem contains_ok {cs : List Chg} (hl : cs.length ≤ 1000000) : ∃ B, F_slices_ContainsFunc_Change mx cs = some B ∧ (B = false ↔ plainC cs) := by
  simp only [F_slices_ContainsFunc_Change, F_slices_IndexFunc_Change]
  have hstep : ∀ i, i < cs.length → F_slices_IndexFunc_Change.l26 mx cs (cs.length : Int) (i : Int) = some (bif decide ((cs.getD i C0).1 ≠ 6 ∧ (cs.getD i C0).1 ≠ 7) then .next ((i + 1 : Nat) : Int) else .fin (.inl (i : Int))) := fun i hi => by
    have hr : ∀ r : Int × List Int × List Int × Int × Int × Int × List Int × Int × Int × Bool, F_follow_record_c1 mx ((cs.getD i C0).1, r) = some (!decide ((cs.getD i C0).1 ≠ 6 ∧ (cs.getD i C0).1 ≠ 7)) := fun r => by
      simp only [F_follow_record_c1, ieq]
      by_cases h6 : (cs.getD i C0).1 = 6
      · rw [decide_eq_true h6, decide_eq_false (fun h : (cs.getD i C0).1 ≠ 6 ∧ (cs.getD i C0).1 ≠ 7 => h.1 h6)]; rfl
      · rw [decide_eq_false h6]
        by_cases h7 : (cs.getD i C0).1 = 7
        · rw [decide_eq_true h7, decide_eq_false (fun h : (cs.getD i C0).1 ≠ 6 ∧ (cs.getD i C0).1 ≠ 7 => h.2 h7)]; rfl
        · rw [decide_eq_false h7, decide_eq_true (show (cs.getD i C0).1 ≠ 6 ∧ (cs.getD i C0).1 ≠ 7 from ⟨h6, h7⟩)]; rfl
    simp only [F_slices_IndexFunc_Change.l26, ltd hi, lez, Bool.and_self, cond_true, Int.toNat_natCast, hr, Option.bind_some]
    rw [inc64 (by omega)]
    cases decide ((cs.getD i C0).1 ≠ 6 ∧ (cs.getD i C0).1 ≠ 7) <;> rfl
  rcases iter_scan (f := F_slices_IndexFunc_Change.l26 mx cs (cs.length : Int)) (fun i => (i : Int)) cs.length (fun i => (cs.getD i C0).1 ≠ 6 ∧ (cs.getD i C0).1 ≠ 7) (lt_N0 (by omega)) (fun i => .inl (i : Int)) (.inr ())
    (fun i hi hp _ => by rw [hstep i hi, decide_eq_true hp]; rfl)
    (fun i hi hp _ => by rw [hstep i hi, decide_eq_false hp]; rfl)
    (fun _ => by simp only [F_slices_IndexFunc_Change.l26, nltd, cond_false]) with ⟨h, e⟩ | ⟨i, hi, hp, _, e⟩
  · have e : iter mx (F_slices_IndexFunc_Change.l26 mx cs (cs.length : Int)) (0 : Int) = _ := e
    rw [e]
    refine ⟨false, rfl, fun _ c hc => ?_, fun _ => rfl⟩
    obtain ⟨j, hj, rfl⟩ := List.mem_iff_getElem.1 hc
    have := h j hj
    rwa [getD_some hj] at this
  · have e : iter mx (F_slices_IndexFunc_Change.l26 mx cs (cs.length : Int)) (0 : Int) = _ := e
    rw [e]
    refine ⟨true, ?_, fun h => (by cases h), fun h => absurd (h _ (getD_lt hi)) hp⟩
    simp only [Option.bind_some, lez]
theorem nwrite_bad {m : Msg} (hk : 0 ≤ m.1 ∧ m.1 ≤ 255) (hb : bytesI m.2.2.2) (hm : ¬ mayM m) : F_numbers_Write mx m = some ([], 8) := by
  obtain ⟨B, hB, hBi⟩ := mayN_ok hk hb
  have : B = false := Bool.eq_false_iff.2 fun h => hm (hBi.1 h)
  obtain ⟨kd, e, n, a⟩ := m
  simp only [F_numbers_Write, hB, this, Option.bind_some, Bool.not_false, cond_true]
theorem may_len {m : Msg} (h : mayM m) : m.2.2.2.length ≤ 65536 := by
  rcases h.2.2 with h | h | h | h
  · obtain ⟨cs, hc⟩ := h.2.2
    have := (chErr_zero.1 hc.1).2.2
    rw [hc.2.1] at this; exact this
  · rw [h.2]; simp
  · rw [h.2]; simp
  · obtain ⟨v, hv, _⟩ := h.2
    exact (writeS_ok hv).2.2
abbrev FR := Int × Int × Int × List Int × List Kept × Int × Int × Bool × Int × List Msg × Int
def frOf (f : Fol) (what : Int) (l : List Msg) : FR := (f.1, f.2.1, f.2.2.1, f.2.2.2.1, f.2.2.2.2.1, f.2.2.2.2.2.1, f.2.2.2.2.2.2.1, f.2.2.2.2.2.2.2, what, l, 0)
def frBad (e : Int) : FR := (0, 0, 0, [], [], 0, 0, false, 0, [], e)
/-- What a follower does with a message. -/
inductive Heard (f : Fol) (m : Msg) : FR → Prop
  | bad (h : ¬ (okF f ∧ mayM m)) : Heard f m (frBad 8)
  | elder (h : okF f ∧ mayM m) (he : m.2.1 < f.1) : Heard f m (frBad 250)
  | other (h : okF f ∧ mayM m) (he : f.1 ≤ m.2.1) (hk : m.1 ≠ 1 ∧ m.1 ≠ 4) : Heard f m (frOf f 0 [])
  | had (h : okF f ∧ mayM m) (he : m.2.1 = f.1) (hk : m.1 = 1 ∨ m.1 = 4) (hn : m.2.2.1 ≤ f.2.1) : Heard f m (frOf f 0 [(2, f.1, f.2.1, [])])
  | image (h : okF f ∧ mayM m) (he : f.1 ≤ m.2.1) (hk : m.1 = 4) (hn : ¬ (m.2.1 = f.1 ∧ m.2.2.1 ≤ f.2.1)) (v : Img) (hv : writeS v = (m.2.2.2, 0)) (hw : wfIm v) : Heard f m (frOf (m.2.1, m.2.2.1, withEN v m.2.1 m.2.2.1) 2 [(2, m.2.1, m.2.2.1, [])])
  | gap (h : okF f ∧ mayM m) (he : f.1 ≤ m.2.1) (hk : m.1 = 1) (hn : m.2.1 ≠ f.1 ∨ f.2.1 + 1 < m.2.2.1) : Heard f m (frOf f 0 [(3, f.1, f.2.1, [])])
  | next (h : okF f ∧ mayM m) (he : m.2.1 = f.1) (hk : m.1 = 1) (hn : m.2.2.1 = f.2.1 + 1) (cs : List Chg) (w : Img) (hc : IsCh m.2.2.2 cs) (hp : plainC cs) (hw : applyL f.2.2 cs = .inr w) :
      Heard f m (frOf (f.1, m.2.2.1, (w.1, w.2.1, w.2.2.1, w.2.2.2.1, m.2.2.1, w.2.2.2.2.2)) 1 [(2, f.1, m.2.2.1, [])])
  | not (h : okF f ∧ mayM m) (he : m.2.1 = f.1) (hk : m.1 = 1) (hn : m.2.2.1 = f.2.1 + 1) (hno : ¬ ∃ cs w, IsCh m.2.2.2 cs ∧ plainC cs ∧ applyL f.2.2 cs = .inr w) : Heard f m (frOf f 0 [])
theorem one_plain {v w : Img} {c : Chg} (h : c.1 ≠ 6 ∧ c.1 ≠ 7) (ho : oneS v c = .inr w) : w.2.2.2 = v.2.2.2 := by
  unfold oneS at ho
  repeat' split at ho
  all_goals (first | (cases ho; rfl) | (cases ho; exfalso; omega) | cases ho)
theorem apply_plain : ∀ {cs : List Chg} {v w : Img}, plainC cs → applyL v cs = .inr w → w.2.2.2 = v.2.2.2
  | [], _, _, _, e => by cases e; rfl
  | c :: cs, v, w, h, e => by
    rw [applyL] at e
    cases ho : oneS v c with
    | inl e2 => rw [ho] at e; cases e
    | inr u =>
      rw [ho] at e
      exact (apply_plain (cs := cs) (fun x hx => h x (by simp [hx])) e).trans (one_plain (h c (by simp)) ho)
/-- What holds of a follower that has heard. -/
theorem heard_ok {f : Fol} {m : Msg} {r : FR} (h : Heard f m r) : ((∃ e, r = frBad e ∧ (e = 8 ∨ (e = 250 ∧ m.2.1 < f.1)))) ∨
    ∃ g what l, r = frOf g what l ∧ okF g ∧ f.1 ≤ g.1 ∧ (g.1 = f.1 → f.2.1 ≤ g.2.1) ∧ (l = [] ∨ l = [(2, g.1, g.2.1, [])] ∨ l = [(3, g.1, g.2.1, [])]) ∧ f.1 ≤ m.2.1 ∧
      ((what = 0 ∧ g = f) ∨ (what = 1 ∧ g.1 = f.1 ∧ g.2.1 = f.2.1 + 1 ∧ m.1 = 1 ∧ m.2.1 = f.1 ∧ m.2.2.1 = g.2.1) ∨
        (what = 2 ∧ m.1 = 4 ∧ ∃ v, writeS v = (m.2.2.2, 0) ∧ wfIm v ∧ g = (m.2.1, m.2.2.1, withEN v m.2.1 m.2.2.1))) := by
  cases h with
  | bad h => exact .inl ⟨8, rfl, .inl rfl⟩
  | elder h he => exact .inl ⟨250, rfl, .inr ⟨rfl, he⟩⟩
  | other h he hk => exact .inr ⟨f, 0, [], rfl, h.1, Int.le_refl _, fun _ => Int.le_refl _, .inl rfl, he, .inl ⟨rfl, rfl⟩⟩
  | had h he hk hn => exact .inr ⟨f, 0, _, rfl, h.1, Int.le_refl _, fun _ => Int.le_refl _, .inr (.inl rfl), by omega, .inl ⟨rfl, rfl⟩⟩
  | image h he hk hn v hv hw =>
    refine .inr ⟨(m.2.1, m.2.2.1, withEN v m.2.1 m.2.2.1), 2, _, rfl, ⟨h.2.1, h.2.2.1, withEN_ok (writeS_ok hv).1 h.2.1 h.2.2.1, rfl, rfl, rfl⟩, he, fun hh => ?_, .inr (.inl rfl), he, .inr (.inr ⟨rfl, hk, v, hv, hw, rfl⟩)⟩
    have hh : m.2.1 = f.1 := hh
    have : ¬ m.2.2.1 ≤ f.2.1 := fun h2 => hn ⟨hh, h2⟩
    show f.2.1 ≤ m.2.2.1
    omega
  | gap h he hk hn => exact .inr ⟨f, 0, _, rfl, h.1, Int.le_refl _, fun _ => Int.le_refl _, .inr (.inr rfl), he, .inl ⟨rfl, rfl⟩⟩
  | next h he hk hn cs w hc hp hw =>
    have hpl := apply_plain hp hw
    have hok := apply_okI h.1.2.2.1 (chErr_zero.1 hc.1).2.1 hw
    obtain ⟨o1, o2, o3, o4, o5, o6⟩ := h.1
    have e1 : w.2.2.2.1 = f.1 := by rw [hpl]; exact o4
    have e3 : w.2.2.2.2.2 = false := by rw [hpl]; exact o6
    refine .inr ⟨(f.1, m.2.2.1, (w.1, w.2.1, w.2.2.1, w.2.2.2.1, m.2.2.1, w.2.2.2.2.2)), 1, _, rfl, ⟨o1, h.2.2.1, ?_, e1, rfl, e3⟩, Int.le_refl _, fun _ => ?_, .inr (.inl rfl), by omega, .inr (.inl ⟨rfl, rfl, hn, hk, he, rfl⟩)⟩
    · obtain ⟨h1, h2, h3, h4, h5, h6, h7⟩ := hok
      exact ⟨h1, h2, h3, h4, h.2.2.1, h6, h7⟩
    · show f.2.1 ≤ m.2.2.1
      omega
  | not h he hk hn hno => exact .inr ⟨f, 0, [], rfl, h.1, Int.le_refl _, fun _ => Int.le_refl _, .inl rfl, by omega, .inl ⟨rfl, rfl⟩⟩
end Go.Proofs.YtepgfpihfpjefaaGreat
