/- The plain law of ImageOrder. -/
import Derived.Test.YtkggcbfkhkgeaaaKS
namespace Go.Proofs.Ytkggcbfkhkgeaaa.imageOrder
open Go.Abs
set_option maxRecDepth 100000
theorem one_shape {v w : Img} {c : Chg} (ho : oneS v c = .inr w) : ∃ sub : List Kept, sub.Sublist v.2.2.1 ∧ (∀ k ∈ sub, touchN c (nm k) = false) ∧ (w.2.2.1 = sub ∨ ∃ k, w.2.2.1 = sub ++ [k] ∧ touchN c (nm k) = true) := by
  have hleft : c.1 ≠ 4 → ∀ k ∈ leftL c v.2.2.1, touchN c (nm k) = false := fun h4 k hk => by rw [← touch_nm h4]; exact (leftL_mem.1 hk).2
  have hno : c.1 ≠ 1 → c.1 ≠ 2 → c.1 ≠ 3 → ∀ x, touchN c x = false := fun k1 k2 k3 x => by unfold touchN; rw [if_neg k1, if_neg k2, if_neg k3]
  unfold oneS at ho
  by_cases g0 : c.1 ≠ 4 ∧ c.1 ≠ 6 ∧ c.1 ≠ 7 ∧ (v.2.1.length : Int) ≤ c.2.1
  · rw [if_pos g0] at ho; cases ho
  rw [if_neg g0] at ho
  by_cases k1 : c.1 = 1
  · rw [if_pos k1] at ho
    by_cases g1 : 256 < 8 + c.2.2.1.1.length + c.2.2.1.2.1.length
    · rw [if_pos g1] at ho; cases ho
    rw [if_neg g1] at ho
    by_cases g2 : dueB c.2.2.1 v.1 = true
    · rw [if_pos g2] at ho
      cases ho
      exact ⟨_, leftL_sub c _, hleft (by omega), .inl rfl⟩
    rw [if_neg g2] at ho
    by_cases g3 : (leftL c v.2.2.1).length = 1024
    · rw [if_pos g3] at ho; cases ho
    rw [if_neg g3] at ho
    cases ho
    refine ⟨_, leftL_sub c _, hleft (by omega), .inr ⟨_, rfl, ?_⟩⟩
    unfold touchN nm; rw [if_pos k1]; exact decide_eq_true ⟨rfl, rfl⟩
  rw [if_neg k1] at ho
  by_cases k4 : c.1 = 4
  · rw [if_pos k4] at ho
    by_cases g1 : c.2.2.2.2.2.1 < v.1
    · rw [if_pos g1] at ho; cases ho
    rw [if_neg g1] at ho
    cases ho
    exact ⟨_, leftL_sub c _, fun k _ => hno (by omega) (by omega) (by omega) _, .inl rfl⟩
  rw [if_neg k4] at ho
  by_cases k5 : c.1 = 5
  · rw [if_pos k5] at ho
    cases ho
    exact ⟨_, List.Sublist.refl _, fun k _ => hno (by omega) (by omega) (by omega) _, .inl rfl⟩
  rw [if_neg k5] at ho
  by_cases k6 : c.1 = 6
  · rw [if_pos k6] at ho
    by_cases g1 : c.2.2.2.2.2.1 < v.2.2.2.1
    · rw [if_pos g1] at ho; cases ho
    rw [if_neg g1] at ho
    cases ho
    exact ⟨_, List.Sublist.refl _, fun k _ => hno (by omega) (by omega) (by omega) _, .inl rfl⟩
  rw [if_neg k6] at ho
  by_cases k7 : c.1 = 7
  · rw [if_pos k7] at ho
    cases ho
    exact ⟨_, List.Sublist.refl _, fun k _ => hno (by omega) (by omega) (by omega) _, .inl rfl⟩
  rw [if_neg k7] at ho
  cases ho
  exact ⟨_, leftL_sub c _, hleft k4, .inl rfl⟩
def un (cs : List Chg) (i : Nat) (k : Kept) : Bool := decide (lastT cs (nm k) i = -1)
def Ord (cs : List Chg) (old : List Kept) (i : Nat) (l : List Kept) : Prop := l.Pairwise (fun a b => lastT cs (nm a) i ≤ lastT cs (nm b) i) ∧ (l.filter (un cs i)).Sublist old
theorem ord_step {cs : List Chg} {old : List Kept} {i : Nat} {v w : Img} (h : Ord cs old i v.2.2.1) (ho : oneS v (cs.getD i C0) = .inr w) : Ord cs old (i + 1) w.2.2.1 := by
  obtain ⟨sub, h1, h2, h3⟩ := one_shape ho
  have e : ∀ k ∈ sub, lastT cs (nm k) (i + 1) = lastT cs (nm k) i := fun k hk => by rw [lastT, h2 k hk, if_neg (by decide)]
  have p1 : sub.Pairwise (fun a b => lastT cs (nm a) (i + 1) ≤ lastT cs (nm b) (i + 1)) := by
    refine (h.1.sublist h1).imp_of_mem fun ha hb hab => ?_
    rw [e _ ha, e _ hb]; exact hab
  have p2 : (sub.filter (un cs (i + 1))).Sublist old := by
    have : sub.filter (un cs (i + 1)) = sub.filter (un cs i) := List.filter_congr fun k hk => by unfold un; rw [e k hk]
    rw [this]
    exact (h1.filter _).trans h.2
  rcases h3 with h3 | ⟨k, h3, h4⟩
  · rw [h3]; exact ⟨p1, p2⟩
  · rw [h3]
    have ek : lastT cs (nm k) (i + 1) = (i : Int) := by rw [lastT, h4, if_pos rfl]
    refine ⟨List.pairwise_append.2 ⟨p1, List.pairwise_singleton _ _, fun a ha b hb => ?_⟩, ?_⟩
    · rw [List.mem_singleton] at hb
      subst hb
      have := lastT_bd cs (nm a) i
      rw [ek, e a ha]; omega
    · rw [List.filter_append]
      have : [k].filter (un cs (i + 1)) = [] := by
        have : un cs (i + 1) k = false := by unfold un; rw [ek]; exact decide_eq_false (by omega)
        simp [this]
      rw [this, List.append_nil]; exact p2
theorem apply_ord {cs : List Chg} {old : List Kept} : ∀ (rest : List Chg) (i : Nat) (v w : Img), cs.drop i = rest → i ≤ cs.length → Ord cs old i v.2.2.1 → applyL v rest = .inr w → Ord cs old cs.length w.2.2.1
  | [], i, v, w, hd, hi, h, e => by
    have : i = cs.length := by have := congrArg List.length hd; rw [List.length_drop, List.length_nil] at this; omega
    subst this
    cases e; exact h
  | c :: rest, i, v, w, hd, hi, h, e => by
    have hil : i < cs.length := by
      have := congrArg List.length hd
      rw [List.length_drop, List.length_cons] at this; omega
    have hci : cs.getD i C0 = c := by
      rw [getD_some hil]
      have := List.drop_eq_getElem_cons hil
      rw [hd] at this
      exact (List.cons.inj this).1.symm
    have hd' : cs.drop (i + 1) = rest := by
      have := List.drop_eq_getElem_cons hil
      rw [hd] at this
      exact (List.cons.inj this).2.symm
    rw [applyL] at e
    cases ho : oneS v c with
    | inl e2 => rw [ho] at e; cases e
    | inr u =>
      rw [ho] at e
      rw [← hci] at ho
      exact apply_ord rest (i + 1) u w hd' hil (ord_step h ho) e
/-- The first place at which an element stands. -/
theorem sub_find {l : List Kept} {a : Kept} {r : List Kept} : ∀ (n f : Nat), l.length - f = n → (a :: r).Sublist (l.drop f) → ∃ p, f ≤ p ∧ p < l.length ∧ l.getD p K0 = a ∧ (∀ j, f ≤ j → j < p → l.getD j K0 ≠ a) ∧ r.Sublist (l.drop p)
  | 0, f, hn, h => by
    rw [List.drop_eq_nil_of_le (by omega)] at h
    cases h
  | n + 1, f, hn, h => by
    have hf : f < l.length := by omega
    rw [List.drop_eq_getElem_cons hf] at h
    by_cases he : l.getD f K0 = a
    · refine ⟨f, Nat.le_refl _, hf, he, fun j h1 h2 => by omega, ?_⟩
      rw [List.drop_eq_getElem_cons hf]
      exact (List.sublist_cons_self a r).trans h
    · have he' : ¬ a = l[f] := fun hh => he (by rw [getD_some hf, hh])
      have h' : (a :: r).Sublist (l.drop (f + 1)) := by
        cases h with
        | cons _ h => exact h
        | cons_cons _ h => exact absurd rfl he'
      obtain ⟨p, q1, q2, q3, q4, q5⟩ := sub_find n (f + 1) (by omega) h'
      refine ⟨p, by omega, q2, q3, fun j h1 h2 => ?_, q5⟩
      by_cases hj : j = f
      · rw [hj]; exact he
      · exact q4 j (by omega) h2
theorem scan_ok {old L : List Kept} (x1 : Int) (x2 : List Int) (x3 : Int × Int × Bool × Int) (prev : Int) {k f p : Nat} (hk : k < L.length) (hfp : f ≤ p) (hp : p < old.length) (hl : old.length ≤ 1000000) (h1 : old.getD p K0 = L.getD k K0) (h2 : ∀ j, f ≤ j → j < p → old.getD j K0 ≠ L.getD k K0) :
    iter mx (F_law21_ImageOrder.l8365288 mx old (x1, x2, L, x3) ((f : Int), prev, (k : Int))) (f : Int) = some (p : Int) := by
  have hs : ∀ j, j < old.length → F_law21_ImageOrder.s33461152 mx old (x1, x2, L, x3) ((f : Int), prev, (k : Int)) (j : Int) = some (if old.getD j K0 = L.getD k K0 then .inr () else .inl ()) := fun j hj => by
    simp only [F_law21_ImageOrder.s33461152, ltd hj, cond_true, lez, Bool.and_self, Int.toNat_natCast, ltd hk, blt_t hk, kept_beq]
    by_cases h : old.getD j K0 = L.getD k K0
    · rw [if_pos h, decide_eq_true h]; rfl
    · rw [if_neg h, decide_eq_false h]; rfl
  have := iter_count (f := F_law21_ImageOrder.l8365288 mx old (x1, x2, L, x3) ((f : Int), prev, (k : Int))) (fun i => ((f + i : Nat) : Int)) (p - f) (r := (p : Int)) (lt_N0 (by omega)) (fun i hi => by
    simp only [F_law21_ImageOrder.l8365288, hs (f + i) (by omega), if_neg (h2 (f + i) (by omega) (by omega)), Option.bind_some]
    rw [inc64 (by omega)]; rfl) (by
    rw [show f + (p - f) = p by omega]
    simp only [F_law21_ImageOrder.l8365288, hs p hp, if_pos h1, Option.bind_some])
  exact this
theorem step_ok {old L : List Kept} (x1 : Int) (x2 : List Int) (x3 : Int × Int × Bool × Int) {cs : List Chg} (hcs : cs.length ≤ 1000000) {k : Nat} (hkl : k < L.length) (hL : L.length ≤ 1000000) (f : Int) {prev : Int} (hge : prev ≤ lastT cs (nm (L.getD k K0)) cs.length) :
    F_law21_ImageOrder.l2042 mx old cs (x1, x2, L, x3) (f, prev, (k : Int)) =
      (bif decide (lastT cs (nm (L.getD k K0)) cs.length < 0) then
        (iter mx (F_law21_ImageOrder.l8365288 mx old (x1, x2, L, x3) (f, prev, (k : Int))) f).bind fun x29 =>
          bif x29 == (old.length : Int) then some (.fin (.inl false)) else some (.next (x29, lastT cs (nm (L.getD k K0)) cs.length, ((k + 1 : Nat) : Int)))
      else some (.next (f, lastT cs (nm (L.getD k K0)) cs.length, ((k + 1 : Nat) : Int)))) := by
  have hlo := last_ok (cs := cs) hcs (nm (L.getD k K0))
  have hlo : F_law21_last mx (cs, (L.getD k K0).1, (L.getD k K0).2.1) = some (lastT cs (nm (L.getD k K0)) cs.length) := hlo
  simp only [F_law21_ImageOrder.l2042, ltd hkl, cond_true, lez, Bool.and_self, Int.toNat_natCast, blt_t hkl, hlo, Option.bind_some, decide_eq_false (show ¬ lastT cs (nm (L.getD k K0)) cs.length < prev by omega), cond_false]
  rw [inc64 (by omega)]
theorem main {v : Img} (hv : wfV v) {cs : List Chg} (hcl : cs.length ≤ 140737488351232) (hw : ∀ c ∈ cs, wfC c) : F_law21_ImageOrder mx (v.1, v.2.1, v.2.2.1, v.2.2.2.1, v.2.2.2.2.1, v.2.2.2.2.2, cs) = some true := by
  obtain ⟨b, hb, hb5⟩ := small_some v cs (by have := hv.2.1; omega) (by omega)
  simp only [F_law21_ImageOrder, alive_ok, hb, Option.bind_some, Bool.not_true, cond_false]
  cases b with
  | false => rfl
  | true =>
    simp only [Bool.not_true, cond_false]
    by_cases h1 : 200 < cs.length
    · rw [decide_eq_true (show (200 : Int) < (cs.length : Int) by omega)]; rfl
    rw [decide_eq_false (show ¬ (200 : Int) < (cs.length : Int) by omega)]
    by_cases h2 : 200 < v.2.2.1.length
    · rw [decide_eq_true (show (200 : Int) < (v.2.2.1.length : Int) by omega)]; rfl
    rw [decide_eq_false (show ¬ (200 : Int) < (v.2.2.1.length : Int) by omega)]
    simp only [cond_false, apply_ok hv.2.2 hw, Option.bind_some, bne_int]
    by_cases h3 : (applyS v cs).2.2.2.2.2.2 = 0
    case neg => rw [decide_eq_false h3]; rfl
    rw [decide_eq_true h3]
    obtain ⟨g1, g2, w, g3⟩ := applyS_zero.1 h3
    have hokw := apply_okI g1 (chErr_zero.1 g2).2.1 g3
    have hl := hokw.2.2.1
    rw [applyS_val g1 g2 g3]
    simp only [Bool.not_true, cond_false]
    obtain ⟨o1, o2⟩ := apply_ord (cs := cs) (old := v.2.2.1) cs 0 v w rfl (by omega) ⟨List.pairwise_of_forall (fun _ _ => by simp [lastT]), List.filter_sublist⟩ g3
    obtain ⟨r, hr, hQ⟩ := iter_inv (f := F_law21_ImageOrder.l2042 mx v.2.2.1 cs (withE w))
      (fun s => ∃ k f : Nat, ∃ prev : Int, s = ((f : Int), prev, (k : Int)) ∧ k ≤ w.2.2.1.length ∧ (∀ x ∈ w.2.2.1.drop k, prev ≤ lastT cs (nm x) cs.length) ∧ ((w.2.2.1.drop k).filter (un cs cs.length)).Sublist (v.2.2.1.drop f))
      (fun s => w.2.2.1.length - s.2.2.toNat) (fun r => r = .inr ()) ((0 : Int), (-1 : Int), (0 : Int))
      ⟨0, 0, -1, rfl, Nat.zero_le _, fun x _ => (lastT_bd cs (nm x) cs.length).1, by simpa using o2⟩ (lt_N0 (by dsimp only; omega)) (fun s ⟨k, f, prev, es, hk, hp, hs⟩ => by
        subst es
        by_cases hkl : k < w.2.2.1.length
        · left
          have hd := List.drop_eq_getElem_cons hkl
          have hlo := last_ok (cs := cs) (by omega) (nm (w.2.2.1.getD k K0))
          have hb1 := lastT_bd cs (nm (w.2.2.1.getD k K0)) cs.length
          have hge : prev ≤ lastT cs (nm (w.2.2.1.getD k K0)) cs.length := hp _ (by rw [hd, getD_some hkl]; exact List.mem_cons_self)
          have hnx : ∀ x ∈ w.2.2.1.drop (k + 1), lastT cs (nm (w.2.2.1.getD k K0)) cs.length ≤ lastT cs (nm x) cs.length := fun x hx => by
            have := o1.sublist (List.drop_sublist k w.2.2.1)
            rw [hd] at this
            have := (List.pairwise_cons.1 this).1 x hx
            rw [getD_some hkl]; exact this
          rw [hd, ← getD_some hkl K0] at hs
          have hstep := step_ok (old := v.2.2.1) (L := w.2.2.1) w.1 w.2.1 (w.2.2.2.1, w.2.2.2.2.1, w.2.2.2.2.2, 0) (cs := cs) (by omega) hkl (by omega) (f : Int) hge
          have hstep : F_law21_ImageOrder.l2042 mx v.2.2.1 cs (withE w) ((f : Int), prev, (k : Int)) = _ := hstep
          rw [hstep]
          by_cases hu : lastT cs (nm (w.2.2.1.getD k K0)) cs.length = -1
          · have hun : un cs cs.length (w.2.2.1.getD k K0) = true := decide_eq_true hu
            rw [List.filter_cons_of_pos hun] at hs
            obtain ⟨p, q1, q2, q3, q4, q5⟩ := sub_find _ f rfl hs
            have hsc := scan_ok (old := v.2.2.1) (L := w.2.2.1) w.1 w.2.1 (w.2.2.2.1, w.2.2.2.2.1, w.2.2.2.2.2, 0) prev hkl q1 q2 (by omega) q3 q4
            refine ⟨((p : Int), lastT cs (nm (w.2.2.1.getD k K0)) cs.length, ((k + 1 : Nat) : Int)), ?_, ⟨k + 1, p, _, rfl, by omega, hnx, q5⟩, by dsimp only; omega⟩
            rw [decide_eq_true (show lastT cs (nm (w.2.2.1.getD k K0)) cs.length < 0 by omega), cond_true, hsc]
            simp only [Option.bind_some, ieq, decide_eq_false (show ¬ (p : Int) = (v.2.2.1.length : Int) by omega), cond_false]
          · have hun : un cs cs.length (w.2.2.1.getD k K0) = false := decide_eq_false hu
            rw [List.filter_cons_of_neg (by rw [hun]; decide)] at hs
            refine ⟨((f : Int), lastT cs (nm (w.2.2.1.getD k K0)) cs.length, ((k + 1 : Nat) : Int)), ?_, ⟨k + 1, f, _, rfl, by omega, hnx, hs⟩, by dsimp only; omega⟩
            rw [decide_eq_false (show ¬ lastT cs (nm (w.2.2.1.getD k K0)) cs.length < 0 by omega), cond_false]
        · right
          have : k = w.2.2.1.length := by omega
          subst this
          exact ⟨.inr (), by show F_law21_ImageOrder.l2042 mx v.2.2.1 cs (w.1, w.2.1, w.2.2.1, w.2.2.2.1, w.2.2.2.2.1, w.2.2.2.2.2, 0) ((f : Int), prev, (w.2.2.1.length : Int)) = _; simp only [F_law21_ImageOrder.l2042, nltd, cond_false], rfl⟩)
    subst hQ
    rw [hr]; rfl
theorem pure (q : Int × (List Int) × (List (Int × (List Int) × (List Int) × Int × Int × Int)) × Int × Int × Bool × (List (Int × Int × ((List Int) × (List Int) × Int × Int × Int) × (List Int) × Int × Int × Bool))) (h : wfIns F_law21_ImageOrder.sig.pars q) : F_law21_ImageOrder mx q = some true := by
  obtain ⟨t, qs, l, e, n, b, cs⟩ := q
  exact main (v := (t, qs, l, e, n, b)) (wfV_of h.1) h.2.1.1.2 (fun c hc => wfC_of (h.2.1.1.1 c hc))
end Go.Proofs.Ytkggcbfkhkgeaaa.imageOrder
