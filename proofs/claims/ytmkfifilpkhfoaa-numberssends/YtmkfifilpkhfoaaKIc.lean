/- Changes are done to an image. -/
import Derived.Test.YtmkfifilpkhfoaaKIb
namespace Go.Proofs.Ytmkfifilpkhfoaa
open Go.Abs
set_option maxRecDepth 100000

/-! ### items that are still there -/
def alive : List Kept → List Bool → List Kept
  | k :: l, g :: gs => if g = true then alive l gs else k :: alive l gs
  | _, _ => []
theorem alive_app : ∀ {l : List Kept} {g : List Bool}, g.length = l.length → ∀ (k : Kept), alive (l ++ [k]) (g ++ [false]) = alive l g ++ [k]
  | [], [], _, k => by simp [alive]
  | a :: l, b :: g, h, k => by
    have := alive_app (l := l) (g := g) (by simpa using h) k
    simp only [List.cons_append, alive, this]
    split <;> rfl
  | [], _ :: _, h, _ => by simp at h
  | _ :: _, [], h, _ => by simp at h
theorem alive_all : ∀ (l : List Kept), alive l (List.replicate l.length false) = l
  | [] => rfl
  | k :: l => by simp [alive, List.replicate_succ, alive_all l]
theorem alive_upd (p : Kept → Bool) : ∀ {l : List Kept} {g g' : List Bool}, g.length = l.length → g'.length = l.length →
    (∀ j, j < l.length → g'.getD j false = (g.getD j false || p (l.getD j K0))) → alive l g' = (alive l g).filter (fun k => !p k)
  | [], [], [], _, _, _ => rfl
  | k :: l, b :: g, b' :: g', h1, h2, h => by
    have ih := alive_upd p (l := l) (g := g) (g' := g') (by simpa using h1) (by simpa using h2) (fun j hj => by
      have := h (j + 1) (by simp; omega)
      simpa using this)
    have h0 := h 0 (by simp)
    simp only [List.getD_cons_zero] at h0
    simp only [alive, ih, h0]
    cases b <;> cases hp : p k <;> simp [hp]
  | [], [], _ :: _, _, h, _ => by simp at h
  | [], _ :: _, _, h, _, _ => by simp at h
  | _ :: _, [], _, h, _, _ => by simp at h
  | _ :: _, _ :: _, [], _, h, _ => by simp at h
theorem alive_set : ∀ {l : List Kept} {g : List Bool} {i : Nat}, g.length = l.length → i < l.length → g.getD i false = false → (alive l (g.set i true)).length + 1 = (alive l g).length
  | k :: l, b :: g, 0, _, _, h => by
    simp only [List.getD_cons_zero] at h
    subst h; simp [alive]
  | k :: l, b :: g, i + 1, h1, h2, h => by
    have := alive_set (l := l) (g := g) (i := i) (by simpa using h1) (by simpa using h2) (by simpa using h)
    simp only [List.set_cons_succ, alive]
    split
    · exact this
    · rw [List.length_cons, List.length_cons, this]
  | [], _, _, _, h, _ => by simp at h
  | _ :: _, [], _, h, _, _ => by simp at h
theorem alive_mem : ∀ {l : List Kept} {g : List Bool} {k : Kept}, g.length = l.length → (k ∈ alive l g ↔ ∃ j, j < l.length ∧ g.getD j false = false ∧ l.getD j K0 = k)
  | [], _, k, _ => by simp [alive]
  | a :: l, [], k, h => by simp at h
  | a :: l, b :: g, k, h => by
    have ih := alive_mem (l := l) (g := g) (k := k) (by simpa using h)
    have h1 : (∃ j, j < (a :: l).length ∧ (b :: g).getD j false = false ∧ (a :: l).getD j K0 = k) ↔ (b = false ∧ a = k) ∨ ∃ j, j < l.length ∧ g.getD j false = false ∧ l.getD j K0 = k := by
      constructor
      · rintro ⟨j, h1, h2, h3⟩
        cases j with
        | zero => exact .inl ⟨by simpa using h2, by simpa using h3⟩
        | succ j => exact .inr ⟨j, by simpa using h1, by simpa using h2, by simpa using h3⟩
      · rintro (⟨h1, h2⟩ | ⟨j, h1, h2, h3⟩)
        · exact ⟨0, by simp, by simpa using h1, by simpa using h2⟩
        · exact ⟨j + 1, by simpa using h1, by simpa using h2, by simpa using h3⟩
    rw [h1, ← ih]
    cases b with
    | true => simp [alive]
    | false => simp [alive, eq_comm]
theorem alive_len : ∀ {l : List Kept} {g : List Bool}, (alive l g).length ≤ l.length
  | [], _ => by simp [alive]
  | _ :: _, [] => by simp [alive]
  | k :: l, b :: g => by
    have := alive_len (l := l) (g := g)
    simp only [alive]; split
    · rw [List.length_cons]; omega
    · rw [List.length_cons, List.length_cons]; omega

/-! ### the state: items, which of them are gone, where names stand, how many -/
structure Inv (l : List Kept) (g : List Bool) (m : Mp) (c : Int) : Prop where
  len : g.length = l.length
  nod : (m.map Prod.fst).Nodup
  get : ∀ x i, mget KQ m x = some i ↔ ∃ j : Nat, i = (j : Int) ∧ j < l.length ∧ g.getD j false = false ∧ nm (l.getD j K0) = x
  cnt : c = ((alive l g).length : Int)
  mlen : m.length ≤ l.length
theorem inv_new {l : List Kept} (h : (l.map nm).Nodup) : Inv l (List.replicate l.length false) (plc l l.length) (l.length : Int) where
  len := by simp
  nod := (plc_keys l l.length (Nat.le_refl _)).1
  get := fun x i => by
    rw [plc_get h l.length (Nat.le_refl _)]
    constructor
    · rintro ⟨j, h1, h2, h3⟩
      exact ⟨j, h1, h2, by rw [getD_some (by simpa using h2)]; simp, h3⟩
    · rintro ⟨j, h1, h2, _, h3⟩; exact ⟨j, h1, h2, h3⟩
  cnt := by rw [alive_all]
  mlen := (plc_keys l l.length (Nat.le_refl _)).2.2.1
def dropS (s : List Bool × Mp × Int) (x : Nm) : List Bool × Mp × Int := match mget KQ s.2.1 x with
  | some i => (s.1.set i.toNat true, mdel KQ s.2.1 x, s.2.2 - 1)
  | none => s
theorem gset {g : List Bool} {i j : Nat} (hi : i < g.length) : (g.set i true).getD j false = (g.getD j false || decide (j = i)) := by
  by_cases h : j = i
  · rw [h, gset_self hi]; simp
  · rw [gset_ne (fun e => h e.symm)]; simp [h]
theorem drop_inv {l : List Kept} {g : List Bool} {m : Mp} {c : Int} (h : Inv l g m c) (x : Nm) : Inv l (dropS (g, m, c) x).1 (dropS (g, m, c) x).2.1 (dropS (g, m, c) x).2.2 ∧
    (∀ j, j < l.length → (dropS (g, m, c) x).1.getD j false = (g.getD j false || decide (nm (l.getD j K0) = x))) ∧ mget KQ (dropS (g, m, c) x).2.1 x = none := by
  unfold dropS
  cases hm : mget KQ m x with
  | none =>
    simp only [hm]
    refine ⟨h, fun j hj => ?_, trivial⟩
    by_cases hx : nm (l.getD j K0) = x
    · cases hg : g.getD j false with
      | true => rfl
      | false =>
        have := (h.get x (j : Int)).2 ⟨j, rfl, hj, hg, hx⟩
        rw [hm] at this; cases this
    · rw [decide_eq_false hx, Bool.or_false]
  | some i =>
    obtain ⟨j0, rfl, h1, h2, h3⟩ := (h.get x i).1 hm
    simp only [hm, Int.toNat_natCast]
    have hlt : j0 < g.length := by rw [h.len]; exact h1
    have huniq : ∀ j, j < l.length → g.getD j false = false → nm (l.getD j K0) = x → j = j0 := fun j a1 a2 a3 => by
      have := (h.get x (j : Int)).2 ⟨j, rfl, a1, a2, a3⟩
      rw [hm] at this
      have := Option.some.inj this
      omega
    refine ⟨⟨by rw [List.length_set, h.len], mdel_nodup h.nod x, fun y i => ?_, ?_, Nat.le_trans (mdel_len m x) h.mlen⟩, fun j hj => ?_, by rw [mget_mdel h.nod, if_pos rfl]⟩
    · rw [mget_mdel h.nod]
      by_cases hy : y = x
      · rw [if_pos hy]
        constructor
        · intro e; cases e
        · rintro ⟨j, rfl, a1, a2, a3⟩
          rw [gset hlt] at a2
          simp only [Bool.or_eq_false_iff, decide_eq_false_iff_not] at a2
          exact absurd (huniq j a1 a2.1 (a3.trans hy)) a2.2
      · rw [if_neg hy, h.get]
        constructor
        · rintro ⟨j, rfl, a1, a2, a3⟩
          refine ⟨j, rfl, a1, ?_, a3⟩
          rw [gset hlt, a2]
          have : ¬ j = j0 := fun e => hy (by rw [← a3, e, h3])
          simp [this]
        · rintro ⟨j, rfl, a1, a2, a3⟩
          rw [gset hlt] at a2
          simp only [Bool.or_eq_false_iff] at a2
          exact ⟨j, rfl, a1, a2.1, a3⟩
    · have := alive_set h.len h1 h2
      rw [h.cnt]; omega
    · rw [gset hlt]
      cases hg : g.getD j false with
      | true => rfl
      | false =>
        simp only [Bool.false_or, decide_eq_decide]
        exact ⟨fun e => by rw [e, h3], fun e => huniq j hj hg e⟩
theorem drop_alive {l : List Kept} {g : List Bool} {m : Mp} {c : Int} (h : Inv l g m c) (x : Nm) : alive l (dropS (g, m, c) x).1 = (alive l g).filter (fun k => !decide (nm k = x)) := by
  obtain ⟨h1, h2, _⟩ := drop_inv h x
  exact alive_upd (fun k => decide (nm k = x)) h.len h1.len h2
def sweep (p : Kept → Bool) (l : List Kept) (s : List Bool × Mp × Int) : Nat → List Bool × Mp × Int
  | 0 => s
  | i + 1 => if (sweep p l s i).1.getD i false = false ∧ p (l.getD i K0) = true then dropS (sweep p l s i) (nm (l.getD i K0)) else sweep p l s i
theorem sweep_inv (p : Kept → Bool) {l : List Kept} {g : List Bool} {m : Mp} {c : Int} (h : Inv l g m c) : ∀ i, i ≤ l.length → Inv l (sweep p l (g, m, c) i).1 (sweep p l (g, m, c) i).2.1 (sweep p l (g, m, c) i).2.2 ∧
    ∀ j, j < l.length → (sweep p l (g, m, c) i).1.getD j false = (g.getD j false || (decide (j < i) && p (l.getD j K0)))
  | 0, _ => ⟨h, fun j _ => by simp [sweep]⟩
  | i + 1, hi => by
    obtain ⟨h1, h2⟩ := sweep_inv p h i (by omega)
    rw [sweep]
    by_cases hc : (sweep p l (g, m, c) i).1.getD i false = false ∧ p (l.getD i K0) = true
    · rw [if_pos hc]
      obtain ⟨h3, h4, _⟩ := drop_inv h1 (nm (l.getD i K0))
      refine ⟨h3, fun j hj => ?_⟩
      have := h4 j hj
      rw [show ((sweep p l (g, m, c) i).1, (sweep p l (g, m, c) i).2.1, (sweep p l (g, m, c) i).2.2) = sweep p l (g, m, c) i from rfl] at this
      rw [this, h2 j hj]
      have hq : (sweep p l (g, m, c) i).1.getD j false = true ∨ (decide (nm (l.getD j K0) = nm (l.getD i K0)) = decide (j = i)) := by
        cases hg : (sweep p l (g, m, c) i).1.getD j false with
        | true => exact .inl rfl
        | false =>
          refine .inr (decide_eq_decide.2 ⟨fun e => ?_, fun e => by rw [e]⟩)
          have a := (h1.get (nm (l.getD i K0)) (j : Int)).2 ⟨j, rfl, hj, hg, e⟩
          have b := (h1.get (nm (l.getD i K0)) (i : Int)).2 ⟨i, rfl, by omega, hc.1, rfl⟩
          rw [a] at b
          have := Option.some.inj b
          omega
      rcases hq with hq | hq
      · rw [h2 j hj] at hq
        rw [hq, Bool.true_or]
        cases hg : g.getD j false with
        | true => rfl
        | false =>
          rw [hg, Bool.false_or, Bool.and_eq_true, decide_eq_true_eq] at hq
          rw [hq.2, decide_eq_true (show j < i + 1 by omega)]; rfl
      · rw [hq]
        by_cases hji : j = i
        · subst hji
          rw [hc.2, decide_eq_true (show j = j from rfl), decide_eq_true (show j < j + 1 by omega), Bool.or_true, Bool.and_true, Bool.or_true]
        · have : decide (j < i + 1) = decide (j < i) := decide_eq_decide.2 (by omega)
          rw [this, decide_eq_false hji, Bool.or_false]
    · rw [if_neg hc]
      refine ⟨h1, fun j hj => ?_⟩
      rw [h2 j hj]
      by_cases hji : j = i
      · subst hji
        have e : decide (j < j) = false := by simp
        rw [e, Bool.false_and, Bool.or_false]
        cases hg : g.getD j false with
        | true => rfl
        | false =>
          cases hp : p (l.getD j K0) with
          | true => exact absurd ⟨by rw [h2 j hj, hg]; simp, hp⟩ hc
          | false => simp
      · have : decide (j < i + 1) = decide (j < i) := decide_eq_decide.2 (by omega)
        rw [this]
theorem sweep_alive (p : Kept → Bool) {l : List Kept} {g : List Bool} {m : Mp} {c : Int} (h : Inv l g m c) : alive l (sweep p l (g, m, c) l.length).1 = (alive l g).filter (fun k => !p k) := by
  obtain ⟨h1, h2⟩ := sweep_inv p h l.length (Nat.le_refl _)
  refine alive_upd p h.len h1.len fun j hj => ?_
  rw [h2 j hj, decide_eq_true hj, Bool.true_and]
theorem put_inv {l : List Kept} {g : List Bool} {m : Mp} {c : Int} (h : Inv l g m c) {k : Kept} (hx : mget KQ m (nm k) = none) : Inv (l ++ [k]) (g ++ [false]) (mset KQ m (nm k) (l.length : Int)) (c + 1) where
  len := by simp [h.len]
  nod := mset_nodup h.nod _ _
  get := fun x i => by
    rw [mget_mset]
    have gl : ∀ j, j < l.length → (g ++ [false]).getD j false = g.getD j false ∧ (l ++ [k]).getD j K0 = l.getD j K0 := fun j hj => by
      rw [getD_some (show j < (g ++ [false]).length by simp [h.len]; omega), getD_some (show j < g.length by rw [h.len]; exact hj), getD_some (show j < (l ++ [k]).length by simp; omega), getD_some hj, List.getElem_append_left (show j < g.length by rw [h.len]; exact hj), List.getElem_append_left hj]
      exact ⟨rfl, rfl⟩
    have gk : (l ++ [k]).getD l.length K0 = k := by rw [getD_some (by simp)]; simp
    have gf : (g ++ [false]).getD l.length false = false := by rw [getD_some (by simp [h.len])]; simp [← h.len]
    by_cases he : x = nm k
    · rw [if_pos he]
      constructor
      · intro e; exact ⟨l.length, (Option.some.inj e).symm, by simp, gf, by rw [gk, he]⟩
      · rintro ⟨j, rfl, a1, a2, a3⟩
        rw [List.length_append, List.length_singleton] at a1
        by_cases hj : j < l.length
        · rw [(gl j hj).1] at a2
          rw [(gl j hj).2] at a3
          have := (h.get (nm k) (j : Int)).2 ⟨j, rfl, hj, a2, a3.trans he⟩
          rw [hx] at this; cases this
        · have : j = l.length := by omega
          rw [this]
    · rw [if_neg he, h.get]
      constructor
      · rintro ⟨j, rfl, a1, a2, a3⟩
        exact ⟨j, rfl, by simp; omega, by rw [(gl j a1).1, a2], by rw [(gl j a1).2, a3]⟩
      · rintro ⟨j, rfl, a1, a2, a3⟩
        rw [List.length_append, List.length_singleton] at a1
        by_cases hj : j < l.length
        · rw [(gl j hj).1] at a2
          rw [(gl j hj).2] at a3
          exact ⟨j, rfl, hj, a2, a3⟩
        · have : j = l.length := by omega
          rw [this, gk] at a3
          exact absurd a3.symm he
  cnt := by rw [alive_app h.len, List.length_append, List.length_singleton, h.cnt]; rfl
  mlen := by rw [mset_len, List.length_append, List.length_singleton]; have := h.mlen; split <;> omega

/-! ### one change -/
def touch (c : Chg) (k : Kept) : Bool := if c.1 = 1 then decide (nm k = (c.2.1, c.2.2.1.1)) else if c.1 = 2 then decide (nm k = (c.2.1, c.2.2.2.1)) else if c.1 = 3 then decide (k.1 = c.2.1) else if c.1 = 4 then dueB k.2 c.2.2.2.2.2.1 else false
def leftL (c : Chg) (l : List Kept) : List Kept := l.filter (fun k => !touch c k)
def oneS (v : Img) (c : Chg) : Int ⊕ Img :=
  if c.1 ≠ 4 ∧ c.1 ≠ 6 ∧ c.1 ≠ 7 ∧ (v.2.1.length : Int) ≤ c.2.1 then .inl 2
  else if c.1 = 1 then (if 256 < 8 + c.2.2.1.1.length + c.2.2.1.2.1.length then .inl 2
    else if dueB c.2.2.1 v.1 = true then .inr (v.1, v.2.1, leftL c v.2.2.1, v.2.2.2)
    else if (leftL c v.2.2.1).length = 1024 then .inl 9
    else .inr (v.1, v.2.1, leftL c v.2.2.1 ++ [(c.2.1, c.2.2.1)], v.2.2.2))
  else if c.1 = 4 then (if c.2.2.2.2.2.1 < v.1 then .inl 2 else .inr (c.2.2.2.2.2.1, v.2.1, leftL c v.2.2.1, v.2.2.2))
  else if c.1 = 5 then .inr (v.1, v.2.1.set c.2.1.toNat c.2.2.2.2.2.1, v.2.2)
  else if c.1 = 6 then (if c.2.2.2.2.2.1 < v.2.2.2.1 then .inl 2 else .inr (v.1, v.2.1, v.2.2.1, c.2.2.2.2.2.1, v.2.2.2.2.1, c.2.2.2.2.2.2))
  else if c.1 = 7 then .inr (v.1, v.2.1, v.2.2.1, v.2.2.2.1, c.2.2.2.2.2.1, v.2.2.2.2.2)
  else .inr (v.1, v.2.1, leftL c v.2.2.1, v.2.2.2)
abbrev Cor := Int × List Int × List Kept × Int × Int × Bool × List Bool × Mp × Int
def imgOf (s : Cor) : Img := (s.1, s.2.1, alive s.2.2.1 s.2.2.2.2.2.2.1, s.2.2.2.1, s.2.2.2.2.1, s.2.2.2.2.2.1)
def InvC (s : Cor) : Prop := Inv s.2.2.1 s.2.2.2.2.2.2.1 s.2.2.2.2.2.2.2.1 s.2.2.2.2.2.2.2.2
end Go.Proofs.Ytmkfifilpkhfoaa
