/- When an image is one. -/
import Derived.Test.YtmkfifilpkhfoaaF
import Derived.Test.YtmkfifilpkhfoaaA4
namespace Go.Proofs.Ytmkfifilpkhfoaa
open Go.Abs
set_option maxRecDepth 100000

/-! ### maps whose keys are names -/
abbrev Nm := Int × List Int
abbrev KQ : Nm → Nm → Bool := keyEq (.pr (.int .i64) .str)
theorem kq_iff {x y : Nm} : KQ x y = true ↔ x = y := by
  have : KQ x y = ((x.1 == y.1) && (x.2 == y.2)) := rfl
  rw [this, Bool.and_eq_true, beq_iff_eq, beq_iff_eq]
  exact ⟨fun h => Prod.ext h.1 h.2, fun h => by rw [h]; exact ⟨rfl, rfl⟩⟩
theorem kq_self (x : Nm) : KQ x x = true := kq_iff.2 rfl
theorem kq_ne {x y : Nm} (h : x ≠ y) : KQ x y = false := by
  cases e : KQ x y with
  | false => rfl
  | true => exact absurd (kq_iff.1 e) h
abbrev Mp := List (Nm × Int)
theorem mget_mem {m : Mp} {x : Nm} : (mget KQ m x).isSome = true ↔ x ∈ m.map Prod.fst := by
  induction m with
  | nil => simp [mget]
  | cons e r ih =>
    rw [mget]
    by_cases h : x = e.1
    · rw [kq_iff.2 h]; simp [h]
    · rw [kq_ne h, cond_false, ih]; simp [h]
theorem mget_mset (m : Mp) (x y : Nm) (v : Int) : mget KQ (mset KQ m x v) y = if y = x then some v else mget KQ m y := by
  induction m with
  | nil =>
    show (bif KQ y x then some v else none) = if y = x then some v else none
    by_cases h : y = x
    · rw [if_pos h, kq_iff.2 h]; rfl
    · rw [if_neg h, kq_ne h]; rfl
  | cons e r ih =>
    rw [mset]
    by_cases h : x = e.1
    · rw [kq_iff.2 h, cond_true, mget]
      by_cases h2 : y = x
      · rw [if_pos h2, kq_iff.2 h2]; rfl
      · rw [if_neg h2, kq_ne h2, mget, kq_ne (fun hh => h2 (hh.trans h.symm))]; rfl
    · rw [kq_ne h, cond_false, mget, ih]
      by_cases h3 : y = e.1
      · rw [kq_iff.2 h3, cond_true, mget, kq_iff.2 h3, if_neg (fun hh => h (hh.symm.trans h3))]; rfl
      · rw [kq_ne h3, cond_false]
        conv => rhs; rw [mget, kq_ne h3, cond_false]
theorem mset_keys (m : Mp) (x : Nm) (v : Int) : (mset KQ m x v).map Prod.fst = if x ∈ m.map Prod.fst then m.map Prod.fst else m.map Prod.fst ++ [x] := by
  induction m with
  | nil => simp [mset]
  | cons e r ih =>
    rw [mset]
    by_cases h : x = e.1
    · rw [kq_iff.2 h]; simp [h]
    · rw [kq_ne h, cond_false, List.map_cons, ih]
      by_cases h2 : x ∈ r.map Prod.fst
      · rw [if_pos h2, if_pos (by simp only [List.map_cons, List.mem_cons]; exact .inr h2), List.map_cons]
      · rw [if_neg h2, if_neg (by simp only [List.map_cons, List.mem_cons]; exact fun hh => hh.elim h h2), List.map_cons, List.cons_append]
theorem mset_nodup {m : Mp} (h : (m.map Prod.fst).Nodup) (x : Nm) (v : Int) : ((mset KQ m x v).map Prod.fst).Nodup := by
  rw [mset_keys]
  by_cases h2 : x ∈ m.map Prod.fst
  · rw [if_pos h2]; exact h
  · rw [if_neg h2]
    refine List.nodup_append.2 ⟨h, by simp, fun a ha b hb => ?_⟩
    rw [List.mem_singleton] at hb
    rw [hb]; exact fun hh => h2 (hh ▸ ha)
theorem mset_len (m : Mp) (x : Nm) (v : Int) : (mset KQ m x v).length = if x ∈ m.map Prod.fst then m.length else m.length + 1 := by
  have := congrArg List.length (mset_keys m x v)
  rw [List.length_map] at this
  rw [this]
  by_cases h2 : x ∈ m.map Prod.fst
  · rw [if_pos h2, if_pos h2, List.length_map]
  · rw [if_neg h2, if_neg h2, List.length_append, List.length_map, List.length_singleton]
theorem mdel_sub (m : Mp) (x : Nm) : ((mdel KQ m x).map Prod.fst).Sublist (m.map Prod.fst) := by
  induction m with
  | nil => exact List.Sublist.slnil
  | cons e r ih =>
    rw [mdel]
    by_cases h : x = e.1
    · rw [kq_iff.2 h, cond_true]; exact List.sublist_cons_self _ _
    · rw [kq_ne h, cond_false]; exact ih.cons_cons _
theorem mdel_nodup {m : Mp} (h : (m.map Prod.fst).Nodup) (x : Nm) : ((mdel KQ m x).map Prod.fst).Nodup := (mdel_sub m x).nodup h
theorem mdel_len (m : Mp) (x : Nm) : (mdel KQ m x).length ≤ m.length := by
  have := (mdel_sub m x).length_le
  rwa [List.length_map, List.length_map] at this
theorem mget_mdel {m : Mp} (h : (m.map Prod.fst).Nodup) (x y : Nm) : mget KQ (mdel KQ m x) y = if y = x then none else mget KQ m y := by
  induction m with
  | nil => rw [mdel]; simp [mget]
  | cons e r ih =>
    rw [List.map_cons, List.nodup_cons] at h
    rw [mdel]
    by_cases hx : x = e.1
    · rw [kq_iff.2 hx, cond_true]
      by_cases hy : y = x
      · rw [if_pos hy]
        cases hg : mget KQ r y with
        | none => rfl
        | some v => exact absurd (by rw [← hx, ← hy]; exact mget_mem.1 (by rw [hg]; rfl)) h.1
      · rw [if_neg hy, mget, kq_ne (fun hh => hy (hh.trans hx.symm))]; rfl
    · rw [kq_ne hx, cond_false, mget, ih h.2]
      by_cases hy : y = e.1
      · rw [kq_iff.2 hy, cond_true, if_neg (fun hh => hx (hh.symm.trans hy)), mget, kq_iff.2 hy]; rfl
      · rw [kq_ne hy, cond_false]
        conv => rhs; rw [mget, kq_ne hy, cond_false]

/-! ### items -/
abbrev Itm := List Int × List Int × Int × Int × Int
abbrev Kept := Int × Itm
abbrev Img := Int × List Int × List Kept × Int × Int × Bool
abbrev K0 : Kept := (0, ([], ([], (0, (0, 0)))))
def nm (k : Kept) : Nm := (k.1, k.2.1)
def dueB (x : Itm) (t : Int) : Bool := decide (x.2.2.2.1 ≠ 0 ∧ x.2.2.2.1 ≤ t)
def itemOk (x : Itm) : Prop := 1 ≤ x.1.length ∧ x.1.length ≤ 32 ∧ 8 + x.1.length + x.2.1.length ≤ 256 ∧ 0 ≤ x.2.2.2.1 ∧ x.2.2.2.1 ≤ 1099511627776
instance (x : Itm) : Decidable (itemOk x) := by unfold itemOk; infer_instance
def quotasOk (q : List Int) : Prop := 1 ≤ q.length ∧ q.length ≤ 4 ∧ ∀ x ∈ q, 0 ≤ x ∧ x ≤ 16
instance (q : List Int) : Decidable (quotasOk q) := by unfold quotasOk; infer_instance
def keptOk (t : Int) (n : Nat) (k : Kept) : Prop := 0 ≤ k.1 ∧ k.1 < (n : Int) ∧ itemOk k.2 ∧ dueB k.2 t = false
instance (t : Int) (n : Nat) (k : Kept) : Decidable (keptOk t n k) := by unfold keptOk; infer_instance
def okI (v : Img) : Prop := (0 ≤ v.1 ∧ v.1 ≤ 1099511627776) ∧ quotasOk v.2.1 ∧ v.2.2.1.length ≤ 1024 ∧ (0 ≤ v.2.2.2.1 ∧ v.2.2.2.1 ≤ 2147483647) ∧ (0 ≤ v.2.2.2.2.1 ∧ v.2.2.2.2.1 ≤ 2147483647) ∧
  (∀ k ∈ v.2.2.1, keptOk v.1 v.2.1.length k) ∧ (v.2.2.1.map nm).Nodup
instance (v : Img) : Decidable (okI v) := by unfold okI; infer_instance

theorem in_ok (a b : Int) : F_image_in mx (a, b) = some (decide (0 ≤ a ∧ a ≤ b)) := by
  simp only [F_image_in]
  by_cases h : 0 ≤ a
  · rw [decide_eq_true h]; simp [h]
  · rw [decide_eq_false h]; simp [h]
theorem size_ok (x : Itm) (h1 : x.1.length ≤ 140737488351232) (h2 : x.2.1.length ≤ 140737488351232) : F_image_size mx x = some ((8 + x.1.length + x.2.1.length : Nat) : Int) := by
  simp only [F_image_size]
  rw [w64 (n := 8 + (x.1.length : Int)) (by omega) (by omega), w64 (by omega) (by omega)]
  congr 1
theorem due_ok (x : Itm) (t : Int) : F_image_due mx (x.1, x.2.1, x.2.2.1, x.2.2.2.1, x.2.2.2.2, t) = some (dueB x t) := by
  simp only [F_image_due, bne_int, dueB]
  by_cases h : x.2.2.2.1 = 0
  · rw [decide_eq_true h, decide_eq_false (show ¬ (x.2.2.2.1 ≠ 0 ∧ x.2.2.2.1 ≤ t) from fun hh => hh.1 h)]; rfl
  · rw [decide_eq_false h]
    by_cases h2 : x.2.2.2.1 ≤ t
    · rw [decide_eq_true h2, decide_eq_true ⟨h, h2⟩]; rfl
    · rw [decide_eq_false h2, decide_eq_false (show ¬ (x.2.2.2.1 ≠ 0 ∧ x.2.2.2.1 ≤ t) from fun hh => h2 hh.2)]; rfl
theorem may_ok (x : Itm) (h1 : x.1.length ≤ 140737488351232) (h2 : x.2.1.length ≤ 140737488351232) : F_image_may mx x = some (decide (itemOk x)) := by
  obtain ⟨k, v, f, d, c⟩ := x
  dsimp only at h1 h2
  simp only [F_image_may, size_ok (k, v, f, d, c) h1 h2, in_ok, Option.bind_some]
  cases k with
  | nil => rw [decide_eq_false (show ¬ itemOk (([] : List Int), v, f, d, c) from fun h => by have := h.1; simp at this)]; rfl
  | cons a k =>
    have e0 : ((a :: k : List Int) == ([] : List Int)) = false := rfl
    rw [e0]
    by_cases h3 : (a :: k).length ≤ 32
    · rw [decide_eq_true (show (((a :: k).length : Nat) : Int) ≤ 32 by omega)]
      by_cases h4 : 8 + (a :: k).length + v.length ≤ 256
      · rw [decide_eq_true (show ((8 + (a :: k).length + v.length : Nat) : Int) ≤ 256 by omega)]
        by_cases h5 : 0 ≤ d ∧ d ≤ 1099511627776
        · rw [decide_eq_true h5, decide_eq_true (show itemOk (a :: k, v, f, d, c) from ⟨by simp, h3, h4, h5⟩)]; rfl
        · rw [decide_eq_false h5, decide_eq_false (fun h : itemOk (a :: k, v, f, d, c) => h5 h.2.2.2)]; rfl
      · rw [decide_eq_false (show ¬ ((8 + (a :: k).length + v.length : Nat) : Int) ≤ 256 by omega), decide_eq_false (fun h : itemOk (a :: k, v, f, d, c) => h4 h.2.2.1)]; rfl
    · rw [decide_eq_false (show ¬ (((a :: k).length : Nat) : Int) ≤ 32 by omega), decide_eq_false (fun h : itemOk (a :: k, v, f, d, c) => h3 h.2.1)]; rfl

theorem quotas_ok {q : List Int} : F_image_quotas mx q = some (decide (quotasOk q)) := by
  simp only [F_image_quotas]
  by_cases h1 : 1 ≤ q.length
  · rw [decide_eq_true (show (0 : Int) < (q.length : Int) by omega)]
    by_cases h2 : q.length ≤ 4
    · rw [decide_eq_true (show (q.length : Int) ≤ 4 by omega)]
      simp only [cond_true, F_slices_ContainsFunc_int, F_slices_IndexFunc_int]
      have hstep : ∀ i, i < q.length → F_slices_IndexFunc_int.l26 mx q (q.length : Int) (i : Int) = some (bif decide (0 ≤ q.getD i 0 ∧ q.getD i 0 ≤ 16) then .next ((i + 1 : Nat) : Int) else .fin (.inl (i : Int))) := fun i hi => by
        simp only [F_slices_IndexFunc_int.l26, ltd hi, lez, Bool.and_self, cond_true, Int.toNat_natCast, F_image_quotas_c1, in_ok, Option.bind_some]
        rw [inc64 (by omega)]
        by_cases h : 0 ≤ q.getD i 0 ∧ q.getD i 0 ≤ 16
        · rw [decide_eq_true h]; rfl
        · rw [decide_eq_false h]; rfl
      rcases iter_scan (f := F_slices_IndexFunc_int.l26 mx q (q.length : Int)) (fun i => (i : Int)) q.length (fun i => 0 ≤ q.getD i 0 ∧ q.getD i 0 ≤ 16) (lt_N0 (by omega)) (fun i => .inl (i : Int)) (.inr ())
        (fun i hi hp _ => by rw [hstep i hi, decide_eq_true hp]; rfl)
        (fun i hi hp _ => by rw [hstep i hi, decide_eq_false hp]; rfl)
        (fun _ => by simp only [F_slices_IndexFunc_int.l26, nltd, cond_false]) with ⟨h, e⟩ | ⟨i, hi, hp, _, e⟩
      · have e : iter mx (F_slices_IndexFunc_int.l26 mx q (q.length : Int)) (0 : Int) = _ := e
        rw [e, decide_eq_true (show quotasOk q from ⟨h1, h2, fun x hx => by
          obtain ⟨j, hj, rfl⟩ := List.mem_iff_getElem.1 hx
          have := h j hj
          rwa [getD_some hj] at this⟩)]
        rfl
      · have e : iter mx (F_slices_IndexFunc_int.l26 mx q (q.length : Int)) (0 : Int) = _ := e
        rw [e, decide_eq_false (fun h : quotasOk q => hp (h.2.2 _ (getD_lt hi)))]
        simp only [Option.bind_some, lez, Bool.not_true]
    · rw [decide_eq_false (show ¬ (q.length : Int) ≤ 4 by omega), decide_eq_false (fun h : quotasOk q => h2 h.2.1)]; rfl
  · rw [decide_eq_false (show ¬ (0 : Int) < (q.length : Int) by omega), decide_eq_false (fun h : quotasOk q => h1 h.1)]; rfl

/-! ### where the items stand -/
def plc (l : List Kept) : Nat → Mp
  | 0 => []
  | k + 1 => mset KQ (plc l k) (nm (l.getD k K0)) (k : Int)
theorem plc_keys (l : List Kept) : ∀ k, k ≤ l.length → ((plc l k).map Prod.fst).Nodup ∧ (∀ x, x ∈ (plc l k).map Prod.fst ↔ x ∈ (l.take k).map nm) ∧ (plc l k).length ≤ k ∧ ((plc l k).length = k ↔ ((l.take k).map nm).Nodup)
  | 0, _ => by simp [plc]
  | k + 1, h => by
    obtain ⟨h1, h2, h3, h4⟩ := plc_keys l k (by omega)
    have ht := take_succ' (l := l) (k := k) (by omega) K0
    rw [plc, ht, List.map_append, List.map_singleton]
    refine ⟨mset_nodup h1 _ _, fun x => ?_, ?_, ?_⟩
    · rw [mset_keys]
      by_cases h5 : nm (l.getD k K0) ∈ (plc l k).map Prod.fst
      · rw [if_pos h5, List.mem_append, List.mem_singleton, h2]
        exact ⟨.inl, fun hh => hh.elim id fun e => by rw [e]; exact (h2 _).1 h5⟩
      · rw [if_neg h5, List.mem_append, List.mem_append, h2]
    · rw [mset_len]; split <;> omega
    · rw [mset_len, List.nodup_append]
      by_cases h5 : nm (l.getD k K0) ∈ (plc l k).map Prod.fst
      · rw [if_pos h5]
        exact ⟨fun e => by omega, fun hh => absurd rfl (hh.2.2 _ ((h2 _).1 h5) _ (List.mem_singleton.2 rfl))⟩
      · rw [if_neg h5]
        refine ⟨fun e => ⟨h4.1 (by omega), by simp, fun a ha b hb => ?_⟩, fun hh => by rw [h4.2 hh.1]⟩
        rw [List.mem_singleton] at hb
        rw [hb]; exact fun e => h5 ((h2 _).2 (e ▸ ha))
theorem plc_get {l : List Kept} (hl : (l.map nm).Nodup) : ∀ k, k ≤ l.length → ∀ x i, mget KQ (plc l k) x = some i ↔ ∃ j : Nat, i = (j : Int) ∧ j < k ∧ nm (l.getD j K0) = x
  | 0, _, x, i => by simp [plc, mget]
  | k + 1, h, x, i => by
    rw [plc, mget_mset]
    by_cases hx : x = nm (l.getD k K0)
    · rw [if_pos hx]
      constructor
      · intro e; exact ⟨k, (Option.some.inj e).symm, by omega, hx.symm⟩
      · rintro ⟨j, rfl, hj, hn⟩
        rw [hx] at hn
        have : j = k := by
          rw [getD_some (show j < l.length by omega), getD_some (show k < l.length by omega)] at hn
          have h1 : (l.map nm)[j]'(by rw [List.length_map]; omega) = (l.map nm)[k]'(by rw [List.length_map]; omega) := by rw [List.getElem_map, List.getElem_map, hn]
          exact (List.getElem_inj hl).1 h1
        rw [this]
    · rw [if_neg hx, plc_get hl k (by omega)]
      constructor
      · rintro ⟨j, rfl, hj, hn⟩; exact ⟨j, rfl, by omega, hn⟩
      · rintro ⟨j, rfl, hj, hn⟩
        refine ⟨j, rfl, ?_, hn⟩
        rcases Nat.lt_succ_iff_lt_or_eq.1 hj with h | h
        · exact h
        · subst h; exact absurd hn.symm hx
theorem places_ok {l : List Kept} (hl : l.length ≤ 1000000) : F_image_places mx l = some (plc l l.length) := by
  have := iter_count (f := F_image_places.l58 mx l (l.length : Int)) (fun i => ((i : Int), plc l i)) l.length (r := plc l l.length) (lt_N0 (by omega)) (fun i hi => by
    have c1 : Nat.blt (plc l i).length 4294967296 = true := blt_t (by have := (plc_keys l i (by omega)).2.2.1; omega)
    simp only [F_image_places.l58, ltd hi, lez, Bool.and_self, cond_true, Int.toNat_natCast, c1]
    rw [inc64 (by omega)]
    rfl) (by simp only [F_image_places.l58, nltd, cond_false])
  have this : iter mx (F_image_places.l58 mx l (l.length : Int)) ((0 : Int), ([] : Mp)) = _ := this
  simp only [F_image_places, this, Option.bind_some]

theorem check_ok {v : Img} (hb : ∀ k ∈ v.2.2.1, k.2.1.length ≤ 140737488351232 ∧ k.2.2.1.length ≤ 140737488351232) : F_image_Check mx v = some (if okI v then 0 else 8) := by
  obtain ⟨t, q, l, e, n, b⟩ := v
  dsimp only at hb
  simp only [F_image_Check, in_ok, quotas_ok, Option.bind_some]
  by_cases h1 : 0 ≤ t ∧ t ≤ 1099511627776
  case neg => rw [decide_eq_false h1, if_neg (fun h : okI (t, q, l, e, n, b) => h1 h.1)]; rfl
  by_cases h2 : quotasOk q
  case neg => rw [decide_eq_true h1, decide_eq_false h2, if_neg (fun h : okI (t, q, l, e, n, b) => h2 h.2.1)]; rfl
  by_cases h3 : l.length ≤ 1024
  case neg => rw [decide_eq_true h1, decide_eq_true h2, decide_eq_true (show (1024 : Int) < (l.length : Int) by omega), if_neg (fun h : okI (t, q, l, e, n, b) => h3 h.2.2.1)]; rfl
  by_cases h4 : 0 ≤ e ∧ e ≤ 2147483647
  case neg => rw [decide_eq_true h1, decide_eq_true h2, decide_eq_false (show ¬ (1024 : Int) < (l.length : Int) by omega), decide_eq_false h4, if_neg (fun h : okI (t, q, l, e, n, b) => h4 h.2.2.2.1)]; rfl
  by_cases h5 : 0 ≤ n ∧ n ≤ 2147483647
  case neg => rw [decide_eq_true h1, decide_eq_true h2, decide_eq_false (show ¬ (1024 : Int) < (l.length : Int) by omega), decide_eq_true h4, decide_eq_false h5, if_neg (fun h : okI (t, q, l, e, n, b) => h5 h.2.2.2.2.1)]; rfl
  rw [decide_eq_true h1, decide_eq_true h2, decide_eq_false (show ¬ (1024 : Int) < (l.length : Int) by omega), decide_eq_true h4, decide_eq_true h5]
  simp only [Bool.not_true, cond_false]
  have hq4 := h2.2.1
  have hstep : ∀ i, i < l.length → F_image_Check.l58 mx t q l (l.length : Int) (i : Int) = some (bif decide (keptOk t q.length (l.getD i K0)) then .next ((i + 1 : Nat) : Int) else .fin (.inl 8)) := fun i hi => by
    obtain ⟨b1, b2⟩ := hb _ (getD_lt (d := K0) hi)
    have hw : IntKind.i64.wrap ((q.length : Int) - 1) = (q.length : Int) - 1 := w64 (by omega) (by omega)
    simp only [F_image_Check.l58, ltd hi, lez, Bool.and_self, cond_true, Int.toNat_natCast, hw, in_ok, Option.bind_some, may_ok _ b1 b2, due_ok]
    rw [inc64 (by omega)]
    by_cases g1 : 0 ≤ (l.getD i K0).1 ∧ (l.getD i K0).1 ≤ (q.length : Int) - 1
    · rw [decide_eq_true g1]
      by_cases g2 : itemOk (l.getD i K0).2
      · rw [decide_eq_true g2]
        cases g3 : dueB (l.getD i K0).2 t with
        | true => rw [decide_eq_false (fun h : keptOk t q.length (l.getD i K0) => by rw [h.2.2.2] at g3; cases g3)]; rfl
        | false => rw [decide_eq_true (show keptOk t q.length (l.getD i K0) from ⟨g1.1, by omega, g2, g3⟩)]; rfl
      · rw [decide_eq_false g2, decide_eq_false (fun h : keptOk t q.length (l.getD i K0) => g2 h.2.2.1)]; rfl
    · rw [decide_eq_false g1, decide_eq_false (fun h : keptOk t q.length (l.getD i K0) => g1 ⟨h.1, by have := h.2.1; omega⟩)]; rfl
  rcases iter_scan (f := F_image_Check.l58 mx t q l (l.length : Int)) (fun i => (i : Int)) l.length (fun i => keptOk t q.length (l.getD i K0)) (lt_N0 (by omega)) (fun _ => .inl 8) (.inr ())
    (fun i hi hp _ => by rw [hstep i hi, decide_eq_true hp]; rfl)
    (fun i hi hp _ => by rw [hstep i hi, decide_eq_false hp]; rfl)
    (fun _ => by simp only [F_image_Check.l58, nltd, cond_false]) with ⟨h, e1⟩ | ⟨i, hi, hp, _, e1⟩
  · have e1 : iter mx (F_image_Check.l58 mx t q l (l.length : Int)) (0 : Int) = _ := e1
    have hall : ∀ k ∈ l, keptOk t q.length k := fun k hk => by
      obtain ⟨j, hj, rfl⟩ := List.mem_iff_getElem.1 hk
      have := h j hj
      rwa [getD_some hj] at this
    have hp := (plc_keys l l.length (Nat.le_refl _)).2.2.2
    rw [List.take_length] at hp
    rw [e1]
    simp only [Option.bind_some, places_ok (l := l) (by omega), bne_int]
    by_cases h6 : (l.map nm).Nodup
    · rw [hp.2 h6, decide_eq_true rfl, if_pos ⟨h1, h2, h3, h4, h5, hall, h6⟩]; rfl
    · rw [decide_eq_false (fun e2 => h6 (hp.1 (by omega))), if_neg (fun h : okI (t, q, l, e, n, b) => h6 h.2.2.2.2.2.2)]; rfl
  · have e1 : iter mx (F_image_Check.l58 mx t q l (l.length : Int)) (0 : Int) = _ := e1
    rw [e1, if_neg (fun h : okI (t, q, l, e, n, b) => hp (h.2.2.2.2.2.1 _ (getD_lt hi)))]; rfl
theorem okI_len {v : Img} (h : okI v) : ∀ k ∈ v.2.2.1, k.2.1.length ≤ 140737488351232 ∧ k.2.2.1.length ≤ 140737488351232 := fun k hk => by
  have := (h.2.2.2.2.2.1 k hk).2.2.1
  unfold itemOk at this
  omega
end Go.Proofs.Ytmkfifilpkhfoaa
