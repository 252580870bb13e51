/- What the document's own functions on images answer: may an image be? -/
import Derived.Test.YtmkfifilpkhfoaaKIf
namespace Go.Proofs.Ytmkfifilpkhfoaa
open Go.Abs
set_option maxRecDepth 100000

theorem rquotas_ok {q : List Int} : F_ref21_quotas mx q = some (decide (quotasOk q)) := by
  simp only [F_ref21_quotas]
  by_cases h1 : 1 ≤ q.length
  case neg => rw [decide_eq_true (show (q.length : Int) < 1 by omega), decide_eq_false (fun h : quotasOk q => h1 h.1)]; rfl
  rw [decide_eq_false (show ¬ (q.length : Int) < 1 by omega)]
  by_cases h2 : q.length ≤ 4
  case neg => rw [decide_eq_true (show (4 : Int) < (q.length : Int) by omega), decide_eq_false (fun h : quotasOk q => h2 h.2.1)]; rfl
  rw [decide_eq_false (show ¬ (4 : Int) < (q.length : Int) by omega)]
  simp only [cond_false]
  have hstep : ∀ i, i < q.length → F_ref21_quotas.l58 mx q (i : Int) = some (bif decide (0 ≤ q.getD i 0 ∧ q.getD i 0 ≤ 16) then .next ((i + 1 : Nat) : Int) else .fin (.inl false)) := fun i hi => by
    simp only [F_ref21_quotas.l58, ltd hi, lez, Bool.and_self, cond_true, Int.toNat_natCast]
    rw [inc64 (by omega)]
    by_cases g1 : q.getD i 0 < 0
    · rw [decide_eq_true g1, decide_eq_false (show ¬ (0 ≤ q.getD i 0 ∧ q.getD i 0 ≤ 16) by omega)]; rfl
    · rw [decide_eq_false g1]
      by_cases g2 : 16 < q.getD i 0
      · rw [decide_eq_true g2, decide_eq_false (show ¬ (0 ≤ q.getD i 0 ∧ q.getD i 0 ≤ 16) by omega)]; rfl
      · rw [decide_eq_false g2, decide_eq_true (show (0 ≤ q.getD i 0 ∧ q.getD i 0 ≤ 16) by omega)]; rfl
  rcases iter_scan (f := F_ref21_quotas.l58 mx q) (fun i => (i : Int)) q.length (fun i => 0 ≤ q.getD i 0 ∧ q.getD i 0 ≤ 16) (lt_N0 (by omega)) (fun i => .inl false) (.inr ())
    (fun i hi hp _ => by rw [hstep i hi, decide_eq_true hp]; rfl)
    (fun i hi hp _ => by rw [hstep i hi, decide_eq_false hp]; rfl)
    (fun _ => by simp only [F_ref21_quotas.l58, nltd, cond_false]) with ⟨h, e⟩ | ⟨i, hi, hp, _, e⟩
  · have e : iter mx (F_ref21_quotas.l58 mx q) (0 : Int) = _ := e
    rw [e, decide_eq_true (show quotasOk q from ⟨h1, h2, fun x hx => by
      obtain ⟨j, hj, rfl⟩ := List.mem_iff_getElem.1 hx
      have := h j hj
      rwa [getD_some hj] at this⟩)]
    rfl
  · have e : iter mx (F_ref21_quotas.l58 mx q) (0 : Int) = _ := e
    rw [e, decide_eq_false (fun h : quotasOk q => hp (h.2.2 _ (getD_lt hi)))]
    rfl
theorem rkey_ok (b : List Int) : F_ref01_Key mx b = some (decide (1 ≤ b.length ∧ b.length ≤ 32)) := by
  simp only [F_ref01_Key]
  by_cases h : 1 ≤ b.length
  · rw [decide_eq_true (show (1 : Int) ≤ (b.length : Int) by omega)]
    by_cases h2 : b.length ≤ 32
    · rw [decide_eq_true (show (b.length : Int) ≤ 32 by omega), decide_eq_true (show 1 ≤ b.length ∧ b.length ≤ 32 from ⟨h, h2⟩)]; rfl
    · rw [decide_eq_false (show ¬ (b.length : Int) ≤ 32 by omega), decide_eq_false (show ¬ (1 ≤ b.length ∧ b.length ≤ 32) from fun hh => h2 hh.2)]; rfl
  · rw [decide_eq_false (show ¬ (1 : Int) ≤ (b.length : Int) by omega), decide_eq_false (show ¬ (1 ≤ b.length ∧ b.length ≤ 32) from fun hh => h hh.1)]; rfl
theorem ritem_ok (x : Itm) : F_ref01_Item mx x = some (decide (1 ≤ x.1.length ∧ x.1.length ≤ 32) && (decide (x.2.1.length ≤ 512) && decide (0 ≤ x.2.2.2.1 ∧ x.2.2.2.1 ≤ 1099511627776))) := by
  simp only [F_ref01_Item, rkey_ok, Option.bind_some]
  have e : decide ((x.2.1.length : Int) ≤ 512) = decide (x.2.1.length ≤ 512) := decide_eq_decide.2 (by omega)
  rw [e]
  cases decide (1 ≤ x.1.length ∧ x.1.length ≤ 32) <;> cases decide (x.2.1.length ≤ 512) <;> try rfl
  simp only [cond_true, Bool.true_and]
  by_cases h : 0 ≤ x.2.2.2.1
  · rw [decide_eq_true h]; simp [h]
  · rw [decide_eq_false h]; simp [h]
theorem rsize_ok (x : Itm) (h1 : x.1.length ≤ 140737488351232) (h2 : x.2.1.length ≤ 140737488351232) : F_ref21_Size mx x = some ((8 + x.1.length + x.2.1.length : Nat) : Int) := by
  simp only [F_ref21_Size]
  rw [w64 (n := 8 + (x.1.length : Int)) (by omega) (by omega), w64 (by omega) (by omega)]
  congr 1
theorem rdue_ok (x : Itm) (t : Int) : F_ref20_Due mx (x.1, x.2.1, x.2.2.1, x.2.2.2.1, x.2.2.2.2, t) = some (dueB x t) := by
  simp only [F_ref20_Due, bne_int, dueB]
  by_cases h : x.2.2.2.1 = 0
  · rw [decide_eq_true h, decide_eq_false (show ¬ (x.2.2.2.1 ≠ 0 ∧ x.2.2.2.1 ≤ t) from fun hh => hh.1 h)]; rfl
  · rw [decide_eq_false h]
    by_cases h2 : x.2.2.2.1 ≤ t
    · rw [decide_eq_true h2, decide_eq_true ⟨h, h2⟩]; rfl
    · rw [decide_eq_false h2, decide_eq_false (show ¬ (x.2.2.2.1 ≠ 0 ∧ x.2.2.2.1 ≤ t) from fun hh => h2 hh.2)]; rfl
theorem nm_iff {x y : Kept} : nm x = nm y ↔ x.1 = y.1 ∧ x.2.1 = y.2.1 := by unfold nm; rw [Prod.mk.injEq]
theorem rin_ok {l : List Kept} (hl : l.length ≤ 1000000) {k : Nat} (hk : k < l.length) :
    iter mx (F_ref21_Check.l14926 mx l (k : Int) (l.getD k K0)) (0 : Int) = some (if ∀ j, j < k → nm (l.getD j K0) ≠ nm (l.getD k K0) then .inr () else .inl 8) := by
  have hstep : ∀ j, j < k → F_ref21_Check.l14926 mx l (k : Int) (l.getD k K0) (j : Int) = some (bif decide (nm (l.getD j K0) ≠ nm (l.getD k K0)) then .next ((j + 1 : Nat) : Int) else .fin (.inl 8)) := fun j hj => by
    simp only [F_ref21_Check.l14926, ltd hj, lez, ltd (show j < l.length by omega), Bool.and_self, cond_true, Int.toNat_natCast, ieq]
    rw [inc64 (by omega)]
    by_cases g1 : (l.getD j K0).1 = (l.getD k K0).1
    · rw [decide_eq_true g1]
      by_cases g2 : (l.getD j K0).2.1 = (l.getD k K0).2.1
      · rw [show ((l.getD j K0).2.1 == (l.getD k K0).2.1) = true by rw [g2]; exact beq_self_eq_true _, decide_eq_false (fun h => h (nm_iff.2 ⟨g1, g2⟩))]; rfl
      · rw [show ((l.getD j K0).2.1 == (l.getD k K0).2.1) = false from beq_eq_false_iff_ne.2 g2, decide_eq_true (show nm (l.getD j K0) ≠ nm (l.getD k K0) from fun h => g2 (nm_iff.1 h).2)]; rfl
    · rw [decide_eq_false g1, decide_eq_true (show nm (l.getD j K0) ≠ nm (l.getD k K0) from fun h => g1 (nm_iff.1 h).1)]; rfl
  rcases iter_scan (f := F_ref21_Check.l14926 mx l (k : Int) (l.getD k K0)) (fun i => (i : Int)) k (fun j => nm (l.getD j K0) ≠ nm (l.getD k K0)) (lt_N0 (by omega)) (fun i => .inl 8) (.inr ())
    (fun i hi hp _ => by rw [hstep i hi, decide_eq_true hp]; rfl)
    (fun i hi hp _ => by rw [hstep i hi, decide_eq_false hp]; rfl)
    (fun _ => by simp only [F_ref21_Check.l14926, nltd, cond_false]) with ⟨h, e⟩ | ⟨i, hi, hp, _, e⟩
  · have e : iter mx (F_ref21_Check.l14926 mx l (k : Int) (l.getD k K0)) (0 : Int) = _ := e
    rw [e, if_pos h]
  · have e : iter mx (F_ref21_Check.l14926 mx l (k : Int) (l.getD k K0)) (0 : Int) = _ := e
    rw [e, if_neg (fun h => hp (h i hi))]
theorem rcheck_ok {v : Img} (hb : ∀ k ∈ v.2.2.1, k.2.1.length ≤ 140737488351232 ∧ k.2.2.1.length ≤ 140737488351232) : F_ref21_Check mx v = some (if okI v then 0 else 8) := by
  obtain ⟨t, q, l, e, n, b⟩ := v
  dsimp only at hb
  simp only [F_ref21_Check, rquotas_ok, Option.bind_some]
  by_cases h1 : 0 ≤ t
  case neg => rw [decide_eq_true (show t < 0 by omega), if_neg (fun h : okI (t, q, l, e, n, b) => h1 h.1.1)]; rfl
  by_cases h1' : t ≤ 1099511627776
  case neg => rw [decide_eq_false (show ¬ t < 0 by omega), decide_eq_true (show 1099511627776 < t by omega), if_neg (fun h : okI (t, q, l, e, n, b) => h1' h.1.2)]; rfl
  rw [decide_eq_false (show ¬ t < 0 by omega), decide_eq_false (show ¬ 1099511627776 < t by omega)]
  by_cases h2 : quotasOk q
  case neg => rw [decide_eq_false h2, if_neg (fun h : okI (t, q, l, e, n, b) => h2 h.2.1)]; rfl
  rw [decide_eq_true h2]
  by_cases h3 : l.length ≤ 1024
  case neg => rw [decide_eq_true (show (1024 : Int) < (l.length : Int) by omega), if_neg (fun h : okI (t, q, l, e, n, b) => h3 h.2.2.1)]; rfl
  rw [decide_eq_false (show ¬ (1024 : Int) < (l.length : Int) by omega)]
  by_cases h4 : 0 ≤ e
  case neg => rw [decide_eq_true (show e < 0 by omega), if_neg (fun h : okI (t, q, l, e, n, b) => h4 h.2.2.2.1.1)]; rfl
  rw [decide_eq_false (show ¬ e < 0 by omega)]
  by_cases h4' : e ≤ 2147483647
  case neg => rw [decide_eq_true (show 2147483647 < e by omega), if_neg (fun h : okI (t, q, l, e, n, b) => h4' h.2.2.2.1.2)]; rfl
  rw [decide_eq_false (show ¬ 2147483647 < e by omega)]
  by_cases h5 : 0 ≤ n
  case neg => rw [decide_eq_true (show n < 0 by omega), if_neg (fun h : okI (t, q, l, e, n, b) => h5 h.2.2.2.2.1.1)]; rfl
  rw [decide_eq_false (show ¬ n < 0 by omega)]
  by_cases h5' : n ≤ 2147483647
  case neg => rw [decide_eq_true (show 2147483647 < n by omega), if_neg (fun h : okI (t, q, l, e, n, b) => h5' h.2.2.2.2.1.2)]; rfl
  rw [decide_eq_false (show ¬ 2147483647 < n by omega)]
  simp only [Bool.not_true, cond_false]
  have hstep : ∀ i, i < l.length → F_ref21_Check.l58 mx t q l (i : Int) = some (bif decide (keptOk t q.length (l.getD i K0) ∧ ∀ j, j < i → nm (l.getD j K0) ≠ nm (l.getD i K0)) then .next ((i + 1 : Nat) : Int) else .fin (.inl 8)) := fun i hi => by
    obtain ⟨b1, b2⟩ := hb _ (getD_lt (d := K0) hi)
    have hin := rin_ok (l := l) (by omega) hi
    have hdu := rdue_ok (l.getD i K0).2 t
    simp only [F_ref21_Check.l58, ltd hi, lez, Bool.and_self, cond_true, Int.toNat_natCast, ritem_ok, Option.bind_some, rsize_ok _ b1 b2, hdu, hin]
    rw [inc64 (by omega)]
    have neg : ¬ keptOk t q.length (l.getD i K0) → (bif decide (keptOk t q.length (l.getD i K0) ∧ ∀ j, j < i → nm (l.getD j K0) ≠ nm (l.getD i K0)) then (Step.next ((i + 1 : Nat) : Int) : Step Int (Int ⊕ Unit)) else .fin (.inl 8)) = .fin (.inl 8) := fun h => by
      rw [decide_eq_false (fun hh => h hh.1)]; rfl
    by_cases g1 : (l.getD i K0).1 < 0
    · rw [decide_eq_true g1, neg (fun h => by have := h.1; omega)]; rfl
    rw [decide_eq_false g1]
    by_cases g2 : (q.length : Int) ≤ (l.getD i K0).1
    · rw [decide_eq_true g2, neg (fun h => by have := h.2.1; omega)]; rfl
    rw [decide_eq_false g2]
    by_cases g3 : 1 ≤ (l.getD i K0).2.1.length ∧ (l.getD i K0).2.1.length ≤ 32
    case neg => rw [decide_eq_false g3, neg (fun h => g3 ⟨h.2.2.1.1, h.2.2.1.2.1⟩)]; rfl
    rw [decide_eq_true g3]
    by_cases g4 : (l.getD i K0).2.2.1.length ≤ 512
    case neg => rw [decide_eq_false g4, neg (fun h => by have := h.2.2.1.2.2.1; omega)]; rfl
    rw [decide_eq_true g4]
    by_cases g5 : 0 ≤ (l.getD i K0).2.2.2.2.1 ∧ (l.getD i K0).2.2.2.2.1 ≤ 1099511627776
    case neg => rw [decide_eq_false g5, neg (fun h => g5 h.2.2.1.2.2.2)]; rfl
    rw [decide_eq_true g5]
    by_cases g6 : 8 + (l.getD i K0).2.1.length + (l.getD i K0).2.2.1.length ≤ 256
    case neg => rw [decide_eq_true (show (256 : Int) < ((8 + (l.getD i K0).2.1.length + (l.getD i K0).2.2.1.length : Nat) : Int) by omega), neg (fun h => g6 h.2.2.1.2.2.1)]; rfl
    rw [decide_eq_false (show ¬ (256 : Int) < ((8 + (l.getD i K0).2.1.length + (l.getD i K0).2.2.1.length : Nat) : Int) by omega)]
    cases g7 : dueB (l.getD i K0).2 t with
    | true => rw [neg (fun h => by rw [h.2.2.2] at g7; cases g7)]; rfl
    | false =>
      have hk : keptOk t q.length (l.getD i K0) := ⟨by omega, by omega, ⟨g3.1, g3.2, g6, g5.1, g5.2⟩, g7⟩
      by_cases g8 : ∀ j, j < i → nm (l.getD j K0) ≠ nm (l.getD i K0)
      · rw [if_pos g8, decide_eq_true (show keptOk t q.length (l.getD i K0) ∧ ∀ j, j < i → nm (l.getD j K0) ≠ nm (l.getD i K0) from ⟨hk, g8⟩)]; rfl
      · rw [if_neg g8, decide_eq_false (fun hh : keptOk t q.length (l.getD i K0) ∧ ∀ j, j < i → nm (l.getD j K0) ≠ nm (l.getD i K0) => g8 hh.2)]; rfl
  rcases iter_scan (f := F_ref21_Check.l58 mx t q l) (fun i => (i : Int)) l.length (fun i => keptOk t q.length (l.getD i K0) ∧ ∀ j, j < i → nm (l.getD j K0) ≠ nm (l.getD i K0)) (lt_N0 (by omega)) (fun _ => .inl 8) (.inr ())
    (fun i hi hp _ => by rw [hstep i hi, decide_eq_true hp]; rfl)
    (fun i hi hp _ => by rw [hstep i hi, decide_eq_false hp]; rfl)
    (fun _ => by simp only [F_ref21_Check.l58, nltd, cond_false]) with ⟨h, e1⟩ | ⟨i, hi, hp, _, e1⟩
  · have e1 : iter mx (F_ref21_Check.l58 mx t q l) (0 : Int) = _ := e1
    have hall : ∀ k ∈ l, keptOk t q.length k := fun k hk => by
      obtain ⟨j, hj, rfl⟩ := List.mem_iff_getElem.1 hk
      have := (h j hj).1
      rwa [getD_some hj] at this
    have hnd : (l.map nm).Nodup := by
      rw [List.Nodup, List.pairwise_iff_getElem]
      intro i j hi hj hij
      rw [List.length_map] at hi hj
      have := (h j hj).2 i hij
      rw [getD_some hi, getD_some hj] at this
      rw [List.getElem_map, List.getElem_map]; exact this
    rw [e1, if_pos (show okI (t, q, l, e, n, b) from ⟨⟨h1, h1'⟩, h2, h3, ⟨h4, h4'⟩, ⟨h5, h5'⟩, hall, hnd⟩)]; rfl
  · have e1 : iter mx (F_ref21_Check.l58 mx t q l) (0 : Int) = _ := e1
    rw [e1, if_neg (fun h : okI (t, q, l, e, n, b) => hp ⟨h.2.2.2.2.2.1 _ (getD_lt hi), fun j hj hn => by
      have hnd := h.2.2.2.2.2.2
      dsimp only at hnd
      rw [getD_some (show j < l.length by omega), getD_some hi] at hn
      have : (l.map nm)[j]'(by rw [List.length_map]; omega) = (l.map nm)[i]'(by rw [List.length_map]; exact hi) := by rw [List.getElem_map, List.getElem_map, hn]
      have := (List.getElem_inj hnd).1 this
      omega⟩)]; rfl
end Go.Proofs.Ytmkfifilpkhfoaa
