/- An image as bytes. -/
import Derived.Test.YtmkfifilpkhfoaaKIf
namespace Go.Proofs.Ytmkfifilpkhfoaa
open Go.Abs
set_option maxRecDepth 100000
theorem inums_ok {a l : List Int} (ha : a.length ≤ 1000000000) (hl : okNums l) : F_image_nums mx (a, l) = some (a ++ numsB l) := by
  obtain ⟨h1, h2⟩ := hl
  have := iter_count (f := F_image_nums.l26 mx l (l.length : Int)) (fun i => (a ++ numsB (l.take i), (i : Int))) l.length (r := a ++ numsB l) (lt_N0 (by omega)) (fun i hi => by
    obtain ⟨b1, b2⟩ := h2 _ (getD_lt (d := 0) hi)
    have hn := numsB_len (l.take i)
    rw [List.length_take] at hn
    have hs := sm_len (l.getD i 0).toNat
    have c1 : Nat.ble ((a ++ numsB (l.take i)).length + (sm (l.getD i 0).toNat).length) 140737488351232 = true := ble_t (by rw [List.length_append]; omega)
    simp only [F_image_nums.l26, ltd hi, lez, Bool.and_self, cond_true, Int.toNat_natCast, small_wrap b1 (show l.getD i 0 ≤ 18446744073709551615 by omega), Option.bind_some, c1]
    rw [inc64 (by omega), take_succ' hi 0, numsB, numsB, List.map_append, List.flatten_append, List.append_assoc]
    simp) (by simp only [F_image_nums.l26, nltd, cond_false, List.take_length])
  have this : iter mx (F_image_nums.l26 mx l (l.length : Int)) (a ++ numsB (l.take 0), (0 : Int)) = _ := this
  rw [show a ++ numsB (l.take 0) = a by simp [numsB]] at this
  simp only [F_image_nums, this, Option.bind_some]
theorem inums1 {a : List Int} {x : Int} (ha : a.length ≤ 1000000000) (h1 : 0 ≤ x) (h2 : x ≤ 9223372036854775807) : F_image_nums mx (a, [x]) = some (a ++ sm x.toNat) := by
  have := inums_ok ha (l := [x]) ⟨by simp, fun y hy => by rw [List.mem_singleton] at hy; subst hy; exact ⟨h1, h2⟩⟩
  simpa [numsB] using this
theorem inums2 {a : List Int} {x y : Int} (ha : a.length ≤ 1000000000) (h1 : 0 ≤ x) (h2 : x ≤ 9223372036854775807) (h3 : 0 ≤ y) (h4 : y ≤ 9223372036854775807) : F_image_nums mx (a, [x, y]) = some (a ++ (sm x.toNat ++ sm y.toNat)) := by
  have := inums_ok ha (l := [x, y]) ⟨by simp, fun z hz => by
    rcases List.mem_cons.1 hz with rfl | hz
    · exact ⟨h1, h2⟩
    · rw [List.mem_singleton] at hz; subst hz; exact ⟨h3, h4⟩⟩
  simpa [numsB] using this
def keptB (k : Kept) : List Int := sm k.1.toNat ++ txt k.2.1 ++ txt k.2.2.1 ++ (sm k.2.2.2.1.toNat ++ sm k.2.2.2.2.1.toNat) ++ sm k.2.2.2.2.2.toNat
def keptsB (l : List Kept) : List Int := (l.map keptB).flatten
def headB (v : Img) : List Int := sm v.1.toNat ++ sm v.2.1.length ++ numsB v.2.1 ++ (sm v.2.2.2.1.toNat ++ sm v.2.2.2.2.1.toNat) ++ [if v.2.2.2.2.2 then 1 else 0] ++ sm v.2.2.1.length
def imgB (v : Img) : List Int := headB v ++ keptsB v.2.2.1
theorem keptsB_app (a b : List Kept) : keptsB (a ++ b) = keptsB a ++ keptsB b := by simp [keptsB]
theorem keptsB_one (c : Kept) : keptsB [c] = keptB c := by simp [keptsB]
/-- Numbers that have a width of their own. -/
def wfK (k : Kept) : Prop := (0 ≤ k.2.2.2.1 ∧ k.2.2.2.1 ≤ 4294967295) ∧ 0 ≤ k.2.2.2.2.2 ∧ k.2.2.2.2.2 ≤ 18446744073709551615
theorem keptB_len {k : Kept} (h : itemOk k.2) : (keptB k).length ≤ 400 := by
  have a1 := sm_len k.1.toNat
  have a2 := txt_len k.2.1
  have a3 := txt_len k.2.2.1
  have a4 := sm_len k.2.2.2.1.toNat
  have a5 := sm_len k.2.2.2.2.1.toNat
  have a6 := sm_len k.2.2.2.2.2.toNat
  have := h.2.2.1
  unfold keptB; simp only [List.length_append]; omega
theorem headB_len {v : Img} (h : okI v) : (headB v).length ≤ 200 := by
  have a1 := sm_len v.1.toNat
  have a2 := sm_len v.2.1.length
  have a3 := numsB_len v.2.1
  have a4 := sm_len v.2.2.2.1.toNat
  have a5 := sm_len v.2.2.2.2.1.toNat
  have a6 := sm_len v.2.2.1.length
  have := h.2.1.2.1
  unfold headB; simp only [List.length_append, List.length_singleton]; omega
def writeS (v : Img) : List Int × Int := if okI v then (if 65536 < (imgB v).length then ([], 3) else (imgB v, 0)) else ([], 8)
theorem write_ok {v : Img} (hb : ∀ k ∈ v.2.2.1, k.2.1.length ≤ 140737488351232 ∧ k.2.2.1.length ≤ 140737488351232) (hw : ∀ k ∈ v.2.2.1, wfK k) : F_image_Write mx v = some (writeS v) := by
  have hck := check_ok (v := v) hb
  have hh := fun h => headB_len (v := v) h
  obtain ⟨t, q, l, e, n, b⟩ := v
  dsimp only at hck hw
  simp only [F_image_Write, hck, Option.bind_some, writeS, bne_int]
  by_cases h1 : okI (t, q, l, e, n, b)
  case neg => simp only [if_neg h1]; rfl
  simp only [if_pos h1, decide_true, Bool.not_true, cond_false]
  obtain ⟨⟨t1, t2⟩, ⟨q1, q2, q3⟩, l1, ⟨e1, e2⟩, ⟨n1, n2⟩, hk, _⟩ := id h1
  dsimp only at t1 t2 q1 q2 q3 l1 e1 e2 n1 n2 hk
  have hh := hh h1
  have s1 := sm_len t.toNat
  have s2 := sm_len q.length
  have s3 := numsB_len q
  have s4 := sm_len e.toNat
  have s5 := sm_len n.toNat
  have s6 := sm_len l.length
  have g1 := inums2 (a := []) (x := t) (y := (q.length : Int)) (by simp) t1 (by omega) (by omega) (by omega)
  rw [Int.toNat_natCast, List.nil_append] at g1
  have g2 := inums_ok (a := sm t.toNat ++ sm q.length) (l := q) (by rw [List.length_append]; omega) ⟨by omega, fun x hx => ⟨(q3 x hx).1, by have := (q3 x hx).2; omega⟩⟩
  have g3 := inums2 (a := sm t.toNat ++ sm q.length ++ numsB q) (x := e) (y := n) (by simp only [List.length_append]; omega) e1 (by omega) n1 (by omega)
  have c1 : Nat.ble ((sm t.toNat ++ sm q.length ++ numsB q ++ (sm e.toNat ++ sm n.toNat)).length + 1) 140737488351232 = true := ble_t (by simp only [List.length_append]; omega)
  have g4 : F_image_Write.s30 mx b (sm t.toNat ++ sm q.length ++ numsB q ++ (sm e.toNat ++ sm n.toNat)) = some (sm t.toNat ++ sm q.length ++ numsB q ++ (sm e.toNat ++ sm n.toNat) ++ [if b then 1 else 0]) := by
    simp only [F_image_Write.s30, c1, cond_true]
    cases b <;> rfl
  have g5 := inums1 (a := sm t.toNat ++ sm q.length ++ numsB q ++ (sm e.toNat ++ sm n.toNat) ++ [if b then 1 else 0]) (x := (l.length : Int)) (by simp only [List.length_append, List.length_singleton]; omega) (by omega) (by omega)
  rw [Int.toNat_natCast] at g5
  have hhd : sm t.toNat ++ sm q.length ++ numsB q ++ (sm e.toNat ++ sm n.toNat) ++ [if b then 1 else 0] ++ sm l.length = headB (t, q, l, e, n, b) := rfl
  rw [hhd] at g5
  have hlen : ∀ i, i ≤ l.length → (keptsB (l.take i)).length ≤ 400 * i := fun i => by
    induction i with
    | zero => intro _; simp [keptsB]
    | succ i ih =>
      intro hi
      rw [take_succ' (l := l) (k := i) (by omega) K0, keptsB_app, keptsB_one, List.length_append]
      have := ih (by omega)
      have := keptB_len (hk _ (getD_lt (d := K0) (show i < l.length by omega))).2.2.1
      omega
  have hloop := iter_count (f := F_image_Write.l506 mx l (l.length : Int)) (fun i => (headB (t, q, l, e, n, b) ++ keptsB (l.take i), (i : Int))) l.length (r := imgB (t, q, l, e, n, b)) (lt_N0 (by omega)) (fun i hi => by
    obtain ⟨k1, k2, k3, k4⟩ := hk _ (getD_lt (d := K0) hi)
    obtain ⟨⟨w1, w2⟩, w3, w4⟩ := hw _ (getD_lt (d := K0) hi)
    have hl := hlen i (by omega)
    have hkl := keptB_len k3
    have e3 : headB (t, q, l, e, n, b) ++ keptsB (l.take i) ++ keptB (l.getD i K0) = headB (t, q, l, e, n, b) ++ keptsB (l.take (i + 1)) := by
      rw [take_succ' hi K0, keptsB_app, keptsB_one, List.append_assoc]
    have hA : (headB (t, q, l, e, n, b) ++ keptsB (l.take i)).length ≤ 1000000 := by rw [List.length_append]; omega
    generalize headB (t, q, l, e, n, b) ++ keptsB (l.take i) = A at e3 hA
    have a1 := sm_len (l.getD i K0).1.toNat
    have a2 := txt_len (l.getD i K0).2.1
    have a3 := txt_len (l.getD i K0).2.2.1
    have a4 := sm_len (l.getD i K0).2.2.2.1.toNat
    have a5 := sm_len (l.getD i K0).2.2.2.2.1.toNat
    have a6 := sm_len (l.getD i K0).2.2.2.2.2.toNat
    have i1 := k3.2.1
    have i2 := k3.2.2.1
    have i3 := k3.2.2.2
    have p1 := inums1 (a := A) (x := (l.getD i K0).1) (by omega) k1 (by omega)
    have p2 := text_ok (s := (l.getD i K0).2.1) (by omega)
    have p3 := text_ok (s := (l.getD i K0).2.2.1) (by omega)
    have d1 : Nat.ble ((A ++ sm (l.getD i K0).1.toNat).length + (txt (l.getD i K0).2.1).length) 140737488351232 = true := ble_t (by simp only [List.length_append]; omega)
    have d2 : Nat.ble ((A ++ sm (l.getD i K0).1.toNat ++ txt (l.getD i K0).2.1).length + (txt (l.getD i K0).2.2.1).length) 140737488351232 = true := ble_t (by simp only [List.length_append]; omega)
    have wf : IntKind.i64.wrap (l.getD i K0).2.2.2.1 = (l.getD i K0).2.2.2.1 := w64 (by omega) (by omega)
    have p4 := inums2 (a := A ++ sm (l.getD i K0).1.toNat ++ txt (l.getD i K0).2.1 ++ txt (l.getD i K0).2.2.1) (x := (l.getD i K0).2.2.2.1) (y := (l.getD i K0).2.2.2.2.1) (by simp only [List.length_append]; omega) w1 (by omega) i3.1 (by omega)
    have p5 := small_ok w3 w4
    have d3 : Nat.ble ((A ++ sm (l.getD i K0).1.toNat ++ txt (l.getD i K0).2.1 ++ txt (l.getD i K0).2.2.1 ++ (sm (l.getD i K0).2.2.2.1.toNat ++ sm (l.getD i K0).2.2.2.2.1.toNat)).length + (sm (l.getD i K0).2.2.2.2.2.toNat).length) 140737488351232 = true := ble_t (by simp only [List.length_append]; omega)
    have e4 : A ++ sm (l.getD i K0).1.toNat ++ txt (l.getD i K0).2.1 ++ txt (l.getD i K0).2.2.1 ++ (sm (l.getD i K0).2.2.2.1.toNat ++ sm (l.getD i K0).2.2.2.2.1.toNat) ++ sm (l.getD i K0).2.2.2.2.2.toNat = A ++ keptB (l.getD i K0) := by
      simp only [keptB, List.append_assoc]
    rw [e3] at e4
    simp only [F_image_Write.l506, ltd hi, lez, Bool.and_self, cond_true, Int.toNat_natCast, p1, Option.bind_some, p2, d1, p3, d2, wf, p4, p5, d3, e4]
    rw [inc64 (by omega)]) (by simp only [F_image_Write.l506, nltd, cond_false, List.take_length]; rfl)
  have hloop : iter mx (F_image_Write.l506 mx l (l.length : Int)) (headB (t, q, l, e, n, b) ++ keptsB (l.take 0), (0 : Int)) = _ := hloop
  rw [show headB (t, q, l, e, n, b) ++ keptsB (l.take 0) = headB (t, q, l, e, n, b) by simp [keptsB]] at hloop
  simp only [g1, g2, g3, g4, g5, hloop, Option.bind_some]
  by_cases h : 65536 < (imgB (t, q, l, e, n, b)).length
  · rw [decide_eq_true (show (65536 : Int) < (((imgB (t, q, l, e, n, b)).length : Nat) : Int) by omega), if_pos h]; rfl
  · rw [decide_eq_false (show ¬ (65536 : Int) < (((imgB (t, q, l, e, n, b)).length : Nat) : Int) by omega), if_neg h]; rfl
end Go.Proofs.Ytmkfifilpkhfoaa
