/- A text's number, walked. -/
import Derived.Test.YtekpgceagamjiaaDoorH
import Derived.Tactics2
import Derived.Laws.RangeString
import Derived.Laws.RangeAny
import Derived.LoopTactic
import Derived.Lib.Walk
import Derived.Lib.SmallJoins
import Derived.WalkKit
import Derived.BigCall
namespace Go.Proofs.YtekpgceagamjiaaDoor
open Go.Shelf Go.RowKit
set_option maxRecDepth 1000000
set_option maxHeartbeats 1000000
def decV : Nat → List UInt8 → Nat
  | a, [] => a
  | a, c :: r => decV (a * 10 + (c.toNat - 48)) r
def AllD (l : List UInt8) : Prop := ∀ c ∈ l, 48 ≤ c.toNat ∧ c.toNat ≤ 57
instance (l : List UInt8) : Decidable (AllD l) := by unfold AllD; infer_instance
/-- A text's number, and whether it has one. -/
def numR (l : List UInt8) : Nat × Bool :=
  if l.length < 1 ∨ 20 < l.length ∨ (l.getD 0 0 = 48 ∧ 1 < l.length) then (0, false) else
  if AllD l ∧ decV 0 l < 18446744073709551616 then (decV 0 l, true) else (0, false)
theorem decV_mono : ∀ (l : List UInt8) (a : Nat), a ≤ decV a l
  | [], a => Nat.le_refl a
  | c :: r, a => by
    have := decV_mono r (a * 10 + (c.toNat - 48))
    unfold decV
    omega
theorem parse_dig (M : Nat) (hM : M = 18446744073709551615) : ∀ (l : List UInt8) (a : Nat), AllD l → Lib.parseUintM M a l = if decV a l ≤ M then .ok (decV a l) else (if l = [] then .ok a else .range)
  | [], a, _ => by
    show Lib.NumEnd.ok a = _
    by_cases h : decV a [] ≤ M
    · rw [if_pos h]; rfl
    · rw [if_neg h, if_pos rfl]
  | c :: r, a, h => by
    have hc := h c List.mem_cons_self
    have ih := parse_dig M hM r (a * 10 + (c.toNat - 48)) fun x hx => h x (List.mem_cons_of_mem _ hx)
    have hm := decV_mono r (a * 10 + (c.toNat - 48))
    have e1 : decV a (c :: r) = decV (a * 10 + (c.toNat - 48)) r := rfl
    obtain ⟨z, e2⟩ : ∃ z, Lib.parseUintM M a (c :: r) = if 48 ≤ c.toNat ∧ c.toNat ≤ 57 then (if 1844674407370955162 ≤ a then .range else if M < a * 10 + (c.toNat - 48) then .range else Lib.parseUintM M (a * 10 + (c.toNat - 48)) r) else z := ⟨_, rfl⟩
    rw [e1, e2, if_pos hc, if_neg (show ¬ (c :: r : List UInt8) = [] by simp)]
    by_cases h1 : 1844674407370955162 ≤ a
    · rw [if_pos h1, if_neg (by omega)]
    · rw [if_neg h1]
      by_cases h2 : M < a * 10 + (c.toNat - 48)
      · rw [if_pos h2, if_neg (by omega)]
      · rw [if_neg h2, ih]
        by_cases h3 : decV (a * 10 + (c.toNat - 48)) r ≤ M
        · rw [if_pos h3, if_pos h3]
        · rw [if_neg h3, if_neg h3]
          by_cases h4 : r = []
          · subst h4
            exact absurd (show decV (a * 10 + (c.toNat - 48)) [] ≤ M by show a * 10 + (c.toNat - 48) ≤ M; omega) h3
          · rw [if_neg h4]
theorem parseB_dig {l : List UInt8} (h : AllD l) (hne : l ≠ []) : Lib.parseUintB 64 l = if decV 0 l < 18446744073709551616 then .ok (decV 0 l) else .range := by
  unfold Lib.parseUintB
  rw [if_neg hne, parse_dig _ (by decide) l 0 h, if_neg hne]
  by_cases h3 : decV 0 l ≤ 2 ^ 64 - 1
  · rw [if_pos h3, if_pos (by omega)]
  · rw [if_neg h3, if_neg (by omega)]
theorem parse_ok (s : ByteArray) (hl : s.size ≤ 20) (u : Nat) (h : Lib.parseUintB 64 s.data.toList = .ok u) (w : World) :
    Calls Tryd.prog 19 #[.string s, .int .i64 10, .int .i64 64] w fun e w' => e = .returned (.tuple #[.int .u64 u, .nilIface]) ∧ Below w.heap.size w w' :=
  (Any.strconv_ParseUint_10_at64_ok laysPu14 s (by omega) u h w).mono fun e w' ⟨h1, h2⟩ => ⟨h1, by
    rcases h2 with rfl | rfl
    · exact Below.refl _ _
    · exact Go.Joins.below_bytesWorld _ _ _ _ (Nat.le_refl _)⟩
theorem parse_range (s : ByteArray) (hl : s.size ≤ 20) (h : Lib.parseUintB 64 s.data.toList = .range) (te : TypeId) (pe : Value) (w : World) (hv : w.cell? ⟨1, 0, none⟩ = some (.iface te pe)) :
    Calls Tryd.prog 19 #[.string s, .int .i64 10, .int .i64 64] w fun e w' => ∃ N, e = .returned (.tuple #[.int .u64 18446744073709551615, .iface 57 (.pointer (some ⟨N, 0, none⟩))]) ∧ Below w.heap.size w w' :=
  (Any.strconv_ParseUint_10_at64_range laysPu14 s (by omega) h _ w hv (.inr ⟨te, pe, rfl⟩)).mono fun e w' ⟨N, h1, _, _, h2⟩ => ⟨N, h1, h2⟩
theorem width_pos (s : ByteArray) (pos : Nat) (h : pos < s.size) : 1 ≤ (Utf8.decode s pos).2 := by
  by_cases ha : (s[pos]'h).toNat < 128
  · rw [decode_ascii s pos h ha]
    exact Nat.le_refl _
  · exact (decode_high s pos h (by omega)).2
theorem rune_dig (s : ByteArray) (pos : Nat) (h : pos < s.size) : (48 ≤ (Utf8.decode s pos).1 ∧ (Utf8.decode s pos).1 ≤ 57) ↔ (48 ≤ (s[pos]'h).toNat ∧ (s[pos]'h).toNat ≤ 57) := by
  by_cases ha : (s[pos]'h).toNat < 128
  · rw [decode_ascii s pos h ha]
  · have := (decode_high s pos h (by omega)).1
    omega
theorem numR_bad {l : List UInt8} (h : l.length < 1 ∨ 20 < l.length ∨ (l.getD 0 0 = 48 ∧ 1 < l.length)) : numR l = (0, false) := by unfold numR; rw [if_pos h]
theorem numR_not {l : List UInt8} (h : ¬ AllD l) : numR l = (0, false) := by
  unfold numR
  split
  · rfl
  · rw [if_neg fun hh => h hh.1]
theorem at_list (s : ByteArray) (j : Nat) (h : j < s.size) : s.data.toList[j]? = some (s[j]'h) := by
  rw [List.getElem?_eq_getElem (show j < s.data.toList.length from h)]; rfl
theorem allD_of {s : ByteArray} (h : ∀ j (hj : j < s.size), 48 ≤ (s[j]'hj).toNat ∧ (s[j]'hj).toNat ≤ 57) : AllD s.data.toList := fun c hc => by
  obtain ⟨j, hj⟩ := List.mem_iff_getElem?.1 hc
  have hlt : j < s.size := (List.getElem?_eq_some_iff.1 hj).1
  rw [at_list s j hlt] at hj
  cases hj
  exact h j hlt
theorem of_allD {s : ByteArray} (h : AllD s.data.toList) (j : Nat) (hj : j < s.size) : 48 ≤ (s[j]'hj).toNat ∧ (s[j]'hj).toNat ≤ 57 := h _ (List.mem_of_getElem? (at_list s j hj))
theorem head_list {s : ByteArray} (h : 0 < s.size) : s.data.toList.getD 0 0 = s[0]'h := by rw [List.getD_eq_getElem?_getD, at_list s 0 h]; rfl
theorem below_iter (w : World) (s : ByteArray) (pos : Nat) : Below w.heap.size w (w.iter s pos) := Go.Joins.below_alloc1 w _
theorem number_ok (s : ByteArray) (w : World) (te : TypeId) (pe : Value) (hv : w.cell? ⟨1, 0, none⟩ = some (.iface te pe)) (hw : 1 < w.heap.size) :
    Calls Tryd.prog 7 #[.string s] w fun e w' => e = .returned (.tuple #[.int .u64 ((numR s.data.toList).1 : Int), .bool (numR s.data.toList).2]) ∧ Below w.heap.size w w' := by
  have hsz : s.data.toList.length = s.size := rfl
  by_cases g1 : s.size < 1
  · have i1 : (s.size : Int) < 1 := by omega
    have hR := numR_bad (l := s.data.toList) (.inl (by omega))
    go_enter Tryd.func7, Tryd.ntmps7
    go_wp2
    all_goals first
      | (exfalso; omega)
      | (go_ret2; exact ⟨by first | rfl | (rw [hR]; rfl), Below.refl _ _⟩)
  by_cases g2 : 20 < s.size
  · have i1 : ¬ (s.size : Int) < 1 := by omega
    have i2 : (20 : Int) < s.size := by omega
    have hR := numR_bad (l := s.data.toList) (.inr (.inl (by omega)))
    go_enter Tryd.func7, Tryd.ntmps7
    go_wp2
    all_goals first
      | (exfalso; omega)
      | (go_ret2; exact ⟨by first | rfl | (rw [hR]; rfl), Below.refl _ _⟩)
  have i1 : ¬ (s.size : Int) < 1 := by omega
  have i2 : ¬ (20 : Int) < s.size := by omega
  have i3 : 0 < s.size := by omega
  have hne : s.data.toList ≠ [] := fun h => by rw [h] at hsz; simp at hsz; omega
  have hR0 : (s[0]'i3).toNat = 48 → 1 < s.size → numR s.data.toList = (0, false) := fun h1 h2 => numR_bad (.inr (.inr ⟨by rw [head_list i3]; exact UInt8.toNat_inj.1 h1, by omega⟩))
  have hR1 : ¬ ((s[0]'i3).toNat = 48 ∧ 1 < s.size) → AllD s.data.toList → numR s.data.toList = if decV 0 s.data.toList < 18446744073709551616 then (decV 0 s.data.toList, true) else (0, false) := fun h1 h2 => by
    unfold numR
    rw [if_neg]
    · by_cases h3 : decV 0 s.data.toList < 18446744073709551616
      · rw [if_pos ⟨h2, h3⟩, if_pos h3]
      · rw [if_neg (fun h => h3 h.2), if_neg h3]
    · rintro (h | h | ⟨h, h4⟩)
      · omega
      · omega
      · rw [head_list i3] at h
        exact h1 ⟨by rw [h]; rfl, by omega⟩
  have HR0 := Lib.hid hR0
  have HR1 := Lib.hid hR1
  have HV := Lib.hid hv
  clear hR0 hR1 hv
  go_enter Tryd.func7, Tryd.ntmps7
  go_wp2
  · go_ret2
    rw [HR0.out (by omega) (by omega)]
    exact ⟨rfl, Below.refl _ _⟩
  all_goals (
    have hok : ¬ ((s[0]'i3).toNat = 48 ∧ 1 < s.size) := by omega
    go_loopw [] (fun wr => ∃ pos, wr = w.iter s pos ∧ pos ≤ s.size ∧ ∀ j (hj : j < s.size), j < pos → 48 ≤ (s[j]'hj).toNat ∧ (s[j]'hj).toNat ≤ 57) (fun wr => s.size - wr.iterPos w.heap.size)
    case atStart => exact ⟨0, rfl, by omega, fun j _ h => by omega⟩
    case round =>
      obtain ⟨pos, rfl, hle, hd⟩ := hrel
      by_cases hp : pos < s.size
      · have hnx : ∀ ty, (Instr.next (.pointer (some ⟨w.heap.size, 0, none⟩)) true ty).run Tryd.prog (w.iter s pos) = _ := fun ty => run_next_any w s pos ty hp
        have hwd := width_pos s pos hp
        by_cases hdg : 48 ≤ (Utf8.decode s pos).1 ∧ (Utf8.decode s pos).1 ≤ 57
        · have k1 : ¬ ((Utf8.decode s pos).1 : Int) < 48 := by omega
          have k2 : ¬ (57 : Int) < ((Utf8.decode s pos).1 : Int) := by omega
          have hw1 : (Utf8.decode s pos).2 = 1 := by
            have := (rune_dig s pos hp).1 hdg
            rw [decode_ascii s pos hp (by omega)]
          go_wp2
          go_roundw
          case rel =>
            refine ⟨pos + 1, by first | rfl | rw [hw1], by omega, fun j hj h => ?_⟩
            by_cases hjp : j < pos
            · exact hd j hj hjp
            · obtain rfl : j = pos := by omega
              exact (rune_dig s j hp).1 hdg
          case measure =>
            simp
            omega
        · have hRb := numR_not (l := s.data.toList) fun h => hdg ((rune_dig s pos hp).2 (of_allD h pos hp))
          have HRb := Lib.hid hRb
          clear hRb
          by_cases k1 : (Utf8.decode s pos).1 < 48
          · have k2 : ((Utf8.decode s pos).1 : Int) < 48 := by omega
            go_wp2
            go_ret2
            rw [HRb.out]
            exact ⟨rfl, below_iter _ _ _⟩
          · have k2 : ¬ ((Utf8.decode s pos).1 : Int) < 48 := by omega
            have k3 : (57 : Int) < ((Utf8.decode s pos).1 : Int) := by omega
            go_wp2
            go_ret2
            rw [HRb.out]
            exact ⟨rfl, below_iter _ _ _⟩
      · have hnx : ∀ ty, (Instr.next (.pointer (some ⟨w.heap.size, 0, none⟩)) true ty).run Tryd.prog (w.iter s pos) = _ := fun ty => run_next_end w s pos ty hp
        have hall := allD_of fun j hj => hd j hj (by omega)
        have hRf := HR1.out hok hall
        have hpb := parseB_dig hall hne
        have hv1 : (w.iter s pos).cell? ⟨1, 0, none⟩ = some (.iface te pe) := by
          rw [← HV.out]; exact World.cell?_alloc_old _ _ _ (Nat.ne_of_lt hw)
        by_cases h3 : decV 0 s.data.toList < 18446744073709551616
        · rw [if_pos h3] at hRf hpb
          have hcall := parse_ok s (by omega) _ hpb (w.iter s pos)
          have HRf := Lib.hid hRf
          clear hRf hpb hv1
          go_wp2_with (go_at_call 19; refine hcall.mono ?_; rintro e W1 ⟨rfl, hW⟩)
          go_ret2
          rw [HRf.out]
          exact ⟨rfl, (below_iter w s pos).trans (Go.Joins.below_le hW (Go.Joins.below_alloc1 w _).size)⟩
        · rw [if_neg h3] at hRf hpb
          have hcall := parse_range s (by omega) hpb te pe (w.iter s pos) hv1
          have HRf := Lib.hid hRf
          clear hRf hpb hv1
          go_wp2_with (go_at_call 19; refine hcall.mono ?_; rintro e W1 ⟨N, rfl, hW⟩)
          go_ret2
          rw [HRf.out]
          exact ⟨rfl, (below_iter w s pos).trans (Go.Joins.below_le hW (Go.Joins.below_alloc1 w _).size)⟩)
end Go.Proofs.YtekpgceagamjiaaDoor
