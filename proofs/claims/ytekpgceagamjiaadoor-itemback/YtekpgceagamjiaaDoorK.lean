/- Numbers and their texts. -/
import Derived.Test.YtekpgceagamjiaaDoorF
import Derived.Test.YtekpgceagamjiaaDoorA3
namespace Go.Proofs.YtekpgceagamjiaaDoor
open Go.Abs
set_option maxRecDepth 100000
def bytesI (l : List Int) : Prop := ∀ x ∈ l, 0 ≤ x ∧ x ≤ 255
def DigI (l : List Int) : Prop := ∀ x ∈ l, 48 ≤ x ∧ x ≤ 57
instance (l : List Int) : Decidable (DigI l) := by unfold DigI; infer_instance
def decI : Nat → List Int → Nat
  | a, [] => a
  | a, x :: r => decI (a * 10 + (x.toNat - 48)) r
def badI (l : List Int) : Prop := l.length < 1 ∨ 20 < l.length ∨ (l.getD 0 0 = 48 ∧ 1 < l.length)
instance (l : List Int) : Decidable (badI l) := by unfold badI; infer_instance
def numI (l : List Int) : Int × Bool := if badI l then (0, false) else if DigI l ∧ decI 0 l < 18446744073709551616 then ((decI 0 l : Int), true) else (0, false)
theorem u8_nat {x : Int} (h : 0 ≤ x ∧ x ≤ 255) : (UInt8.ofNat x.toNat).toNat = x.toNat := by
  rw [UInt8.toNat_ofNat']
  omega
theorem decV_u8 : ∀ (l : List Int) (a : Nat), bytesI l → decV a (u8s l) = decI a l
  | [], a, _ => rfl
  | x :: r, a, h => by
    have hx := u8_nat (h x List.mem_cons_self)
    show decV (a * 10 + ((UInt8.ofNat x.toNat).toNat - 48)) (u8s r) = decI (a * 10 + (x.toNat - 48)) r
    rw [hx]
    exact decV_u8 r _ fun y hy => h y (List.mem_cons_of_mem _ hy)
theorem allD_u8 {l : List Int} (h : bytesI l) : AllD (u8s l) ↔ DigI l := by
  constructor
  · intro ha x hx
    have := ha (UInt8.ofNat x.toNat) (List.mem_map_of_mem hx)
    rw [u8_nat (h x hx)] at this
    have := h x hx
    omega
  · intro ha c hc
    obtain ⟨x, hx, rfl⟩ := List.mem_map.1 hc
    rw [u8_nat (h x hx)]
    have := ha x hx
    omega
theorem num_eq {l : List Int} (h : bytesI l) : numFn mx l = some (numI l) := by
  have hlen : (u8s l).length = l.length := List.length_map ..
  have hh : (u8s l).getD 0 0 = 48 ↔ l.getD 0 0 = 48 := by
    cases l with
    | nil => simp [u8s]
    | cons x r =>
      show UInt8.ofNat x.toNat = 48 ↔ x = 48
      have hx := h x List.mem_cons_self
      have := u8_nat hx
      constructor
      · intro e
        rw [e] at this
        have e2 : (48 : UInt8).toNat = 48 := rfl
        omega
      · rintro rfl; rfl
  have hb : (u8s l).length < 1 ∨ 20 < (u8s l).length ∨ ((u8s l).getD 0 0 = 48 ∧ 1 < (u8s l).length) ↔ badI l := by
    unfold badI
    rw [hlen, hh]
  have hd := allD_u8 h
  have hv := decV_u8 l 0 h
  unfold numFn numI
  by_cases h1 : badI l
  · rw [if_pos h1, numR_bad (hb.2 h1)]; rfl
  · rw [if_neg h1]
    have h1' := fun g => h1 (hb.1 g)
    have e : numR (u8s l) = if AllD (u8s l) ∧ decV 0 (u8s l) < 18446744073709551616 then (decV 0 (u8s l), true) else (0, false) := by
      unfold numR
      rw [if_neg h1']
    by_cases h2 : DigI l ∧ decI 0 l < 18446744073709551616
    · rw [if_pos h2]
      rw [if_pos ⟨hd.2 h2.1, by rw [hv]; exact h2.2⟩] at e
      rw [e, hv]
    · rw [if_neg h2]
      rw [if_neg (fun g => h2 ⟨hd.1 g.1, by rw [← hv]; exact g.2⟩)] at e
      rw [e]; rfl
theorem numI_range (l : List Int) : 0 ≤ (numI l).1 ∧ (numI l).1 ≤ 18446744073709551615 := by
  unfold numI
  split
  · simp
  · split
    · rename_i h; have := h.2; constructor <;> dsimp only <;> omega
    · simp
theorem decI_app : ∀ (l : List Int) (a : Nat) (x : Int), decI a (l ++ [x]) = decI a l * 10 + (x.toNat - 48)
  | [], _, _ => rfl
  | _ :: r, _, x => decI_app r _ x
theorem decI_mono : ∀ (l : List Int) (a : Nat), a ≤ decI a l
  | [], a => Nat.le_refl a
  | x :: r, a => by
    have := decI_mono r (a * 10 + (x.toNat - 48))
    show a ≤ decI (a * 10 + (x.toNat - 48)) r
    omega
theorem decI_split : ∀ (l m : List Int) (a : Nat), decI a (l ++ m) = decI (decI a l) m
  | [], _, _ => rfl
  | _ :: r, m, _ => decI_split r m _
/-- A number's text. -/
def tI (n : Nat) : List Int := (Lib.decDigits n).map fun b => (b.toNat : Int)
theorem dig_nat {d : Nat} (h : d < 10) : ((UInt8.ofNat (48 + d)).toNat : Int) = 48 + (d : Int) := by
  rw [UInt8.toNat_ofNat']
  omega
theorem tI_low {n : Nat} (h : n < 10) : tI n = [48 + (n : Int)] := by
  unfold tI
  rw [Lib.decDigits, dif_pos h, List.map_cons, List.map_nil, dig_nat h]
theorem tI_high {n : Nat} (h : ¬ n < 10) : tI n = tI (n / 10) ++ [48 + ((n % 10 : Nat) : Int)] := by
  have e : tI n = (Lib.decDigits n).map fun b => (b.toNat : Int) := rfl
  rw [e, Lib.decDigits, dif_neg h, List.map_append, List.map_cons, List.map_nil, dig_nat (by omega)]
  rfl
theorem textL_eq {n : Int} (h0 : 0 ≤ n) (h1 : n ≤ 18446744073709551615) : textL n = tI n.toNat := by
  unfold textL tI
  rw [digs_eq 20 n.toNat (by omega) (by omega)]
theorem tI_ne (n : Nat) : tI n ≠ [] := by
  by_cases h : n < 10
  · rw [tI_low h]; simp
  · rw [tI_high h]; simp
theorem tI_all (n : Nat) : DigI (tI n) ∧ decI 0 (tI n) = n ∧ ((tI n).getD 0 0 = 48 → n = 0) := by
  induction n using Nat.strongRecOn with
  | _ n ih =>
    by_cases h : n < 10
    · rw [tI_low h]
      refine ⟨fun x hx => ?_, ?_, fun hx => ?_⟩
      · rw [List.mem_singleton] at hx; omega
      · show 0 * 10 + ((48 + (n : Int)).toNat - 48) = n
        omega
      · have : 48 + (n : Int) = 48 := hx
        omega
    · obtain ⟨i1, i2, i3⟩ := ih (n / 10) (by omega)
      rw [tI_high h]
      refine ⟨fun x hx => ?_, ?_, fun hx => ?_⟩
      · rcases List.mem_append.1 hx with hx | hx
        · exact i1 x hx
        · rw [List.mem_singleton] at hx; omega
      · rw [decI_app, i2]; omega
      · exfalso
        have hne := tI_ne (n / 10)
        have : (tI (n / 10)).getD 0 0 = 48 := by
          cases ht : tI (n / 10) with
          | nil => exact absurd ht hne
          | cons y r => rw [ht] at hx; exact hx
        have := i3 this
        omega
theorem tI_len {n : Nat} (h : n < 18446744073709551616) : (tI n).length ≤ 20 := by
  unfold tI
  rw [← digs_eq 20 n (by omega) (by omega), List.length_map]
  exact digs_len _ _
theorem tI_bytes (n : Nat) : bytesI (tI n) := fun x hx => by
  have := (tI_all n).1 x hx
  omega
theorem num_text {n : Nat} (h : n < 18446744073709551616) : numI (tI n) = ((n : Int), true) := by
  obtain ⟨i1, i2, i3⟩ := tI_all n
  have hl := tI_len h
  have hne := tI_ne n
  have h1 : 1 ≤ (tI n).length := by
    cases ht : tI n with
    | nil => exact absurd ht hne
    | cons y r => simp
  unfold numI
  rw [if_neg, if_pos ⟨i1, by rw [i2]; exact h⟩, i2]
  unfold badI
  rintro (g | g | ⟨g1, g2⟩)
  · omega
  · omega
  · have := i3 g1
    subst this
    rw [tI_low (by omega)] at g2
    simp at g2
theorem decI_pos {l : List Int} (h : DigI l) (hne : l ≠ []) (hh : l.getD 0 0 ≠ 48) : 1 ≤ decI 0 l := by
  cases l with
  | nil => exact absurd rfl hne
  | cons x r =>
    have hx := h x List.mem_cons_self
    have : x ≠ 48 := hh
    have := decI_mono r (0 * 10 + (x.toNat - 48))
    show 1 ≤ decI (0 * 10 + (x.toNat - 48)) r
    omega
theorem text_num : ∀ (k : Nat) (l : List Int), l.length = k → DigI l → l ≠ [] → (l.getD 0 0 ≠ 48 ∨ l.length = 1) → tI (decI 0 l) = l
  | 0, l, hk, _, hne, _ => absurd (List.length_eq_zero_iff.1 hk) hne
  | k + 1, l, hk, hd, hne, hh => by
    have e := List.dropLast_concat_getLast hne
    generalize hr : l.dropLast = r at e
    generalize hx : l.getLast hne = x at e
    subst e
    have hxd : 48 ≤ x ∧ x ≤ 57 := hd x (by simp)
    have hrd : DigI r := fun y hy => hd y (by simp [hy])
    rw [decI_app]
    by_cases hre : r = []
    · subst hre
      rw [tI_low (by show 0 * 10 + (x.toNat - 48) < 10; omega)]
      show [48 + ((0 * 10 + (x.toNat - 48) : Nat) : Int)] = [x]
      congr 1
      omega
    · have hlr : r.length = k := by simp at hk; exact hk
      have hrl : 1 ≤ r.length := by
        cases r with
        | nil => exact absurd rfl hre
        | cons y t => simp
      have hhr : r.getD 0 0 ≠ 48 := by
        rcases hh with hh | hh
        · cases r with
          | nil => exact absurd rfl hre
          | cons y t => exact hh
        · rw [List.length_append, List.length_singleton] at hh; omega
      have hp := decI_pos hrd hre hhr
      have ih := text_num k r hlr hrd hre (.inl hhr)
      rw [tI_high (by omega), show (decI 0 r * 10 + (x.toNat - 48)) / 10 = decI 0 r by omega, ih, show (48 : Int) + (((decI 0 r * 10 + (x.toNat - 48)) % 10 : Nat) : Int) = x by omega]
theorem num_back {l : List Int} (h : (numI l).2 = true) : tI (numI l).1.toNat = l := by
  unfold numI at h ⊢
  by_cases h1 : badI l
  · rw [if_pos h1] at h; cases h
  rw [if_neg h1] at h ⊢
  by_cases h2 : DigI l ∧ decI 0 l < 18446744073709551616
  · rw [if_pos h2]
    show tI (decI 0 l : Int).toNat = l
    rw [Int.toNat_natCast]
    unfold badI at h1
    refine text_num l.length l rfl h2.1 (fun e => h1 (.inl (by rw [e]; simp))) ?_
    by_cases h3 : l.getD 0 0 = 48
    · right
      rcases Nat.lt_or_ge 1 l.length with h4 | h4
      · exact absurd (.inr (.inr ⟨h3, h4⟩)) h1
      · have : ¬ l.length < 1 := fun e => h1 (.inl e)
        omega
    · exact .inl h3
  · rw [if_neg h2] at h; cases h
theorem item_text {n : Int} (h0 : 0 ≤ n) (h1 : n ≤ 18446744073709551615) : F_item_Text mx n = some (tI n.toNat) := by
  show textFn mx n = _
  unfold textFn
  rw [textL_eq h0 h1]
theorem ref_text {n : Int} (h0 : 0 ≤ n) (h1 : n ≤ 18446744073709551615) : F_ref09_Text mx n = some (tI n.toNat) := item_text h0 h1
theorem item_num {l : List Int} (h : bytesI l) : F_item_Number mx l = some (numI l) := num_eq h
end Go.Proofs.YtekpgceagamjiaaDoor
