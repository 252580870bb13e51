/- The document's text of a number, walked. -/
import Derived.Test.YtekpgceagamjiaaDoorH4
import Derived.Test.YtekpgceagamjiaaDoorH3
namespace Go.Proofs.YtekpgceagamjiaaDoor
open Go.Shelf Go.RowKit
set_option maxRecDepth 1000000
set_option maxHeartbeats 4000000
theorem rtext_cut (n : Nat) (h : n < 10) (W : World) : (Instr.sliceAt 9 (.string ⟨#[48, 49, 50, 51, 52, 53, 54, 55, 56, 57]⟩) (some (.int .u64 n)) (some (.int .u64 ((n : Int) + 1))) none).run Tryd.prog W = .ok (.string ⟨#[UInt8.ofNat (48 + n)]⟩) W := by
  have : n = 0 ∨ n = 1 ∨ n = 2 ∨ n = 3 ∨ n = 4 ∨ n = 5 ∨ n = 6 ∨ n = 7 ∨ n = 8 ∨ n = 9 := by omega
  rcases this with h | h | h | h | h | h | h | h | h | h <;> rw [h] <;> rfl
theorem rtext_low (n : Nat) (h : n < 10) (w : World) : Calls Tryd.prog 14 #[.int .u64 n] w fun e w' => e = .returned (.string ⟨(Lib.decDigits n).toArray⟩) ∧ w' = w := by
  have hd : Lib.decDigits n = [UInt8.ofNat (48 + n)] := by rw [Lib.decDigits, dif_pos h]
  rw [hd]
  have i1 : (n : Int) < 10 := by omega
  have hs := rtext_cut n h
  generalize UInt8.ofNat (48 + n) = c at hs ⊢
  go_enter Tryd.func14, Tryd.ntmps14
  go_wp2
  go_ret
  exact ⟨rfl, rfl⟩
theorem rtext_ok : ∀ (n : Nat), n < 18446744073709551616 → ∀ w : World, Calls Tryd.prog 14 #[.int .u64 n] w fun e w' => e = .returned (.string ⟨(Lib.decDigits n).toArray⟩) ∧ w' = w := by
  intro n
  induction n using Nat.strongRecOn with
  | _ n ih =>
    intro hn w
    by_cases h : n < 10
    · exact rtext_low n h w
    · have hd : Lib.decDigits n = Lib.decDigits (n / 10) ++ [UInt8.ofNat (48 + n % 10)] := by rw [Lib.decDigits, dif_neg h]
      have hlow : Lib.decDigits (n % 10) = [UInt8.ofNat (48 + n % 10)] := by rw [Lib.decDigits, dif_pos (by omega)]
      have c1 := ih (n / 10) (by omega) (by omega) w
      have c2 := rtext_low (n % 10) (by omega) w
      rw [hlow] at c2
      have i1 : ¬ (n : Int) < 10 := by omega
      have e1 : (n : Int).tdiv 10 = ((n / 10 : Nat) : Int) := by rw [Int.tdiv_eq_ediv_of_nonneg (by omega)]; omega
      have e2 : (n : Int).tmod 10 = ((n % 10 : Nat) : Int) := by rw [Int.tmod_eq_emod_of_nonneg (by omega)]; omega
      have hsz : (Lib.decDigits (n / 10)).length ≤ 1000 := by
        have := Lib.decDigits_length (n / 10)
        have := Lib.numDigits_eq (n / 10) (by omega) (by omega)
        split at this <;> omega
      rw [hd]
      generalize UInt8.ofNat (48 + n % 10) = c at c2 hlow hd ⊢
      generalize Lib.decDigits (n / 10) = d at c1 hsz hd ⊢
      clear ih hlow hd
      go_enter Tryd.func14, Tryd.ntmps14
      have q1 : ((n / 10 : Nat) : Int) = (n : Int) / 10 := by omega
      have q2 : ((n % 10 : Nat) : Int) = (n : Int) % 10 := by omega
      rw [q1] at c1
      rw [q2] at c2
      clear e1 e2 q1 q2
      go_wp2_with (first
        | (go_at_call 14; with_reducible refine c1.mono ?_; rintro e w' ⟨rfl, rfl⟩)
        | (go_at_call 14; with_reducible refine c2.mono ?_; rintro e w' ⟨rfl, rfl⟩))
      go_ret
      refine ⟨?_, rfl⟩
      have hap : (⟨d.toArray⟩ : ByteArray) ++ ⟨#[c]⟩ = ⟨(d ++ [c]).toArray⟩ := by
        apply ByteArray.ext
        rw [ByteArray.data_append]
        simp
      rw [← hap]
      rfl
end Go.Proofs.YtekpgceagamjiaaDoor
