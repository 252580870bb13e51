/- Guards of the laws; senders alike. -/
import Derived.Test.YtmkfifilpkhfoaaKNb
namespace Go.Proofs.Ytmkfifilpkhfoaa
open Go.Abs
set_option maxRecDepth 100000
theorem alive_ok : F_law24_alive mx () = some true := by kernel_rfl
theorem great24 (s : Snd) (hl : s.2.2.2.length ≤ 1000000000000000000) : ∃ b, F_ref24_Great mx s = some b ∧ (b = false → s.2.2.2.length ≤ 100) := by
  obtain ⟨e, n, a, l⟩ := s
  dsimp only at hl ⊢
  obtain ⟨r, hr, _⟩ := iter_inv (f := F_ref24_Great.l58 mx l) (fun s => ∃ k : Nat, s.2 = (k : Int) ∧ k ≤ l.length) (fun s => l.length - s.2.toNat) (fun _ => True) ((0 : Int), (0 : Int)) ⟨0, rfl, Nat.zero_le _⟩ (by
    simp only [Int.toNat_zero, Nat.sub_zero]; exact lt_N0 hl) (fun s ⟨k, e, hk⟩ => by
    obtain ⟨s, i⟩ := s
    dsimp only at e
    subst e
    by_cases h1 : k < l.length
    · by_cases h2 : (k : Int) < 200
      · left
        have h2' : decide ((k : Int) < 200) = true := by simpa using h2
        refine ⟨_, by simp only [F_ref24_Great.l58, F_ref24_Great.s232, ltd h1, h2', lez, Bool.and_self, cond_true, Option.bind_some]; rfl, ⟨k + 1, by dsimp only; rw [inc64 (by omega)], by omega⟩, by dsimp only; rw [inc64 (by omega)]; omega⟩
      · right
        have h2' : decide ((k : Int) < 200) = false := by simpa using h2
        exact ⟨s, by simp only [F_ref24_Great.l58, F_ref24_Great.s232, ltd h1, h2', cond_true, cond_false, Option.bind_some], trivial⟩
    · right
      have h1' : decide ((k : Int) < (l.length : Int)) = false := by simp; omega
      exact ⟨s, by simp only [F_ref24_Great.l58, F_ref24_Great.s232, h1', cond_false, Option.bind_some], trivial⟩)
  have hr : iter mx (F_ref24_Great.l58 mx l) ((0 : Int), (0 : Int)) = some r := hr
  simp only [F_ref24_Great, hr, Option.bind_some]
  by_cases h : 100 < l.length
  · exact ⟨true, by rw [decide_eq_true (show (100 : Int) < (l.length : Int) by omega)]; rfl, fun h => (by cases h)⟩
  · exact ⟨_, by rw [decide_eq_false (show ¬ (100 : Int) < (l.length : Int) by omega)]; rfl, fun _ => by omega⟩
theorem samesnd (s : Snd) (hl : s.2.2.2.length ≤ 1000000) : F_ref24_SameSender mx (s.1, s.2.1, s.2.2.1, s.2.2.2, s.1, s.2.1, s.2.2.1, s.2.2.2) = some true := by
  have := iter_count (f := F_ref24_SameSender.l58 mx s.2.2.2 s.2.2.2) (fun i => (i : Int)) s.2.2.2.length (r := .inr ()) (lt_N0 (by omega)) (fun i hi => by
    simp only [F_ref24_SameSender.l58, ltd hi, lez, Bool.and_self, cond_true, Int.toNat_natCast, beq_self_eq_true, Bool.not_true, cond_false]
    rw [inc64 (by omega)]) (by simp only [F_ref24_SameSender.l58, nltd, cond_false])
  have this : iter mx (F_ref24_SameSender.l58 mx s.2.2.2 s.2.2.2) (0 : Int) = _ := this
  simp only [F_ref24_SameSender, bne_self_eq_false, cond_false, this, Option.bind_some]
abbrev TSnd : List Ty := [.int .i64, .int .i64, .int .i64, .sl (.sl (.int .u8))]
theorem wfS_of {s : Snd} (h : wfTs TSnd s) : wfS s := ⟨h.2.2.2.1.2, fun r hr => ⟨fun x hx => wfu8 ((h.2.2.2.1.1 r hr).1 x hx), (h.2.2.2.1.1 r hr).2⟩⟩
abbrev TImg : List Ty := [.int .i64, .sl (.int .i64), .sl (.pr (.int .i64) (.pr .str (.pr .str (.pr (.int .u32) (.pr (.int .i64) (.int .u64)))))), .int .i64, .int .i64, .bool]
def wfV (v : Img) : Prop := (v.2.2.1.length ≤ 140737488351232 ∧ ∀ k ∈ v.2.2.1, k.2.1.length ≤ 140737488351232 ∧ k.2.2.1.length ≤ 140737488351232) ∧ ∀ k ∈ v.2.2.1, wfK k
theorem wfV_of {v : Img} (h : wfTs TImg v) : wfV v := ⟨⟨h.2.2.1.2, fun k hk => ⟨(h.2.2.1.1 k hk).2.1.2, (h.2.2.1.1 k hk).2.2.1.2⟩⟩, fun k hk => ⟨wfu32 (h.2.2.1.1 k hk).2.2.2.1, wfu64 (h.2.2.1.1 k hk).2.2.2.2.2⟩⟩
end Go.Proofs.Ytmkfifilpkhfoaa
