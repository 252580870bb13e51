/- The plain law of JournalBack. -/
import Derived.Test.YtdnfmkkaojafhaaKJd
namespace Go.Proofs.Ytdnfmkkaojafhaa.journalBack
open Go.Abs
set_option maxRecDepth 100000
theorem alive_ok : F_law22_alive mx () = some true := by kernel_rfl

theorem scan (l : List Blk) (h300 : l.length ≤ 300) : iter mx (F_law22_JournalBack.l250 mx l true) (0 : Int) = some (if ∀ b ∈ l, b.length = 64 then .inr () else .inl true) := by
  rcases iter_scan (f := F_law22_JournalBack.l250 mx l true) (fun i => (i : Int)) l.length (fun i => (l.getD i []).length = 64) (lt_N0 (by omega)) (fun _ => .inl true) (.inr ())
    (fun i hi hp _ => by
      have e : (((l.getD i []).length : Int) != 64) = false := by rw [hp]; rfl
      simp only [F_law22_JournalBack.l250, ltd hi, lez, Bool.and_self, cond_true, Int.toNat_natCast, e, cond_false]
      rw [inc64 (by omega)])
    (fun i hi hp _ => by
      have e : (((l.getD i []).length : Int) != 64) = true := bne_iff_ne.2 fun h => hp (by omega)
      simp only [F_law22_JournalBack.l250, ltd hi, lez, Bool.and_self, cond_true, Int.toNat_natCast, e])
    (fun _ => by simp only [F_law22_JournalBack.l250, nltd, cond_false]) with ⟨h, e⟩ | ⟨i, hi, hp, _, e⟩
  · have e : iter mx (F_law22_JournalBack.l250 mx l true) (0 : Int) = _ := e
    rw [e, if_pos]
    intro b hb
    obtain ⟨j, hj, rfl⟩ := List.mem_iff_getElem.1 hb
    have := h j hj
    rwa [getD_some (l := l) hj] at this
  · have e : iter mx (F_law22_JournalBack.l250 mx l true) (0 : Int) = _ := e
    rw [e, if_neg (fun h => hp (h _ (getD_lt hi)))]

theorem main {g n s p : Int} (hg : isU32 g) (hn : isU32 n) (hs : isU32 s) (hp : isU32 p) {r : List Int} (hr : bytesL r) {l : List Blk} (hlb : ∀ b ∈ l, bytesL b) : F_law22_JournalBack mx (g, n, s, p, r, l) = some true := by
  simp only [F_law22_JournalBack, alive_ok, Option.bind_some, Bool.not_true, cond_false]
  by_cases h1 : 20000 < r.length
  · rw [decide_eq_true (show (20000 : Int) < (r.length : Int) by omega)]; rfl
  · rw [decide_eq_false (show ¬ (20000 : Int) < (r.length : Int) by omega)]
    by_cases h2 : 300 < l.length
    · rw [decide_eq_true (show (300 : Int) < (l.length : Int) by omega)]; rfl
    · rw [decide_eq_false (show ¬ (300 : Int) < (l.length : Int) by omega)]
      simp only [cond_false, scan l (by omega), Option.bind_some]
      by_cases h3 : ∀ b ∈ l, b.length = 64
      · rw [if_pos h3]
        have hl : okBlks l := fun b hb => ⟨h3 b hb, hlb b hb⟩
        have hpl := parts_le (r := r) (by omega)
        have hmw : IntKind.i64.wrap ((r.length : Int) + 42) = (r.length : Int) + 42 := w64 (by omega) (by omega)
        have hparts : mxI 1 (IntKind.i64.wrap ((IntKind.i64.wrap ((r.length : Int) + 42)).tdiv 43)) = ((partsOf r : Nat) : Int) := by
          rw [hmw]
          have : ((r.length : Int) + 42).tdiv 43 = (((r.length + 42) / 43 : Nat) : Int) := by
            rw [show (r.length : Int) + 42 = ((r.length + 42 : Nat) : Int) by omega]; exact cast_tdiv _ 43
          rw [this, w64 (by omega) (by omega)]
          unfold mxI partsOf
          split <;> omega
        have part1 : F_law22_JournalBack.s254 mx g n s p r l (if g = 0 ∨ n = 0 then ([], 2) else if 65536 < r.length then ([], 3) else (frame g n s p r, 0)) = some (.inr ()) := by
          by_cases h4 : g = 0 ∨ n = 0
          · rw [if_pos h4]; rfl
          · rw [if_neg h4, if_neg (by omega)]
            have hall : okBlks (frame g n s p r ++ l) := fun b hb => by
              rcases List.mem_append.1 hb with hb | hb
              · exact frame_okB hr b hb
              · exact hl b hb
            have ho := opn_frame (p := p) (n := n) hl (fun e => h4 (.inl e)) (fun e => h4 (.inr e)) (show r.length ≤ 65536 by omega) hs hr
            have c1 : Nat.ble (partsOf r) 4294967296 = true := ble_t (by omega)
            have c2 : Nat.ble (partsOf r + l.length) 4294967296 = true := ble_t (by omega)
            simp only [F_law22_JournalBack.s254, beq_self_eq_true, cond_true, frame_len, c1, c2]
            rw [Open_ok hg.1 hn.1 hp.1 hall (by rw [List.length_append, frame_len]; omega), ho]
            simp only [Option.bind_some, bne_self_eq_false, cond_false, beq_self_eq_true, Bool.not_true, hparts]
        rw [frame_ok hg.1 hn.1 hs.1 hp.1 (by omega)]
        dsimp only [Option.bind_some]
        rw [part1]
        simp only [Option.bind_some]
        rw [Open_ok hg.1 hn.1 hp.1 hl (by omega)]
        cases ho : opn g n p l with
        | none => rfl
        | some x =>
          obtain ⟨r2, s2, k2⟩ := x
          obtain ⟨q1, q2, q3, q4, q5, q6, q7, q8⟩ := (opn_iff hl).1 ho
          have hpl2 := parts_le q3
          have c3 : decide (((partsOf r2 : Nat) : Int) ≤ (l.length : Int)) = true := decide_eq_true (by omega)
          simp only [Option.bind_some, bne_self_eq_false, cond_false]
          rw [frame_ok hg.1 hn.1 q4.1 hp.1 (by omega), if_neg (by omega), if_neg (by omega)]
          simp only [Option.bind_some, cond_true, beq_self_eq_true, frame_len, q6, c3, lez, Bool.and_self, Int.le_refl, decide_true, Int.toNat_natCast, List.drop_zero]
          rw [same_ok (by rw [frame_len]; omega), decide_eq_true]
          · rfl
          · rw [← q6]; exact q8.symm
      · rw [if_neg h3]
theorem pure (q : Int × Int × Int × Int × (List Int) × (List (List Int))) (h : wfIns F_law22_JournalBack.sig.pars q) : F_law22_JournalBack mx q = some true := by
  obtain ⟨g, n, s, p, r, l⟩ := q
  refine main (wfu32 h.1.1) (wfu32 h.2.1.1) (wfu32 h.2.2.1.1) (wfu32 h.2.2.2.1.1) (fun x hx => wfu8 (h.2.2.2.2.1.1.1 x hx)) (fun b hb x hx => wfu8 ((h.2.2.2.2.2.1.1.1 b hb).1 x hx))
end Go.Proofs.Ytdnfmkkaojafhaa.journalBack
