/- A disk that is opened again: one that is made. -/
import Derived.Test.YtpfjjbpoikgocaaKRr
namespace Go.Proofs.Ytpfjjbpoikgocaa
open Go.Abs
set_option maxRecDepth 100000
theorem full_ok {d : List Int} (hok : okD d) (hn3 : 3 ≤ d.length / 64) (hb : bytesL d) {o : Int} (ho : o = 0 ∨ o = 1) {G : Int} (hgu : isU32 G) (g2 : G ≠ 0) {i : Img} {b : List Int} (hwr : writeS i = (b, 0)) (hw : wfIm i)
    (g3 : (frame G 1 1 0 b).length ≤ halfN d) (hgab : ∀ x ∈ areaB d o, genOf x ≠ G) :
    Puts d (putsAt (frame G 1 1 0 b) (areaF d o) ++ [(0, firstB G o)]) ∧ St (wr d (putsAt (frame G 1 1 0 b) (areaF d o) ++ [(0, firstB G o)])) G o i := by
  have hdl := hok.2.1
  have hh : halfN d ≤ 4096 := by unfold halfN; omega
  obtain ⟨ha1, ha2, ha3⟩ := area_in ho hn3
  have hob := areaB_ok hb ho hn3
  have hbb : bytesL b := wr_bytes hwr hw
  have hbl : b.length ≤ 65536 := (writeS_ok hwr).2.2
  have hfb : okBlks (frame G 1 1 0 b) := frame_okB hbb
  obtain ⟨fr, hfr⟩ : ∃ fr, frame G 1 1 0 b = fr := ⟨_, rfl⟩
  have hfl : fr.length ≤ 1525 := by rw [← hfr, frame_len]; exact parts_le hbl
  rw [hfr] at hfb g3 ⊢
  have hf64 : ∀ b ∈ fr, b.length = 64 := fun b hb => (hfb b hb).1
  have hputs := putsAt_ok (d := d) (f := areaF d o) hf64 (by omega)
  have hfB : isByte o := by rcases ho with e | e <;> rw [e] <;> exact ⟨by decide, by decide⟩
  have h0e : putErr d (0, firstB G o) = 0 := by
    unfold putErr
    rw [if_pos (show (0 : Int) ≤ 0 ∧ (0 : Int) < ((d.length / 64 : Nat) : Int) by omega), if_pos (firstB_len _ _)]
  have hP : Puts d (putsAt fr (areaF d o) ++ [(0, firstB G o)]) := by
    refine ⟨fun q hq => ?_, fun q hq => ?_, by rw [List.length_append, putsAt_len, List.length_singleton]; omega⟩
    · rcases List.mem_append.1 hq with hq | hq
      · exact hputs q hq
      · rw [List.mem_singleton] at hq; subst hq; exact h0e
    · rcases List.mem_append.1 hq with hq | hq
      · exact putsAt_bytes hfb _ q hq
      · rw [List.mem_singleton] at hq; subst hq; exact firstB_bytes hfB
  refine ⟨hP, ?_⟩
  have hlen1 : (wr d (putsAt fr (areaF d o))).length = d.length := wr_len hputs
  have hwrE : wr d (putsAt fr (areaF d o) ++ [(0, firstB G o)]) = wr1 (wr d (putsAt fr (areaF d o))) (0, firstB G o) := by unfold wr; rw [List.foldl_append]; rfl
  have h0e' : putErr (wr d (putsAt fr (areaF d o))) (0, firstB G o) = 0 := by rw [putErr_len hlen1]; exact h0e
  have hbl := blks_puts (d := d) (f := areaF d o) (m := halfN d) (B := 0) (t := fr.length) hf64 (by omega) (by omega) (Nat.le_refl _)
  have hfull : (putsAt fr (areaF d o)).take fr.length = putsAt fr (areaF d o) := by rw [← putsAt_len fr (areaF d o), List.take_length]
  rw [Nat.add_zero, hfull, List.take_zero, List.nil_append, List.take_length, Nat.zero_add] at hbl
  have hblk : ∀ n, n < d.length / 64 → blockOf (wr1 (wr d (putsAt fr (areaF d o))) (0, firstB G o)) n = if n = 0 then firstB G o else blockOf (wr d (putsAt fr (areaF d o))) n := fun n hn => by
    rw [block_wr1 h0e' (by rw [hlen1]; exact hn)]
    by_cases hn0 : n = 0
    · rw [if_pos hn0, if_pos (by dsimp only; omega)]
    · rw [if_neg hn0, if_neg (by dsimp only; omega)]
  have hlen : (wr1 (wr d (putsAt fr (areaF d o))) (0, firstB G o)).length = d.length := by rw [wr1_len h0e', hlen1]
  rw [hwrE]
  generalize wr d (putsAt fr (areaF d o)) = d1 at hlen1 hbl hblk hlen h0e' hwrE ⊢
  generalize wr1 d1 (0, firstB G o) = d' at hblk hlen ⊢
  have hB : areaB d' o = fr ++ (areaB d o).drop fr.length := by
    unfold areaB
    rw [areaF_len hlen, halfN_len hlen]
    refine Eq.trans ?_ hbl
    unfold blks
    refine List.map_congr_left fun j hj => ?_
    have hj := List.mem_range.1 hj
    rw [hblk _ (by omega), if_neg (by omega)]
  obtain ⟨X, hX⟩ := log_one (g := G) (r := b) (l := (areaB d o).drop fr.length) (fun b hb => hob b (List.mem_of_mem_drop hb)) g2 hgu hbb (writeS_ok hwr).2.2 (fun b hb => hgab b (List.mem_of_mem_drop hb))
  have hlog : logA d' G o = ([b], ((partsOf b : Nat) : Int), 1, X) := by unfold logA; rw [hB, ← hfr]; rw [← hfr] at hX; exact hX
  refine ⟨okD_len hlen hok, by rw [hlen]; exact hn3, hgu, g2, ho, ?_, ?_⟩
  · rw [hblk 0 (by omega), if_pos rfl]
  · rw [hlog]; exact ⟨_, [], i, rfl, hwr, hw, .nil _⟩
def fmtD (n : Nat) (b : List Int) : List Int := wr (List.replicate (n * 64) 0) (putsAt (frame 1 1 1 0 b) 1 ++ [(0, firstB 1 0)])
/-- A disk is made, or it is not. -/
theorem format_ok {i : Img} (hi : wfIm i) (n : Int) :
    (∃ (k : Nat), n = (k : Int) ∧ 3 ≤ k ∧ k ≤ 4096 ∧ (writeS i).2 = 0 ∧ (frame 1 1 1 0 (writeS i).1).length ≤ (k - 1) / 2 ∧ St (fmtD k (writeS i).1) 1 0 i ∧ bytesL (fmtD k (writeS i).1) ∧ (fmtD k (writeS i).1).length = k * 64 ∧
      F_reopen_Format mx (n, i.1, i.2.1, i.2.2.1, i.2.2.2.1, i.2.2.2.2.1, i.2.2.2.2.2) = some (fmtD k (writeS i).1, 0)) ∨
    F_reopen_Format mx (n, i.1, i.2.1, i.2.2.1, i.2.2.2.1, i.2.2.2.2.1, i.2.2.2.2.2) = some ([], if 1 ≤ n ∧ n ≤ 4096 then (if n < 3 then 230 else if (writeS i).2 ≠ 0 then (writeS i).2 else 9) else 20) ∧
      ¬ (3 ≤ n ∧ n ≤ 4096 ∧ (writeS i).2 = 0 ∧ ((frame 1 1 1 0 (writeS i).1).length : Int) ≤ (n - 1) / 2) := by
  have hnd := new_disk n
  by_cases h1 : 1 ≤ n ∧ n ≤ 4096
  case neg =>
    rw [if_neg h1] at hnd
    refine .inr ⟨?_, by omega⟩
    rw [if_neg h1]
    simp only [F_reopen_Format, hnd, Option.bind_some]; rfl
  rw [if_pos h1] at hnd ⊢
  by_cases h3 : n < 3
  · refine .inr ⟨?_, by omega⟩
    rw [if_pos h3]
    simp only [F_reopen_Format, hnd, Option.bind_some, bne_self_eq_false, cond_false, decide_eq_true h3, cond_true]
  rw [if_neg h3]
  obtain ⟨k, rfl⟩ := Int.eq_ofNat_of_zero_le (show 0 ≤ n by omega)
  have hhf := half_ok (n := k) (by omega) (by omega)
  have hrec := record_ok (fun k hk => (hi.1 k hk).1) hi.2 (g := 1) ⟨by decide, by decide⟩ (((k - 1) / 2 : Nat) : Int)
  have hfi := first_ok (g := 1) (a := 0) ⟨by decide, by decide⟩ ⟨by decide, by decide⟩
  have hz : (((k : Int) * 64)).toNat = k * 64 := by omega
  rw [hz] at hnd
  simp only [F_reopen_Format, hnd, Option.bind_some, bne_self_eq_false, cond_false, decide_eq_false h3, hhf, hrec]
  by_cases g1 : (writeS i).2 = 0
  case neg =>
    refine .inr ⟨?_, fun hh => g1 hh.2.2.1⟩
    rw [if_pos g1, if_pos g1]
    simp only [bne_iff_ne.2 g1, cond_true]
  rw [if_neg (show ¬ (writeS i).2 ≠ 0 by omega), if_neg (show ¬ (1 : Int) = 0 by decide)]
  by_cases g3 : (((k - 1) / 2 : Nat) : Int) < ((frame 1 1 1 0 (writeS i).1).length : Int)
  · refine .inr ⟨?_, by omega⟩
    rw [if_pos g3, if_neg (show ¬ (writeS i).2 ≠ 0 by omega)]; rfl
  rw [if_neg g3]
  have hwr : writeS i = ((writeS i).1, 0) := Prod.ext rfl g1
  have hfl : (frame 1 1 1 0 (writeS i).1).length ≤ 1525 := by rw [frame_len]; exact parts_le (writeS_len i)
  have hzl : (List.replicate (k * 64) (0 : Int)).length = k * 64 := List.length_replicate
  have hdv : (List.replicate (k * 64) (0 : Int)).length / 64 = k := by rw [hzl]; omega
  have hok : okD (List.replicate (k * 64) (0 : Int)) := by unfold okD; omega
  have hzb : bytesL (List.replicate (k * 64) (0 : Int)) := fun x hx => by rw [(List.mem_replicate.1 hx).2]; exact ⟨by decide, by decide⟩
  have hhn : halfN (List.replicate (k * 64) (0 : Int)) = (k - 1) / 2 := by unfold halfN; rw [hdv]
  have haf : areaF (List.replicate (k * 64) (0 : Int)) 0 = 1 := by unfold areaF; rw [show (0 : Int).toNat = 0 from rfl, Nat.zero_mul]
  obtain ⟨hP, hS⟩ := full_ok hok (by omega) hzb (o := 0) (.inl rfl) (G := 1) ⟨by decide, by decide⟩ (by decide) hwr hi (by rw [hhn]; omega) (fun x hx => by
    obtain ⟨j, hj, rfl⟩ := List.mem_map.1 hx
    have hj := List.mem_range.1 hj
    rw [haf]; rw [hhn] at hj
    have : blockOf (List.replicate (k * 64) (0 : Int)) (1 + j) = List.replicate 64 0 := by
      unfold blockOf
      rw [List.drop_replicate, List.take_replicate, Nat.min_eq_left (by omega)]
    rw [this]; decide)
  rw [haf] at hP hS
  have hpl := hP.len
  have hdo := do_ok hok hP.ok (by omega) (Nat.le_refl _)
  rw [List.take_length] at hdo
  have hpw := hP.wr hzb (putsAt (frame 1 1 1 0 (writeS i).1) 1 ++ [(0, firstB 1 0)]).length
  rw [List.take_length] at hpw
  have hpt := rputs_ok (l := frame 1 1 1 0 (writeS i).1) (f := 1) [(0, firstB 1 0)] (by omega) (by simp) (by decide)
  have hpt : F_reopen_puts mx (frame 1 1 1 0 (writeS i).1, (1 : Int), [(0, firstB 1 0)]) = _ := hpt
  refine .inl ⟨k, rfl, by omega, by omega, g1, by omega, hS, hpw.1, hpw.2.trans hzl, ?_⟩
  simp only [bne_self_eq_false, cond_false, hfi, Option.bind_some, hpt, hdo]; rfl
end Go.Proofs.Ytpfjjbpoikgocaa
