/- The plain law of JournalReads. -/
import Derived.Test.YtdnfmkkaojafhaaKT
import Derived.Test.YtdnfmkkaojafhaaKR
namespace Go.Proofs.Ytdnfmkkaojafhaa.journalReads
open Go.Abs
set_option maxRecDepth 100000
theorem readS_bd {d : List Int} (hb : bytesL d) {g f m : Int} : (readS d g f m).1.length ≤ 4096 ∧ isU32 (readS d g f m).2.2.1 ∧ isU32 (readS d g f m).2.2.2.1 := by
  by_cases h : (readS d g f m).2.2.2.2 = 0
  · obtain ⟨h1, h2, h3⟩ := readS_ok h
    obtain ⟨a1, a2, a3, a4⟩ := id h2
    have hN := h1.2.1
    obtain ⟨B, _, _, b1, b2, b3⟩ := log_bd (g := g) (blks_ok hb (f := f.toNat) (m := m.toNat) (by omega)) (by rw [blks_len]; omega)
    rw [readS_val h1 h2 h3]
    exact ⟨b1, b2, b3⟩
  · unfold readS at h ⊢
    by_cases h1 : okD d
    · rw [if_pos h1] at h ⊢
      by_cases h2 : areaOk d f m
      · rw [if_pos h2] at h ⊢
        by_cases h3 : g = 0
        · rw [if_pos h3]; exact ⟨by simp, ⟨by decide, by decide⟩, ⟨by decide, by decide⟩⟩
        · rw [if_neg h3] at h; exact absurd rfl h
      · rw [if_neg h2]; exact ⟨by simp, ⟨by decide, by decide⟩, ⟨by decide, by decide⟩⟩
    · rw [if_neg h1]; exact ⟨by simp, ⟨by decide, by decide⟩, ⟨by decide, by decide⟩⟩
theorem main {d : List Int} (hd : bytesL d) {g : Int} (hg : isU32 g) (f m : Int) {r : List Int} (hrl : r.length ≤ 140737488351232) : F_law22_JournalReads mx (d, g, f, m, r) = some true := by
  simp only [F_law22_JournalReads]
  by_cases h1 : 300000 < d.length
  · rw [decide_eq_true (show (300000 : Int) < (d.length : Int) by omega)]; rfl
  rw [decide_eq_false (show ¬ (300000 : Int) < (d.length : Int) by omega)]
  by_cases h2 : 100000 < r.length
  · rw [decide_eq_true (show (100000 : Int) < (r.length : Int) by omega)]; rfl
  rw [decide_eq_false (show ¬ (100000 : Int) < (r.length : Int) by omega)]
  have c1 : Nat.ble d.length 140737488351232 = true := ble_t (by omega)
  obtain ⟨b1, b2, b3⟩ := readS_bd hd (g := g) (f := f) (m := m)
  simp only [cond_false, F_ref02_Twin, c1, cond_true, Option.bind_some, read_ok hd hg, rread_ok hd hg, great_ok hd, rgreat_ok hd]
  simp only [F_ref22_SameLog, same_ok (show (readS d g f m).1.length ≤ 1000000000000000000 by omega), Option.bind_some, decide_true, cond_true, beq_self_eq_true, Bool.not_true, cond_false, bne_self_eq_false, next_ok b2 b3 hg hrl, rnext_ok b2 b3 hg hrl]
  generalize hX : nextS (readS d g f m).1 (readS d g f m).2.2.1 (readS d g f m).2.2.2.1 g r = X
  have hl : X.1.length ≤ 1000000 := by
    rw [← hX]; unfold nextS
    by_cases h0 : g = 0
    · rw [if_pos h0]; simp
    rw [if_neg h0]
    by_cases h1 : 65536 < r.length
    · rw [if_pos h1]; simp
    rw [if_neg h1]
    by_cases h2 : 1048576 ≤ (readS d g f m).1.length
    · rw [if_pos h2]; simp
    rw [if_neg h2]
    by_cases h3 : mxI (readS d g f m).2.2.1 (readS d g f m).2.2.2.1 = 4294967295
    · rw [if_pos h3]; simp
    rw [if_neg h3]
    have := parts_le (r := r) (by omega)
    simp only [frame_len]; omega
  rw [same_ok (by omega)]
  simp only [decide_true, Option.bind_some, cond_true, beq_self_eq_true]
theorem pure (q : (List Int) × Int × Int × Int × (List Int)) (h : wfIns F_law22_JournalReads.sig.pars q) : F_law22_JournalReads mx q = some true := by
  obtain ⟨d, g, f, m, r⟩ := q
  exact main (fun x hx => wfu8 (h.1.1.1 x hx)) (wfu32 h.2.1.1) f m (h.2.2.2.2.1.1.2)
end Go.Proofs.Ytdnfmkkaojafhaa.journalReads
