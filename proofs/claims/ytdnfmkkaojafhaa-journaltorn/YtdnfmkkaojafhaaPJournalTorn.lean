/- The plain law of JournalTorn. -/
import Derived.Test.YtdnfmkkaojafhaaKT
namespace Go.Proofs.Ytdnfmkkaojafhaa.journalTorn
open Go.Abs
set_option maxRecDepth 100000
theorem main {d : List Int} (hd : bytesL d) {g : Int} (hg : isU32 g) (f m : Int) {r : List Int} (hr : bytesL r) (t : Int) : F_law22_JournalTorn mx (d, g, f, m, r, t) = some true := by
  simp only [F_law22_JournalTorn, alive_ok, Option.bind_some, Bool.not_true, cond_false]
  by_cases h1 : 300000 < d.length
  · rw [decide_eq_true (show (300000 : Int) < (d.length : Int) by omega)]; rfl
  · rw [decide_eq_false (show ¬ (300000 : Int) < (d.length : Int) by omega)]
    by_cases h2 : 66000 < r.length
    · rw [decide_eq_true (show (66000 : Int) < (r.length : Int) by omega)]; rfl
    · rw [decide_eq_false (show ¬ (66000 : Int) < (r.length : Int) by omega)]
      simp only [cond_false, read_ok hd hg, Option.bind_some, bne_int]
      by_cases h3 : (readS d g f m).2.2.2.2 = 0
      · obtain ⟨hok, ha, hg0⟩ := readS_ok h3
        obtain ⟨a1, a2, a3, a4⟩ := id ha
        have hN := hok.2.1
        have hl := blks_ok hd (f := f.toNat) (m := m.toNat) (by omega)
        obtain ⟨B, hB, hBl, hrs, hla, hgr⟩ := log_bd (g := g) hl (by rw [blks_len]; omega)
        rw [blks_len] at hBl
        rw [readS_val hok ha hg0]
        dsimp only
        simp only [decide_true, Bool.not_true, cond_false, next_ok hla hgr hg (show r.length ≤ 140737488351232 by omega), Option.bind_some, hB]
        by_cases h4 : (nextS (logOf g (blks d f.toNat m.toNat)).1 (logOf g (blks d f.toNat m.toNat)).2.2.1 (logOf g (blks d f.toNat m.toNat)).2.2.2 g r).2 = 0
        · obtain ⟨fr, hfr⟩ : ∃ fr, nextS (logOf g (blks d f.toNat m.toNat)).1 (logOf g (blks d f.toNat m.toNat)).2.2.1 (logOf g (blks d f.toNat m.toNat)).2.2.2 g r = (fr, 0) := ⟨_, Prod.ext rfl h4⟩
          obtain ⟨hfb, _, hfl⟩ := next_blks hr hfr
          rw [hfr]
          simp only [decide_true, Bool.not_true, cond_false]
          rw [w64 (n := m - (B : Int)) (by omega) (by omega)]
          by_cases h5 : m - (B : Int) < (fr.length : Int)
          · rw [decide_eq_true h5]; rfl
          · rw [decide_eq_false h5]
            by_cases h6 : t < 0
            · rw [decide_eq_true h6]; rfl
            · rw [decide_eq_false h6]
              by_cases h7 : (fr.length : Int) < t
              · rw [decide_eq_true h7]; rfl
              · rw [decide_eq_false h7]
                have e1 : IntKind.i64.wrap (f + (B : Int)) = ((f.toNat + B : Nat) : Int) := by rw [w64 (by omega) (by omega)]; omega
                obtain ⟨d', w1, w2, w3, w4⟩ := written hd hok ha hg hr hB hfr (by omega) (t := t) (by omega) (by omega)
                simp only [cond_false, e1, puts_ok (l := fr) (f := f.toNat + B) (by omega) (by omega), Option.bind_some, w1, read_ok w3 hg, readS_val (okD_len w2 hok) (area_len w2 ha) hg0, decide_true, Bool.not_true, cond_false, ieq]
                have hl' := blks_ok w3 (f := f.toNat) (m := m.toNat) (by rw [w2]; omega)
                by_cases h8 : t = (fr.length : Int)
                · rw [if_pos h8] at w4
                  obtain ⟨G, hG⟩ := w4
                  have e2 : IntKind.i64.wrap ((B : Int) + (fr.length : Int)) = ((B + fr.length : Nat) : Int) := by rw [w64 (by omega) (by omega)]; omega
                  rw [hG, decide_eq_true h8]
                  simp only
                  rw [same2_ok (by rw [List.length_append, List.length_singleton]; omega) (by omega), if_pos rfl, decide_eq_true rfl]
                  have e3 : decide (t < (fr.length : Int)) = false := decide_eq_false (by omega)
                  simp only [Option.bind_some, Bool.not_true, cond_false, e3, cond_true, e2, decide_true]
                · rw [if_neg h8] at w4
                  obtain ⟨G, hG⟩ := w4
                  rw [hG, decide_eq_false h8]
                  simp only
                  rw [same2_ok (by omega) (by omega), if_neg (by decide), decide_eq_true rfl]
                  have e3 : decide (t < (fr.length : Int)) = true := decide_eq_true (by omega)
                  simp only [Option.bind_some, Bool.not_true, cond_false, e3, cond_true, decide_true]
        · have e : (!decide ((nextS (logOf g (blks d f.toNat m.toNat)).1 (logOf g (blks d f.toNat m.toNat)).2.2.1 (logOf g (blks d f.toNat m.toNat)).2.2.2 g r).2 = 0)) = true := by simp [h4]
          rw [e]; rfl
      · rw [decide_eq_false h3, readS_bad h3]; rfl
theorem pure (q : (List Int) × Int × Int × Int × (List Int) × Int) (h : wfIns F_law22_JournalTorn.sig.pars q) : F_law22_JournalTorn mx q = some true := by
  obtain ⟨d, g, f, m, r, t⟩ := q
  exact main (fun x hx => wfu8 (h.1.1.1 x hx)) (wfu32 h.2.1.1) f m (fun x hx => wfu8 (h.2.2.2.2.1.1.1 x hx)) t
end Go.Proofs.Ytdnfmkkaojafhaa.journalTorn
