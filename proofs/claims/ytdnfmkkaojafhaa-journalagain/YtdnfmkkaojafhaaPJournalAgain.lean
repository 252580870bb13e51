/- The plain law of JournalAgain. -/
import Derived.Test.YtdnfmkkaojafhaaKT
namespace Go.Proofs.Ytdnfmkkaojafhaa.journalAgain
open Go.Abs
set_option maxRecDepth 100000
theorem main {d : List Int} (hd : bytesL d) {g : Int} (hg : isU32 g) (f m : Int) {r r2 : List Int} (hr : bytesL r) (hr2 : bytesL r2) (t t2 : Int) : F_law22_JournalAgain mx (d, g, f, m, r, r2, t, t2) = some true := by
  simp only [F_law22_JournalAgain, alive_ok, Option.bind_some, Bool.not_true, cond_false]
  by_cases h1 : 100000 < d.length
  · rw [decide_eq_true (show (100000 : Int) < (d.length : Int) by omega)]; rfl
  rw [decide_eq_false (show ¬ (100000 : Int) < (d.length : Int) by omega)]
  by_cases h2 : 20000 < r.length
  · rw [decide_eq_true (show (20000 : Int) < (r.length : Int) by omega)]; rfl
  rw [decide_eq_false (show ¬ (20000 : Int) < (r.length : Int) by omega)]
  by_cases h2' : 20000 < r2.length
  · rw [decide_eq_true (show (20000 : Int) < (r2.length : Int) by omega)]; rfl
  rw [decide_eq_false (show ¬ (20000 : Int) < (r2.length : Int) by omega)]
  simp only [cond_false, read_ok hd hg, Option.bind_some, bne_int]
  by_cases h3 : (readS d g f m).2.2.2.2 = 0
  case neg => rw [decide_eq_false h3]; rfl
  obtain ⟨hok, ha, hg0⟩ := readS_ok h3
  obtain ⟨a1, a2, a3, a4⟩ := id ha
  have hN := hok.2.1
  have hl := blks_ok hd (f := f.toNat) (m := m.toNat) (by omega)
  obtain ⟨B, hB, hBl, hrs, hla, hgr⟩ := log_bd (g := g) hl (by rw [blks_len]; omega)
  rw [blks_len] at hBl
  rw [readS_val hok ha hg0]
  dsimp only
  simp only [decide_true, Bool.not_true, cond_false, next_ok hla hgr hg (show r.length ≤ 140737488351232 by omega), Option.bind_some, hB]
  by_cases h4 : (nextS (logOf g (blks d f.toNat m.toNat)).1 (logOf g (blks d f.toNat m.toNat)).2.2.1 (logOf g (blks d f.toNat m.toNat)).2.2.2 g r).2 = 0
  case neg =>
    have e : (!decide ((nextS (logOf g (blks d f.toNat m.toNat)).1 (logOf g (blks d f.toNat m.toNat)).2.2.1 (logOf g (blks d f.toNat m.toNat)).2.2.2 g r).2 = 0)) = true := by simp [h4]
    rw [e]; rfl
  obtain ⟨fr, hfr⟩ : ∃ fr, nextS (logOf g (blks d f.toNat m.toNat)).1 (logOf g (blks d f.toNat m.toNat)).2.2.1 (logOf g (blks d f.toNat m.toNat)).2.2.2 g r = (fr, 0) := ⟨_, Prod.ext rfl h4⟩
  obtain ⟨hfb, _, hfl⟩ := next_blks hr hfr
  rw [hfr]
  simp only [decide_true, Bool.not_true, cond_false]
  rw [w64 (n := m - (B : Int)) (by omega) (by omega)]
  by_cases h5 : m - (B : Int) < (fr.length : Int)
  · rw [decide_eq_true h5]; rfl
  rw [decide_eq_false h5]
  by_cases h6 : t < 0
  · rw [decide_eq_true h6]; rfl
  rw [decide_eq_false h6]
  by_cases h7 : (fr.length : Int) ≤ t
  · rw [decide_eq_true h7]; rfl
  rw [decide_eq_false h7]
  have e1 : IntKind.i64.wrap (f + (B : Int)) = ((f.toNat + B : Nat) : Int) := by rw [w64 (by omega) (by omega)]; omega
  obtain ⟨d', w1, w2, w3, w4⟩ := written hd hok ha hg hr hB hfr (by omega) (t := t) (by omega) (by omega)
  rw [if_neg (by omega)] at w4
  obtain ⟨G, hG⟩ := w4
  have hok' := okD_len w2 hok
  have ha' := area_len w2 ha
  have hl' := blks_ok w3 (f := f.toNat) (m := m.toNat) (by rw [w2]; omega)
  have hlog := log_bd (g := g) hl' (by rw [blks_len]; omega)
  rw [hG] at hlog
  obtain ⟨B', hB', hBl', hrs', hla', hgr'⟩ := hlog
  have hBB : B' = B := by dsimp only at hB'; omega
  subst hBB
  dsimp only at hgr'
  simp only [cond_false, e1, puts_ok (l := fr) (f := f.toNat + B') (by omega) (by omega), Option.bind_some, w1, read_ok w3 hg, readS_val hok' ha' hg0, hG]
  simp only [next_ok hla hgr' hg (show r2.length ≤ 140737488351232 by omega), Option.bind_some, decide_true, Bool.not_true, cond_false]
  rw [same_ok (by omega), decide_eq_true (show (logOf g (blks d f.toNat m.toNat)).1 = (logOf g (blks d f.toNat m.toNat)).1 from rfl)]
  simp only [Option.bind_some, Bool.not_true, cond_false]
  by_cases h8 : (nextS (logOf g (blks d f.toNat m.toNat)).1 (logOf g (blks d f.toNat m.toNat)).2.2.1 G g r2).2 = 0
  case neg =>
    have e : (!decide ((nextS (logOf g (blks d f.toNat m.toNat)).1 (logOf g (blks d f.toNat m.toNat)).2.2.1 G g r2).2 = 0)) = true := by simp [h8]
    rw [e]; rfl
  obtain ⟨fr2, hfr2⟩ : ∃ fr2, nextS (logOf g (blks d f.toNat m.toNat)).1 (logOf g (blks d f.toNat m.toNat)).2.2.1 G g r2 = (fr2, 0) := ⟨_, Prod.ext rfl h8⟩
  obtain ⟨hfb2, _, hfl2⟩ := next_blks hr2 hfr2
  rw [hfr2]
  simp only [decide_true, Bool.not_true, cond_false]
  rw [w64 (n := m - (B' : Int)) (by omega) (by omega)]
  by_cases h9 : m - (B' : Int) < (fr2.length : Int)
  · rw [decide_eq_true h9]; rfl
  rw [decide_eq_false h9]
  by_cases h10 : t2 < 0
  · rw [decide_eq_true h10]; rfl
  rw [decide_eq_false h10]
  by_cases h11 : (fr2.length : Int) < t2
  · rw [decide_eq_true h11]; rfl
  rw [decide_eq_false h11]
  obtain ⟨d2, v1, v2, v3, v4⟩ := written (fr := fr2) (B := B') w3 hok' ha' hg hr2 (by rw [hG]) (by rw [hG]; exact hfr2) (by omega) (t := t2) (by omega) (by omega)
  have hok2 := okD_len v2 hok'
  have ha2 := area_len v2 ha'
  simp only [cond_false, e1, puts_ok (l := fr2) (f := f.toNat + B') (by omega) (by omega), Option.bind_some, v1, read_ok v3 hg, readS_val hok2 ha2 hg0, cond_true, beq_self_eq_true, ieq]
  by_cases h12 : t2 = (fr2.length : Int)
  · rw [if_pos h12] at v4
    obtain ⟨G2, hG2⟩ := v4
    rw [hG2, hG, decide_eq_true h12]
    simp only
    rw [same2_ok (by rw [List.length_append, List.length_singleton]; omega) (by omega), if_pos rfl, decide_eq_true rfl]
    rfl
  · rw [if_neg h12] at v4
    obtain ⟨G2, hG2⟩ := v4
    rw [hG2, hG, decide_eq_false h12]
    simp only
    rw [same2_ok (by omega) (by omega), if_neg (by decide), decide_eq_true rfl]
    rfl
theorem pure (q : (List Int) × Int × Int × Int × (List Int) × (List Int) × Int × Int) (h : wfIns F_law22_JournalAgain.sig.pars q) : F_law22_JournalAgain mx q = some true := by
  obtain ⟨d, g, f, m, r, r2, t, t2⟩ := q
  exact main (fun x hx => wfu8 (h.1.1.1 x hx)) (wfu32 h.2.1.1) f m (fun x hx => wfu8 (h.2.2.2.2.1.1.1 x hx)) (fun x hx => wfu8 (h.2.2.2.2.2.1.1.1 x hx)) t t2
end Go.Proofs.Ytdnfmkkaojafhaa.journalAgain
