/- The plain law of JournalOther. -/
import Derived.Test.YtdnfmkkaojafhaaKJd
namespace Go.Proofs.Ytdnfmkkaojafhaa.journalOther
open Go.Abs
set_option maxRecDepth 100000
theorem alive_ok : F_law22_alive mx () = some true := by kernel_rfl

theorem no_gen {g : Int} {l : List Blk} (hl : okBlks l) (hg : isU32 g) (h : ∀ b ∈ l, genOf b ≠ g) : logOf g l = ([], 0, 0, 0) := by
  have ho : opn g (((0 : Nat) + 1 : Nat) : Int) 0 l = none := by
    cases ho : opn g (((0 : Nat) + 1 : Nat) : Int) 0 l with
    | none => rfl
    | some x =>
      exfalso
      obtain ⟨r, s, k⟩ := x
      obtain ⟨q1, q2, q3, q4, q5, q6, q7, q8⟩ := (opn_iff hl).1 ho
      have hk := parts_pos r
      have hmem : (frame g (((0 : Nat) + 1 : Nat) : Int) s 0 r).getD 0 [] ∈ l := by
        have : (frame g (((0 : Nat) + 1 : Nat) : Int) s 0 r).getD 0 [] ∈ frame g (((0 : Nat) + 1 : Nat) : Int) s 0 r := getD_lt (by rw [frame_len]; omega)
        rw [← q8] at this ⊢
        exact List.mem_of_mem_take this
      have hblk : (frame g (((0 : Nat) + 1 : Nat) : Int) s 0 r).getD 0 [] = blk g (((0 : Nat) + 1 : Nat) : Int) s 0 (partsOf r) 0 (piece r 0) := by
        rw [getD_some (by rw [frame_len]; omega)]; simp [frame]
      rw [hblk] at hmem
      exact h _ hmem (blk_gen hg)
  have hgr : grOf g l = 0 := by
    have : ∀ {l : List Blk} {a : Int}, (∀ b ∈ l, genOf b ≠ g) → l.foldl (fun a b => if genOf b = g then mxI (mxI a (saltOf b)) (prevOf b) else a) a = a := by
      intro l
      induction l with
      | nil => intro a _; rfl
      | cons c l ih =>
        intro a hh
        rw [List.foldl_cons, if_neg (hh c (by simp))]
        exact ih fun b hb => hh b (by simp [hb])
    exact this h
  have hrd : rd g (l.length + 1) l [] 0 0 = (l, [], 0, 0) := by simp only [rd, List.length_nil, ho]
  unfold logOf
  rw [hrd, hgr]; rfl

theorem main {d : List Int} (hd : bytesL d) (f m : Int) : F_law22_JournalOther mx (d, f, m) = some true := by
  simp only [F_law22_JournalOther, alive_ok, Option.bind_some, Bool.not_true, cond_false]
  by_cases h1 : 300000 < d.length
  · rw [decide_eq_true (show (300000 : Int) < (d.length : Int) by omega)]; rfl
  · rw [decide_eq_false (show ¬ (300000 : Int) < (d.length : Int) by omega)]
    simp only [cond_false, great_ok hd, Option.bind_some, greatS]
    by_cases hok : okD d
    · rw [if_pos hok]
      by_cases ha : areaOk d f m
      · rw [if_pos ha]
        obtain ⟨a1, a2, a3, a4⟩ := id ha
        have hN := hok.2.1
        have hl := blks_ok hd (f := f.toNat) (m := m.toNat) (by omega)
        have hgu := great_u32 hl
        by_cases h2 : greatOf (blks d f.toNat m.toNat) = 4294967295
        · rw [h2]; rfl
        · have e1 : F_law22_JournalOther.s252 mx (greatOf (blks d f.toNat m.toNat), 0) = some false := by
            have : (greatOf (blks d f.toNat m.toNat) == 4294967295) = false := by simpa using h2
            simp only [F_law22_JournalOther.s252, this]; rfl
          have hu : isU32 (greatOf (blks d f.toNat m.toNat) + 1) := ⟨by have := hgu.1; omega, by have := hgu.2; omega⟩
          have e2 : IntKind.u32.wrap (greatOf (blks d f.toNat m.toNat) + 1) = greatOf (blks d f.toNat m.toNat) + 1 := wu32 hu.1 hu.2
          have hno := no_gen (g := greatOf (blks d f.toNat m.toNat) + 1) hl hu (fun b hb => by have := great_le hb; omega)
          rw [e1]
          simp only [Option.bind_some, cond_false, e2, read_ok hd hu, readS, if_pos hok, if_pos ha, if_neg (show ¬ greatOf (blks d f.toNat m.toNat) + 1 = 0 by have := hgu.1; omega), hno]
          rfl
      · rw [if_neg ha]; rfl
    · rw [if_neg hok]; rfl
theorem pure (q : (List Int) × Int × Int) (h : wfIns F_law22_JournalOther.sig.pars q) : F_law22_JournalOther mx q = some true := by
  obtain ⟨d, f, m⟩ := q
  exact main (fun x hx => wfu8 (h.1.1.1 x hx)) f m
end Go.Proofs.Ytdnfmkkaojafhaa.journalOther
