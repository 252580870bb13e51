/- A disk's blocks as a log. -/
import Derived.Test.YtdnfmkkaojafhaaKJb
import Derived.Test.YtdnfmkkaojafhaaKBlk
namespace Go.Proofs.Ytdnfmkkaojafhaa
open Go.Abs
set_option maxRecDepth 100000

theorem blks_ok {d : List Int} (hd : bytesL d) {f m : Nat} (hm : f + m ≤ d.length / 64) : okBlks (blks d f m) := fun b hb => by
  simp only [blks, List.mem_map, List.mem_range] at hb
  obtain ⟨i, hi, rfl⟩ := hb
  exact ⟨blockOf_len (by omega), bytes_take (bytes_drop hd _) _⟩

/-- What is wrong with an area. -/
def areaOk (d : List Int) (f m : Int) : Prop := 0 ≤ f ∧ 0 ≤ m ∧ f ≤ ((d.length / 64 : Nat) : Int) ∧ m ≤ ((d.length / 64 : Nat) : Int) - f
instance (d : List Int) (f m : Int) : Decidable (areaOk d f m) := by unfold areaOk; infer_instance
/-! ### records one behind the other -/
def rd (g : Int) : Nat → List Blk → List (List Int) → Nat → Int → List Blk × List (List Int) × Nat × Int
  | 0, l, rs, bl, la => (l, rs, bl, la)
  | f + 1, l, rs, bl, la => match opn g ((rs.length + 1 : Nat) : Int) la l with
    | none => (l, rs, bl, la)
    | some (r, s, k) => rd g f (l.drop k) (rs ++ [r]) (bl + k) s

/-- Blocks that hold records, one behind the other. -/
inductive Ch (g : Int) : List (List Int) → Int → List Blk → List (List Int) → Int → Prop
  | nil (rs : List (List Int)) (la : Int) : Ch g rs la [] rs la
  | cons (rs : List (List Int)) (la : Int) (r : List Int) (s : Int) (P : List Blk) (rs' : List (List Int)) (la' : Int) (h1 : g ≠ 0) (h2 : r.length ≤ 65536) (h3 : isU32 s) (h4 : bytesL r)
      (h : Ch g (rs ++ [r]) s P rs' la') : Ch g rs la (frame g ((rs.length + 1 : Nat) : Int) s la r ++ P) rs' la'

theorem Ch.snoc {g : Int} {rs rs' : List (List Int)} {la la' : Int} {P : List Blk} (h : Ch g rs la P rs' la') {r : List Int} {s : Int} (h1 : g ≠ 0) (h2 : r.length ≤ 65536) (h3 : isU32 s) (h4 : bytesL r) :
    Ch g rs la (P ++ frame g ((rs'.length + 1 : Nat) : Int) s la' r) (rs' ++ [r]) s := by
  induction h with
  | nil rs la =>
    have := Ch.cons rs la r s [] (rs ++ [r]) s h1 h2 h3 h4 (.nil _ _)
    simpa using this
  | cons rs la r0 s0 P rs' la' g1 g2 g3 g4 _ ih =>
    rw [List.append_assoc]
    exact .cons rs la r0 s0 _ _ _ g1 g2 g3 g4 ih

theorem Ch.okB {g : Int} {rs rs' : List (List Int)} {la la' : Int} {P : List Blk} (h : Ch g rs la P rs' la') : okBlks P := by
  induction h with
  | nil => intro b hb; cases hb
  | cons _ _ _ _ _ _ _ _ _ _ k4 _ ih =>
    intro b hb
    rcases List.mem_append.1 hb with hb | hb
    · exact frame_okB k4 b hb
    · exact ih b hb

theorem opn_frame {g n p s : Int} {r : List Int} {l : List Blk} (hl : okBlks l) (h1 : g ≠ 0) (h2 : n ≠ 0) (h3 : r.length ≤ 65536) (h4 : isU32 s) (h5 : bytesL r) : opn g n p (frame g n s p r ++ l) = some (r, s, partsOf r) := by
  refine (opn_iff ?_).2 ⟨h1, h2, h3, h4, h5, rfl, by rw [List.length_append, frame_len]; omega, ?_⟩
  · intro b hb
    rcases List.mem_append.1 hb with hb | hb
    · exact frame_okB h5 b hb
    · exact hl b hb
  · rw [List.take_append_of_le_length (by rw [frame_len]; omega), ← frame_len g n s p r, List.take_length]

theorem rd_of_ch {g : Int} {l' : List Blk} (hl' : okBlks l') {rs rs' : List (List Int)} {la la' : Int} {P : List Blk} (h : Ch g rs la P rs' la') (hend : opn g ((rs'.length + 1 : Nat) : Int) la' l' = none) :
    ∀ (F : Nat) (bl : Nat), P.length < F → rd g F (P ++ l') rs bl la = (l', rs', bl + P.length, la') := by
  induction h with
  | nil rs la =>
    intro F bl hF
    obtain ⟨F, rfl⟩ : ∃ f, F = f + 1 := ⟨F - 1, by omega⟩
    simp only [rd, List.nil_append, hend, List.length_nil, Nat.add_zero]
  | cons rs la r s P rs' la' g1 g2 g3 g4 hP ih =>
    intro F bl hF
    obtain ⟨F, rfl⟩ : ∃ f, F = f + 1 := ⟨F - 1, by omega⟩
    have hPok : okBlks (P ++ l') := by
      intro b hb
      rcases List.mem_append.1 hb with hb | hb
      · exact hP.okB b hb
      · exact hl' b hb
    have hp := parts_pos r
    rw [List.length_append, frame_len] at hF
    have hopn := opn_frame (p := la) (n := ((rs.length + 1 : Nat) : Int)) hPok g1 (by omega) g2 g3 g4
    rw [List.append_assoc]
    simp only [rd, hopn]
    have hd : (frame g ((rs.length + 1 : Nat) : Int) s la r ++ (P ++ l')).drop (partsOf r) = P ++ l' := by
      rw [List.drop_append_of_le_length (by rw [frame_len]; omega), List.drop_eq_nil_of_le (by rw [frame_len]; omega)]; rfl
    rw [hd, ih hend F (bl + partsOf r) (by omega), List.length_append, frame_len, Nat.add_assoc]

theorem ch_of_rd {g : Int} : ∀ (F : Nat) (l : List Blk) (rs : List (List Int)) (bl : Nat) (la : Int), okBlks l → l.length < F →
    ∃ P l' rs' la', rd g F l rs bl la = (l', rs', bl + P.length, la') ∧ l = P ++ l' ∧ Ch g rs la P rs' la' ∧ opn g ((rs'.length + 1 : Nat) : Int) la' l' = none ∧ (isU32 la → isU32 la') ∧ rs'.length ≤ rs.length + P.length
  | 0, _, _, _, _, _, h => by omega
  | F + 1, l, rs, bl, la, hl, hF => by
    cases ho : opn g ((rs.length + 1 : Nat) : Int) la l with
    | none => exact ⟨[], l, rs, la, by simp only [rd, ho]; rfl, rfl, .nil _ _, ho, id, by simp⟩
    | some x =>
      obtain ⟨r, s, k⟩ := x
      obtain ⟨h1, h2, h3, h4, h5, h6, h7, h8⟩ := (opn_iff hl).1 ho
      have hk := parts_pos r
      obtain ⟨P, l', rs', la', q1, q2, q3, q4, q5, q6⟩ := ch_of_rd F (l.drop k) (rs ++ [r]) (bl + k) s (fun b hb => hl b (List.mem_of_mem_drop hb)) (by rw [List.length_drop]; omega)
      refine ⟨frame g ((rs.length + 1 : Nat) : Int) s la r ++ P, l', rs', la', ?_, ?_, .cons rs la r s P rs' la' h1 h3 h4 h5 q3, q4, fun _ => q5 h4, ?_⟩
      · simp only [rd, ho]
        rw [q1, List.length_append, frame_len, ← h6, Nat.add_assoc]
      · rw [List.append_assoc, ← q2, ← h8, List.take_append_drop]
      · rw [List.length_append, frame_len]
        rw [List.length_append, List.length_singleton] at q6
        omega

/-- The greatest number that blocks of a generation tell of. -/
def grOf (g : Int) (l : List Blk) : Int := l.foldl (fun a b => if genOf b = g then mxI (mxI a (saltOf b)) (prevOf b) else a) 0
theorem mxI_le (a b : Int) : a ≤ mxI a b ∧ b ≤ mxI a b := by unfold mxI; split <;> omega
theorem mxI_le2 {a b c : Int} (h1 : a ≤ c) (h2 : b ≤ c) : mxI a b ≤ c := by unfold mxI; split <;> omega
theorem gr_fold {g : Int} : ∀ {l : List Blk} {a : Int}, a ≤ l.foldl (fun a b => if genOf b = g then mxI (mxI a (saltOf b)) (prevOf b) else a) a ∧
    ∀ b ∈ l, genOf b = g → saltOf b ≤ l.foldl (fun a b => if genOf b = g then mxI (mxI a (saltOf b)) (prevOf b) else a) a ∧ prevOf b ≤ l.foldl (fun a b => if genOf b = g then mxI (mxI a (saltOf b)) (prevOf b) else a) a
  | [], a => ⟨Int.le_refl _, fun b hb => by cases hb⟩
  | c :: l, a => by
    rw [List.foldl_cons]
    obtain ⟨h1, h2⟩ := gr_fold (l := l) (a := if genOf c = g then mxI (mxI a (saltOf c)) (prevOf c) else a)
    refine ⟨Int.le_trans ?_ h1, fun b hb hbg => ?_⟩
    · split
      · exact Int.le_trans (mxI_le a (saltOf c)).1 (mxI_le _ (prevOf c)).1
      · exact Int.le_refl _
    · rcases List.mem_cons.1 hb with rfl | hb
      · rw [if_pos hbg] at h1 ⊢
        exact ⟨Int.le_trans (Int.le_trans (mxI_le a (saltOf b)).2 (mxI_le _ (prevOf b)).1) h1, Int.le_trans (mxI_le _ (prevOf b)).2 h1⟩
      · exact h2 b hb hbg
theorem gr_le {g : Int} {l : List Blk} {b : Blk} (hb : b ∈ l) (hg : genOf b = g) : saltOf b ≤ grOf g l ∧ prevOf b ≤ grOf g l := (gr_fold (l := l) (a := 0)).2 b hb hg
theorem saltU {b : Blk} (h : b.length = 64 ∧ bytesL b) : isU32 (saltOf b) := u32_of_bytes (bytes_drop (bytes_take h.2 _) _) (by rw [List.length_drop, List.length_take]; omega)
theorem prevU {b : Blk} (h : b.length = 64 ∧ bytesL b) : isU32 (prevOf b) := u32_of_bytes (bytes_drop (bytes_take h.2 _) _) (by rw [List.length_drop, List.length_take]; omega)
theorem genU {b : Blk} (h : b.length = 64 ∧ bytesL b) : isU32 (genOf b) := u32_of_bytes (bytes_take h.2 _) (by rw [List.length_take]; omega)
theorem gr_u32 {g : Int} : ∀ {l : List Blk} {a : Int}, okBlks l → isU32 a → isU32 (l.foldl (fun a b => if genOf b = g then mxI (mxI a (saltOf b)) (prevOf b) else a) a)
  | [], _, _, h => h
  | c :: l, a, hl, h => by
    rw [List.foldl_cons]
    refine gr_u32 (l := l) (fun b hb => hl b (by simp [hb])) ?_
    have h1 := saltU (hl c (by simp))
    have h2 := prevU (hl c (by simp))
    split
    · have := mxI_le a (saltOf c)
      exact ⟨Int.le_trans h.1 (Int.le_trans this.1 (mxI_le _ _).1), mxI_le2 (mxI_le2 h.2 h1.2) h2.2⟩
    · exact h
theorem grOf_u32 {g : Int} {l : List Blk} (hl : okBlks l) : isU32 (grOf g l) := gr_u32 hl ⟨by decide, by decide⟩

theorem get4 {b : Blk} (h : b.length = 64 ∧ bytesL b) : F_journal_get mx ((b.take 4).drop 0) = some (genOf b) := get_ok (bytes_take h.2 _) (by rw [List.drop_zero, List.length_take]; omega)
theorem get12 {b : Blk} (h : b.length = 64 ∧ bytesL b) : F_journal_get mx ((b.take 12).drop 8) = some (saltOf b) := get_ok (bytes_drop (bytes_take h.2 _) _) (by rw [List.length_drop, List.length_take]; omega)
theorem get16 {b : Blk} (h : b.length = 64 ∧ bytesL b) : F_journal_get mx ((b.take 16).drop 12) = some (prevOf b) := get_ok (bytes_drop (bytes_take h.2 _) _) (by rw [List.length_drop, List.length_take]; omega)

/-- What reading a disk's blocks yields: the records, how many blocks, the last number, the greatest one. -/
def logOf (g : Int) (l : List Blk) : List (List Int) × Int × Int × Int :=
  ((rd g (l.length + 1) l [] 0 0).2.1, (((rd g (l.length + 1) l [] 0 0).2.2.1 : Nat) : Int), (rd g (l.length + 1) l [] 0 0).2.2.2, grOf g (rd g (l.length + 1) l [] 0 0).1)
def readS (d : List Int) (g f m : Int) : List (List Int) × Int × Int × Int × Int :=
  if okD d then (if areaOk d f m then (if g = 0 then ([], 0, 0, 0, 2) else
    ((logOf g (blks d f.toNat m.toNat)).1, (logOf g (blks d f.toNat m.toNat)).2.1, (logOf g (blks d f.toNat m.toNat)).2.2.1, (logOf g (blks d f.toNat m.toNat)).2.2.2, 0)) else ([], 0, 0, 0, 2)) else ([], 0, 0, 0, 20)
/-- The greatest generation with which blocks begin. -/
def greatOf (l : List Blk) : Int := l.foldl (fun a b => mxI a (genOf b)) 0
theorem great_fold : ∀ {l : List Blk} {a : Int}, a ≤ l.foldl (fun a b => mxI a (genOf b)) a ∧ ∀ b ∈ l, genOf b ≤ l.foldl (fun a b => mxI a (genOf b)) a
  | [], a => ⟨Int.le_refl _, fun b hb => by cases hb⟩
  | c :: l, a => by
    rw [List.foldl_cons]
    obtain ⟨h1, h2⟩ := great_fold (l := l) (a := mxI a (genOf c))
    refine ⟨Int.le_trans (mxI_le _ _).1 h1, fun b hb => ?_⟩
    rcases List.mem_cons.1 hb with rfl | hb
    · exact Int.le_trans (mxI_le _ _).2 h1
    · exact h2 b hb
theorem great_le {l : List Blk} {b : Blk} (hb : b ∈ l) : genOf b ≤ greatOf l := (great_fold (l := l) (a := 0)).2 b hb
theorem great_u32 {l : List Blk} (hl : okBlks l) : isU32 (greatOf l) := by
  have : ∀ {l : List Blk} {a : Int}, okBlks l → isU32 a → isU32 (l.foldl (fun a b => mxI a (genOf b)) a) := by
    intro l
    induction l with
    | nil => intro a _ h; exact h
    | cons c l ih =>
      intro a hl h
      rw [List.foldl_cons]
      have h1 := genU (hl c (by simp))
      exact ih (fun b hb => hl b (by simp [hb])) ⟨Int.le_trans h.1 (mxI_le _ _).1, mxI_le2 h.2 h1.2⟩
  exact this hl ⟨by decide, by decide⟩
def greatS (d : List Int) (f m : Int) : Int × Int := if okD d then (if areaOk d f m then (greatOf (blks d f.toNat m.toNat), 0) else (0, 2)) else (0, 20)
/-- The blocks of one more record. -/
def nextS (rs : List (List Int)) (la gr g : Int) (r : List Int) : List Blk × Int :=
  if g = 0 then ([], 2) else if 65536 < r.length then ([], 3) else if 1048576 ≤ rs.length then ([], 4) else if mxI la gr = 4294967295 then ([], 9) else (frame g ((rs.length + 1 : Nat) : Int) (mxI la gr + 1) la r, 0)
/-! ### a record more, and one that is broken off -/
theorem torn {g : Int} {l : List Blk} (hl : okBlks l) (hlen : l.length ≤ 4096) (hg : isU32 g) {r : List Int} (hr : bytesL r) {fr : List Blk} (hn : nextS (logOf g l).1 (logOf g l).2.2.1 (logOf g l).2.2.2 g r = (fr, 0)) (hroom : ((logOf g l).2.1).toNat + fr.length ≤ l.length) {t : Nat} (ht : t ≤ fr.length) :
    okBlks (l.take ((logOf g l).2.1).toNat ++ (fr.take t ++ l.drop (((logOf g l).2.1).toNat + t))) ∧
    (if t = fr.length then logOf g (l.take ((logOf g l).2.1).toNat ++ (fr.take t ++ l.drop (((logOf g l).2.1).toNat + t))) =
        ((logOf g l).1 ++ [r], (logOf g l).2.1 + (fr.length : Int), mxI (logOf g l).2.2.1 (logOf g l).2.2.2 + 1, grOf g (l.drop (((logOf g l).2.1).toNat + t)))
      else logOf g (l.take ((logOf g l).2.1).toNat ++ (fr.take t ++ l.drop (((logOf g l).2.1).toNat + t))) =
        ((logOf g l).1, (logOf g l).2.1, (logOf g l).2.2.1, grOf g (fr.take t ++ l.drop (((logOf g l).2.1).toNat + t)))) := by
  obtain ⟨P, l', rs', la', q1, q2, q3, q4, q5, q6⟩ := ch_of_rd (g := g) (l.length + 1) l [] 0 0 hl (by omega)
  have hlog : logOf g l = (rs', ((P.length : Nat) : Int), la', grOf g l') := by
    unfold logOf
    rw [q1]
    simp
  rw [hlog] at hn hroom ⊢
  dsimp only at hn hroom ⊢
  rw [Int.toNat_natCast] at hroom ⊢
  have hla : isU32 la' := q5 ⟨by decide, by decide⟩
  have hl' : okBlks l' := fun b hb => hl b (by rw [q2]; simp [hb])
  have hgr : isU32 (grOf g l') := grOf_u32 hl'
  have hPl : l.take P.length = P := by rw [q2, List.take_left']; rfl
  have hdl : ∀ k, l.drop (P.length + k) = l'.drop k := fun k => by rw [q2, ← List.drop_drop, List.drop_left']; rfl
  have hrsl : rs'.length ≤ 4096 := by
    have := congrArg List.length q2
    rw [List.length_append] at this
    simp at q6
    omega
  -- the new blocks
  unfold nextS at hn
  by_cases h0 : g = 0
  · rw [if_pos h0] at hn; cases hn
  rw [if_neg h0] at hn
  by_cases h1 : 65536 < r.length
  · rw [if_pos h1] at hn; cases hn
  rw [if_neg h1] at hn
  by_cases h2 : 1048576 ≤ rs'.length
  · rw [if_pos h2] at hn; cases hn
  rw [if_neg h2] at hn
  by_cases h3 : mxI la' (grOf g l') = 4294967295
  · rw [if_pos h3] at hn; cases hn
  rw [if_neg h3] at hn
  have hfr : fr = frame g ((rs'.length + 1 : Nat) : Int) (mxI la' (grOf g l') + 1) la' r := (congrArg Prod.fst hn).symm
  clear hn
  have hm : 0 ≤ mxI la' (grOf g l') ∧ mxI la' (grOf g l') ≤ 4294967295 := ⟨Int.le_trans hla.1 (mxI_le _ _).1, mxI_le2 hla.2 hgr.2⟩
  have hgm : grOf g l' ≤ mxI la' (grOf g l') := (mxI_le _ _).2
  generalize hS : mxI la' (grOf g l') + 1 = S at hfr
  have hSu : isU32 S := ⟨by omega, by omega⟩
  have hSg : grOf g l' < S := by omega
  have hfl : fr.length = partsOf r := by rw [hfr, frame_len]
  have hfok : okBlks fr := by rw [hfr]; exact frame_okB hr
  have hlen2 : l.length = P.length + l'.length := by rw [q2, List.length_append]
  rw [hPl, hdl t]
  have hnew : okBlks (fr.take t ++ l'.drop t) := fun b hb => by
    rcases List.mem_append.1 hb with hb | hb
    · exact hfok b (List.mem_of_mem_take hb)
    · exact hl' b (List.mem_of_mem_drop hb)
  have hall : okBlks (P ++ (fr.take t ++ l'.drop t)) := fun b hb => by
    rcases List.mem_append.1 hb with hb | hb
    · exact hl b (by rw [q2]; simp [hb])
    · exact hnew b hb
  refine ⟨hall, ?_⟩
  have hpp := parts_pos r
  have hpl := parts_le (r := r) (by omega)
  by_cases hte : t = fr.length
  · rw [if_pos hte]
    have e1 : fr.take t = fr := by rw [hte, List.take_length]
    rw [e1]
    have hch := q3.snoc (r := r) (s := S) h0 (by omega) hSu hr
    rw [← hfr] at hch
    have hend : opn g (((rs' ++ [r]).length + 1 : Nat) : Int) S (l'.drop t) = none := by
      cases ho : opn g (((rs' ++ [r]).length + 1 : Nat) : Int) S (l'.drop t) with
      | none => rfl
      | some x =>
        exfalso
        obtain ⟨r2, s2, k2⟩ := x
        obtain ⟨g1, g2, g3, g4, g5, g6, g7, g8⟩ := (opn_iff (fun b hb => hl' b (List.mem_of_mem_drop hb))).1 ho
        have hk2 := parts_pos r2
        have hmem : (frame g (((rs' ++ [r]).length + 1 : Nat) : Int) s2 S r2).getD 0 [] ∈ l' := by
          have : (frame g (((rs' ++ [r]).length + 1 : Nat) : Int) s2 S r2).getD 0 [] ∈ frame g (((rs' ++ [r]).length + 1 : Nat) : Int) s2 S r2 := getD_lt (by rw [frame_len]; omega)
          rw [← g8] at this
          rw [← g8]
          exact List.mem_of_mem_drop (List.mem_of_mem_take this)
        have hblk : (frame g (((rs' ++ [r]).length + 1 : Nat) : Int) s2 S r2).getD 0 [] = blk g (((rs' ++ [r]).length + 1 : Nat) : Int) s2 S (partsOf r2) 0 (piece r2 0) := by
          rw [getD_some (by rw [frame_len]; omega)]; simp [frame]
        rw [hblk] at hmem
        have := (gr_le hmem (blk_gen hg)).2
        rw [blk_prev hSu] at this
        omega
    have hrd := rd_of_ch (fun b hb => hl' b (List.mem_of_mem_drop hb)) hch hend ((P ++ fr ++ l'.drop t).length + 1) 0 (by simp only [List.length_append]; omega)
    unfold logOf
    rw [← List.append_assoc, hrd]
    simp only [Nat.zero_add, List.length_append]
    congr 2
  · rw [if_neg hte]
    have hend : opn g ((rs'.length + 1 : Nat) : Int) la' (fr.take t ++ l'.drop t) = none := by
      by_cases ht0 : t = 0
      · subst ht0
        simpa using q4
      · cases ho : opn g ((rs'.length + 1 : Nat) : Int) la' (fr.take t ++ l'.drop t) with
        | none => rfl
        | some x =>
          exfalso
          obtain ⟨r2, s2, k2⟩ := x
          obtain ⟨g1, g2, g3, g4, g5, g6, g7, g8⟩ := (opn_iff hnew).1 ho
          have hk2 := parts_pos r2
          have hk2l := parts_le g3
          have get : ∀ j, j < k2 → (fr.take t ++ l'.drop t).getD j [] = blk g ((rs'.length + 1 : Nat) : Int) s2 la' (partsOf r2) j (piece r2 j) := fun j hj => by
            have e1 : ((fr.take t ++ l'.drop t).take k2).getD j [] = (fr.take t ++ l'.drop t).getD j [] := by
              rw [getD_some (by rw [List.length_take]; omega), getD_some (by omega), List.getElem_take]
            rw [← e1, g8, getD_some (by rw [frame_len]; omega)]
            simp [frame]
          have hft : (fr.take t).length = t := by rw [List.length_take]; omega
          have get0 : (fr.take t ++ l'.drop t).getD 0 [] = blk g ((rs'.length + 1 : Nat) : Int) S la' (partsOf r) 0 (piece r 0) := by
            rw [getD_some (by rw [List.length_append, hft]; omega), List.getElem_append_left (by omega), List.getElem_take]
            simp [hfr, frame]
          have h00 := get 0 (by omega)
          rw [get0] at h00
          have hs : S = s2 := by
            have := congrArg saltOf h00
            rwa [blk_salt hSu, blk_salt g4] at this
          have hc : partsOf r = partsOf r2 := by
            have := congrArg countOf h00
            rw [blk_count (by omega), blk_count (by omega)] at this
            omega
          -- the first block that was not written
          have htk : t < k2 := by omega
          have ht2 := get t htk
          have hle : t < (fr.take t ++ l'.drop t).length := by omega
          have hmem : (fr.take t ++ l'.drop t).getD t [] ∈ l' := by
            rw [getD_some hle, List.getElem_append_right (by omega)]
            exact List.mem_of_mem_drop (List.getElem_mem _)
          rw [ht2] at hmem
          have := (gr_le hmem (blk_gen hg)).1
          rw [blk_salt g4] at this
          omega
    have hrd := rd_of_ch hnew q3 hend ((P ++ (fr.take t ++ l'.drop t)).length + 1) 0 (by simp only [List.length_append]; omega)
    unfold logOf
    rw [hrd]
    simp
end Go.Proofs.Ytdnfmkkaojafhaa
