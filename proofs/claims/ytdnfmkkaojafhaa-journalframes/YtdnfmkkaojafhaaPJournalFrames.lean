/- The plain law of JournalFrames. -/
import Derived.Test.YtdnfmkkaojafhaaKRa
namespace Go.Proofs.Ytdnfmkkaojafhaa.journalFrames
open Go.Abs
set_option maxRecDepth 100000

theorem heavy_some (l : List (List Int)) (hl : l.length ≤ 1000000000000000000) : ∃ b, F_ref22_Heavy mx l = some b ∧ (b = false → l.length ≤ 5000) := by
  obtain ⟨r, hr, _⟩ := iter_inv (f := F_ref22_Heavy.l58 mx l) (fun s => ∃ k : Nat, s.2 = (k : Int) ∧ k ≤ l.length) (fun s => l.length - s.2.toNat) (fun _ => True) ((0 : Int), (0 : Int)) ⟨0, rfl, Nat.zero_le _⟩ (by
    simp only [Int.toNat_zero, Nat.sub_zero]; exact lt_N0 hl) (fun s ⟨k, e, hk⟩ => by
    obtain ⟨s, i⟩ := s
    dsimp only at e
    subst e
    by_cases h1 : k < l.length
    · by_cases h2 : (k : Int) < 10000
      · left
        have h2' : decide ((k : Int) < 10000) = true := by simpa using h2
        refine ⟨_, by simp only [F_ref22_Heavy.l58, F_ref22_Heavy.s232, ltd h1, h2', lez, Bool.and_self, cond_true, Option.bind_some]; rfl, ⟨k + 1, by dsimp only; rw [inc64 (by omega)], by omega⟩, by dsimp only; rw [inc64 (by omega)]; omega⟩
      · right
        have h2' : decide ((k : Int) < 10000) = false := by simpa using h2
        exact ⟨s, by simp only [F_ref22_Heavy.l58, F_ref22_Heavy.s232, ltd h1, h2', cond_true, cond_false, Option.bind_some], trivial⟩
    · right
      have h1' : decide ((k : Int) < (l.length : Int)) = false := by simp; omega
      exact ⟨s, by simp only [F_ref22_Heavy.l58, F_ref22_Heavy.s232, h1', cond_false, Option.bind_some], trivial⟩)
  have hr : iter mx (F_ref22_Heavy.l58 mx l) ((0 : Int), (0 : Int)) = some r := hr
  simp only [F_ref22_Heavy, hr, Option.bind_some]
  by_cases h : 5000 < l.length
  · have : decide ((5000 : Int) < (l.length : Int)) = true := by simp; omega
    exact ⟨true, by rw [this]; rfl, fun h => by cases h⟩
  · have : decide ((5000 : Int) < (l.length : Int)) = false := by simp; omega
    exact ⟨_, by rw [this]; rfl, fun _ => by omega⟩

theorem twin_ok {l : List (List Int)} (hl : l.length ≤ 1000000000) (hb : ∀ p ∈ l, p.length ≤ 140737488351232) : F_ref22_Twin mx l = some l := by
  have := iter_fold (f := F_ref22_Twin.l58 mx l) l [] (fun (s : List (List Int)) x => s ++ [x]) [] (fun k s => (s, (k : Int))) (r := l) (lt_N0 (by omega)) (fun k hk => by
      have hlen : ((l.take k).foldl (fun (s : List (List Int)) x => s ++ [x]) []).length = k := by
        rw [foldl_map' (fun x => x)]; simp; omega
      simp only [F_ref22_Twin.l58, ltd hk, lez, Bool.and_self, cond_true, Int.toNat_natCast, ble_t (hb _ (getD_lt hk)), hlen, List.length_singleton]
      rw [ble_t (show k + 1 ≤ 4294967296 by omega), inc64 (by omega)]
      rfl)
      (by
        simp only [F_ref22_Twin.l58, nltd, cond_false]
        rw [foldl_map' (fun x => x)]; simp)
  have this : iter mx (F_ref22_Twin.l58 mx l) (([] : List (List Int)), (0 : Int)) = some l := this
  simp only [F_ref22_Twin, this, Option.bind_some]

/-- What is opened. -/
def openS (g n p : Int) (l : List Blk) : List Int × Int × Int × Int :=
  if 4096 < l.length then ([], 0, 0, 4) else match l.find? (fun b => !decide (b.length = 64)) with
    | some _ => ([], 0, 0, 3)
    | none => match opn g n p l with | some (r, s, k) => (r, s, (k : Int), 0) | none => ([], 0, 0, 6)
theorem Open_all {g n p : Int} (hg : 0 ≤ g) (hn : 0 ≤ n) (hp : 0 ≤ p) {l : List Blk} (hl : ∀ b ∈ l, bytesL b) : F_journal_Open mx (g, n, p, l) = some (openS g n p l) := by
  unfold openS
  simp only [F_journal_Open]
  by_cases h : 4096 < l.length
  · rw [decide_eq_true (show (4096 : Int) < (l.length : Int) by omega), if_pos h]; rfl
  · rw [decide_eq_false (show ¬ (4096 : Int) < (l.length : Int) by omega), cond_false, if_neg h]
    have hr := iter_findL (f := F_journal_Open.l58 mx l (l.length : Int)) l [] (fun b => decide (b.length = 64)) (fun k => (k : Int)) (fun _ => .inl ((0 : Int), (0 : Int), (3 : Int))) (.inr ()) (lt_N0 (by omega))
      (fun k hk hp => by
        have e : (((l.getD k []).length : Int) != 64) = false := by rw [of_decide_eq_true hp]; rfl
        simp only [F_journal_Open.l58, ltd hk, lez, Bool.and_self, cond_true, Int.toNat_natCast, e, cond_false]
        rw [inc64 (by omega)])
      (fun k hk hp => by
        have hp := of_decide_eq_false hp
        have e : (((l.getD k []).length : Int) != 64) = true := bne_iff_ne.2 fun h => hp (by omega)
        simp only [F_journal_Open.l58, ltd hk, lez, Bool.and_self, cond_true, Int.toNat_natCast, e])
      (by simp only [F_journal_Open.l58, nltd, cond_false])
    have hr : iter mx (F_journal_Open.l58 mx l (l.length : Int)) (0 : Int) = _ := hr
    rw [hr]
    cases hf : l.find? (fun b => !decide (b.length = 64)) with
    | some b => rfl
    | none =>
      have hok : okBlks l := fun b hb => ⟨by have := List.find?_eq_none.1 hf b hb; simpa using this, hl b hb⟩
      simp only [Option.bind_some, open_ok hg hn hp hok (by omega)]
      cases opn g n p l with
      | none => rfl
      | some x => rfl
theorem ROpen_all {g n p : Int} (hg : isU32 g) (hn : isU32 n) (hp : isU32 p) {l : List Blk} (hl : ∀ b ∈ l, bytesL b) : F_ref22_Open mx (g, n, p, l) = some (openS g n p l) := by
  unfold openS
  simp only [F_ref22_Open]
  by_cases h : 4096 < l.length
  · rw [decide_eq_true (show (4096 : Int) < (l.length : Int) by omega), if_pos h]; rfl
  · rw [decide_eq_false (show ¬ (4096 : Int) < (l.length : Int) by omega), cond_false, if_neg h]
    have hr := iter_findL (f := F_ref22_Open.l58 mx l) l [] (fun b => decide (b.length = 64)) (fun k => (k : Int)) (fun _ => .inl ((0 : Int), (0 : Int), (3 : Int))) (.inr ()) (lt_N0 (by omega))
      (fun k hk hp => by
        have e : (((l.getD k []).length : Int) != 64) = false := by rw [of_decide_eq_true hp]; rfl
        simp only [F_ref22_Open.l58, ltd hk, lez, Bool.and_self, cond_true, Int.toNat_natCast, e, cond_false]
        rw [inc64 (by omega)])
      (fun k hk hp => by
        have hp := of_decide_eq_false hp
        have e : (((l.getD k []).length : Int) != 64) = true := bne_iff_ne.2 fun h => hp (by omega)
        simp only [F_ref22_Open.l58, ltd hk, lez, Bool.and_self, cond_true, Int.toNat_natCast, e])
      (by simp only [F_ref22_Open.l58, nltd, cond_false])
    have hr : iter mx (F_ref22_Open.l58 mx l) (0 : Int) = _ := hr
    rw [hr]
    cases hf : l.find? (fun b => !decide (b.length = 64)) with
    | some b => rfl
    | none =>
      have hok : okBlks l := fun b hb => ⟨by have := List.find?_eq_none.1 hf b hb; simpa using this, hl b hb⟩
      simp only [Option.bind_some, ropen_ok hg hn hp hok (by omega)]
      cases opn g n p l with
      | none => rfl
      | some x => rfl

theorem openS_len {g n p : Int} {l : List Blk} (hl : ∀ b ∈ l, bytesL b) : (openS g n p l).1.length ≤ 65536 := by
  unfold openS
  split
  · simp
  · rename_i h
    split
    · simp
    · rename_i hf
      have hok : okBlks l := fun b hb => ⟨by have := List.find?_eq_none.1 hf b hb; simpa using this, hl b hb⟩
      split
      · rename_i r s k ho
        unfold opn at ho
        split at ho
        · rename_i h2; cases ho; exact h2.2.2.2.2.2.2.1
        · cases ho
      · simp

theorem bump (f : Fu → Int × List Int → Option (Step (Int × List Int) Unit)) (hf : ∀ (k : Nat) (l : List Int), k < l.length → l.length ≤ 1000000000000000000 → f mx ((k : Int), l) = some (.next (((k + 1 : Nat) : Int), l.set k (IntKind.u8.wrap (l.getD k 0 + 1)))))
    (he : ∀ l : List Int, f mx ((l.length : Int), l) = some (.fin ())) (l : List Int) (hl : l.length ≤ 1000000000000000000) : iter mx (f mx) ((0 : Int), l) = some () := by
  obtain ⟨r, hr, _⟩ := iter_inv (f := f mx) (fun s => ∃ k : Nat, s.1 = (k : Int) ∧ k ≤ l.length ∧ s.2.length = l.length) (fun s => l.length - s.1.toNat) (fun _ => True) ((0 : Int), l) ⟨0, rfl, Nat.zero_le _, rfl⟩ (by
    simp only [Int.toNat_zero, Nat.sub_zero]; exact lt_N0 hl) (fun s ⟨k, e, hk, hs⟩ => by
    obtain ⟨i, s⟩ := s
    dsimp only at e hs
    subst e
    by_cases h1 : k < l.length
    · left
      exact ⟨_, hf k s (by omega) (by omega), ⟨k + 1, rfl, by omega, by simp [hs]⟩, by dsimp only; omega⟩
    · right
      have : k = s.length := by omega
      subst this
      exact ⟨_, he s, trivial⟩)
  exact hr

theorem main (g n s p : Int) (r : List Int) (l : List (List Int)) (hg : isU32 g) (hn : isU32 n) (hs : isU32 s) (hp : isU32 p) (hr : r.length ≤ 140737488351232) (hl : l.length ≤ 140737488351232) (hb : ∀ p ∈ l, p.length ≤ 140737488351232) (hbb : ∀ b ∈ l, bytesL b) :
    F_law22_JournalFrames mx (g, n, s, p, r, l) = some true := by
  simp only [F_law22_JournalFrames]
  by_cases h1 : 100000 < r.length
  · rw [decide_eq_true (show (100000 : Int) < (r.length : Int) by omega)]; rfl
  rw [decide_eq_false (show ¬ (100000 : Int) < (r.length : Int) by omega), cond_false]
  obtain ⟨b, hb', hb2⟩ := heavy_some l (by omega)
  rw [hb', Option.bind_some]
  cases b with
  | true => rfl
  | false =>
  have hl5 := hb2 rfl
  rw [cond_false, ble_t (by omega), cond_true, twin_ok (by omega) hb, Option.bind_some, frame_ok hg.1 hn.1 hs.1 hp.1 hr, refFrame_ok hg hn hs hp hr, Open_all hg.1 hn.1 hp.1 hbb, ROpen_all hg hn hp hbb]
  simp only [Option.bind_some]
  generalize hF : (if g = 0 ∨ n = 0 then ([], (2 : Int)) else if 65536 < r.length then ([], 3) else (frame g n s p r, 0)) = fr
  have hfl : fr.1.length ≤ 1000000 ∧ ∀ b ∈ fr.1, b.length ≤ 64 := by
    rw [← hF]
    split
    · simp
    · split
      · simp
      · rename_i h2
        refine ⟨by rw [frame_len]; have := parts_le (r := r) (by omega); omega, fun b hb => ?_⟩
        simp only [frame, List.mem_map] at hb
        obtain ⟨i, _, rfl⟩ := hb
        rw [blk_len (piece_len _ _)]; exact Nat.le_refl _
  have e4 : ∀ k, k < fr.1.length → iter mx (F_law22_JournalFrames.l523922 mx fr (k : Int)) (0 : Int) = some () := fun k hk => by
    have hbk : (fr.1.getD k []).length ≤ 64 := hfl.2 _ (getD_lt hk)
    have := iter_fold (f := F_law22_JournalFrames.l523922 mx fr (k : Int)) (fr.1.getD k []) 0 (fun (s : Unit) _ => s) () (fun k _ => (k : Int)) (r := ()) (lt_N0 (by omega)) (fun j hj => by
        simp only [F_law22_JournalFrames.l523922, ltd hk, lez, Bool.and_self, cond_true, Int.toNat_natCast, blt_t hk, ltd hj]
        rw [inc64 (by omega)])
        (by simp only [F_law22_JournalFrames.l523922, ltd hk, lez, Bool.and_self, cond_true, Int.toNat_natCast, blt_t hk, nltd, cond_false])
    exact this
  have e3 : iter mx (F_law22_JournalFrames.l8186 mx fr) (0 : Int) = some () := by
    have := iter_fold (f := F_law22_JournalFrames.l8186 mx fr) fr.1 [] (fun (s : Unit) _ => s) () (fun k _ => (k : Int)) (r := ()) (lt_N0 (by omega)) (fun j hj => by
        simp only [F_law22_JournalFrames.l8186, ltd hj, cond_true, e4 j hj, Option.bind_some]
        rw [inc64 (by omega)])
        (by simp only [F_law22_JournalFrames.l8186, nltd, cond_false])
    exact this
  have e2 : iter mx (F_law22_JournalFrames.l16378 mx) ((0 : Int), (openS g n p l).1) = some () := bump F_law22_JournalFrames.l16378 (fun k l hk hl => by
    simp only [F_law22_JournalFrames.l16378, ltd hk, lez, Bool.and_self, cond_true, Int.toNat_natCast, blt_t hk]
    rw [inc64 (by omega)]) (fun l => by simp only [F_law22_JournalFrames.l16378, nltd, cond_false]) _ (by have := openS_len (g := g) (n := n) (p := p) hbb; omega)
  rw [same_ok (by omega), same_ok (by omega)]
  simp only [Option.bind_some, decide_true, Bool.not_true, cond_false, bne_self_eq_false, beq_self_eq_true, e3, e2, cond_true]
theorem pure (p : Int × Int × Int × Int × (List Int) × (List (List Int))) (h : wfIns F_law22_JournalFrames.sig.pars p) : F_law22_JournalFrames mx p = some true := by
  obtain ⟨g, n, s, p, r, l⟩ := p
  exact main g n s p r l (wfu32 h.1.1) (wfu32 h.2.1.1) (wfu32 h.2.2.1.1) (wfu32 h.2.2.2.1.1) h.2.2.2.2.1.1.2 h.2.2.2.2.2.1.1.2 (fun p hp => (h.2.2.2.2.2.1.1.1 p hp).2) (fun b hb x hx => wfu8 ((h.2.2.2.2.2.1.1.1 b hb).1 x hx))
end Go.Proofs.Ytdnfmkkaojafhaa.journalFrames
