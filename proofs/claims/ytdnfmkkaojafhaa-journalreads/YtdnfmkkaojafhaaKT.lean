/- A record more on a disk. -/
import Derived.Test.YtdnfmkkaojafhaaKJd
namespace Go.Proofs.Ytdnfmkkaojafhaa
open Go.Abs
set_option maxRecDepth 100000
theorem alive_ok : F_law22_alive mx () = some true := by kernel_rfl
theorem puts_ok {l : List Blk} {f : Nat} (hl : l.length ≤ 1000000) (hf : f ≤ 1000000) : F_law22_puts mx (l, (f : Int)) = some (putsAt l f) := by
  have := iter_count (f := F_law22_puts.l58 mx l (f : Int)) (fun i => ((putsAt l f).take i, (i : Int))) l.length (r := putsAt l f) (lt_N0 (by omega)) (fun i hi => by
    have e1 : IntKind.i64.wrap ((f : Int) + (i : Int)) = ((f + i : Nat) : Int) := by rw [w64 (by omega) (by omega)]; omega
    have hp := putsAt_len l f
    have c1 : Nat.ble (((putsAt l f).take i).length + 1) 4294967296 = true := ble_t (by rw [List.length_take]; omega)
    simp only [F_law22_puts.l58, ltd hi, lez, Bool.and_self, cond_true, Int.toNat_natCast, e1, List.length_singleton, c1]
    rw [inc64 (by omega), take_succ' (l := putsAt l f) (by omega) (0, []), putsAt_get hi])
    (by
      have : (putsAt l f).take l.length = putsAt l f := by rw [← putsAt_len l f, List.take_length]
      simp only [F_law22_puts.l58, nltd, cond_false, this])
  have this : iter mx (F_law22_puts.l58 mx l (f : Int)) (([] : List (Int × List Int)), (0 : Int)) = _ := this
  simp only [F_law22_puts, this, Option.bind_some]
theorem same2_ok {a b : List (List Int)} {r : List Int} {t : Bool} (ha : a.length ≤ 1000000) (hb : b.length ≤ 1000000) : F_law22_same mx (a, b, r, t) = some (if t then decide (a = b ++ [r]) else decide (a = b)) := by
  cases t with
  | false =>
    simp only [F_law22_same, Bool.not_false, cond_true, same_ok (show a.length ≤ 1000000000000000000 by omega), Option.bind_some]
    rfl
  | true =>
    rw [if_pos rfl]
    have e1 : IntKind.i64.wrap ((b.length : Int) + 1) = ((b.length + 1 : Nat) : Int) := inc64 (by omega)
    simp only [F_law22_same, Bool.not_true, cond_false, e1, ieq]
    by_cases h : a.length = b.length + 1
    · have c1 : decide ((b.length : Int) ≤ (a.length : Int)) = true := decide_eq_true (by omega)
      rw [decide_eq_true (show (a.length : Int) = ((b.length + 1 : Nat) : Int) by omega)]
      simp only [cond_true, lez, c1, Int.le_refl, decide_true, Bool.and_self, Int.toNat_natCast, List.drop_zero]
      rw [same_ok (by rw [List.length_take]; omega), Option.bind_some]
      have hsplit : a = a.take b.length ++ [a.getD b.length []] := by
        conv => lhs; rw [← List.take_length (l := a), h]
        exact take_succ' (by omega) []
      by_cases h2 : a.take b.length = b
      · rw [decide_eq_true h2]
        simp only [cond_true, ltd (show b.length < a.length by omega), Bool.and_self]
        by_cases h3 : a.getD b.length [] = r
        · have : a = b ++ [r] := by rw [← h3]; conv => lhs; rw [hsplit, h2]
          rw [h3, beq_self_eq_true, decide_eq_true this]
        · have e3 : (a.getD b.length [] == r) = false := by simpa using h3
          have : ¬ a = b ++ [r] := fun hh => h3 (by rw [hh, getD_some (by simp)]; simp)
          rw [e3, decide_eq_false this]
      · have : ¬ a = b ++ [r] := fun hh => h2 (by rw [hh, List.take_left']; rfl)
        rw [decide_eq_false h2, decide_eq_false this]; rfl
    · have : ¬ a = b ++ [r] := fun hh => h (by rw [hh]; simp)
      rw [decide_eq_false (show ¬ (a.length : Int) = ((b.length + 1 : Nat) : Int) by omega), decide_eq_false this]; rfl

/-- What a log is bounded by. -/
theorem log_bd {g : Int} {l : List Blk} (hl : okBlks l) (hlen : l.length ≤ 4096) : ∃ B : Nat, (logOf g l).2.1 = (B : Int) ∧ B ≤ l.length ∧ (logOf g l).1.length ≤ 4096 ∧ isU32 (logOf g l).2.2.1 ∧ isU32 (logOf g l).2.2.2 := by
  obtain ⟨P, l', rs', la', q1, q2, q3, q4, q5, q6⟩ := ch_of_rd (g := g) (l.length + 1) l [] 0 0 hl (by omega)
  unfold logOf
  rw [q1]
  have h := congrArg List.length q2
  rw [List.length_append] at h
  exact ⟨0 + P.length, rfl, by omega, by simp at q6 ⊢; omega, q5 ⟨by decide, by decide⟩, grOf_u32 fun b hb => hl b (by rw [q2]; simp [hb])⟩
theorem next_blks {rs : List (List Int)} {la gr g : Int} {r : List Int} (hr : bytesL r) {fr : List Blk} (h : nextS rs la gr g r = (fr, 0)) : okBlks fr ∧ g ≠ 0 ∧ fr.length ≤ 1525 := by
  unfold nextS at h
  by_cases h0 : g = 0
  · rw [if_pos h0] at h; cases h
  rw [if_neg h0] at h
  by_cases h1 : 65536 < r.length
  · rw [if_pos h1] at h; cases h
  rw [if_neg h1] at h
  by_cases h2 : 1048576 ≤ rs.length
  · rw [if_pos h2] at h; cases h
  rw [if_neg h2] at h
  by_cases h3 : mxI la gr = 4294967295
  · rw [if_pos h3] at h; cases h
  rw [if_neg h3] at h
  cases h
  exact ⟨frame_okB hr, h0, by rw [frame_len]; exact parts_le (by omega)⟩

/-- The first of a record's blocks are written: what is read then. -/
theorem written {d : List Int} (hd : bytesL d) (hok : okD d) {f m : Int} (ha : areaOk d f m) {g : Int} (hg : isU32 g) {r : List Int} (hr : bytesL r) {fr : List Blk} {B : Nat} (hB : (logOf g (blks d f.toNat m.toNat)).2.1 = (B : Int))
    (hn : nextS (logOf g (blks d f.toNat m.toNat)).1 (logOf g (blks d f.toNat m.toNat)).2.2.1 (logOf g (blks d f.toNat m.toNat)).2.2.2 g r = (fr, 0)) (hroom : B + fr.length ≤ m.toNat) {t : Int} (ht0 : 0 ≤ t) (ht : t ≤ (fr.length : Int)) :
    ∃ d', F_disk_Do mx (d, putsAt fr (f.toNat + B), t) = some (d', 0) ∧ d'.length = d.length ∧ bytesL d' ∧
      (if t = (fr.length : Int) then ∃ G, logOf g (blks d' f.toNat m.toNat) = ((logOf g (blks d f.toNat m.toNat)).1 ++ [r], ((B + fr.length : Nat) : Int), mxI (logOf g (blks d f.toNat m.toNat)).2.2.1 (logOf g (blks d f.toNat m.toNat)).2.2.2 + 1, G)
        else ∃ G, logOf g (blks d' f.toNat m.toNat) = ((logOf g (blks d f.toNat m.toNat)).1, (B : Int), (logOf g (blks d f.toNat m.toNat)).2.2.1, G)) := by
  obtain ⟨a1, a2, a3, a4⟩ := id ha
  have hN := hok.2.1
  obtain ⟨hfb, hg0, hfl⟩ := next_blks hr hn
  have hl := blks_ok hd (f := f.toNat) (m := m.toNat) (by omega)
  have hf64 : ∀ b ∈ fr, b.length = 64 := fun b hb => (hfb b hb).1
  have hputs := putsAt_ok (d := d) (f := f.toNat + B) hf64 (by omega)
  obtain ⟨k, rfl⟩ := Int.eq_ofNat_of_zero_le ht0
  have hk : k ≤ fr.length := by omega
  have hdo := do_disk (d := d) (l := putsAt fr (f.toNat + B)) (m := (k : Int)) (by rw [putsAt_len]; omega)
  have hs : doS d (putsAt fr (f.toNat + B)) (k : Int) = (wr d ((putsAt fr (f.toNat + B)).take k), 0) := by
    simp only [doS, if_pos hok, if_pos (putsErr_ok.2 hputs), if_pos (show 0 ≤ (k : Int) ∧ (k : Int) ≤ ((putsAt fr (f.toNat + B)).length : Int) by rw [putsAt_len]; omega), Int.toNat_natCast]
  have hwl : (wr d ((putsAt fr (f.toNat + B)).take k)).length = d.length := wr_len fun p hp => hputs p (List.mem_of_mem_take hp)
  have hbl := blks_puts (d := d) (f := f.toNat) (m := m.toNat) (B := B) (t := k) hf64 (by omega) (by omega) hk
  have htorn := torn hl (by rw [blks_len]; omega) hg hr hn (by rw [hB, blks_len, Int.toNat_natCast]; exact hroom) hk
  rw [hB, Int.toNat_natCast, ← hbl] at htorn
  refine ⟨_, by rw [hdo, hs], hwl, ?_, ?_⟩
  · -- bytes
    have hb1 : ∀ {l : List Put} {e : List Int}, bytesL e → (∀ p ∈ l, bytesL p.2) → bytesL (wr e l) := by
      intro l
      induction l with
      | nil => intro e he _; exact he
      | cons p l ih =>
        intro e he hp
        exact ih (e := wr1 e p) (bytes_app (bytes_app (bytes_take he _) (hp p (by simp))) (bytes_drop he _)) fun q hq => hp q (by simp [hq])
    refine hb1 hd fun p hp => ?_
    have hp := List.mem_of_mem_take hp
    obtain ⟨i, hi, rfl⟩ := List.mem_iff_getElem.1 hp
    rw [putsAt_len] at hi
    have := putsAt_get (f := f.toNat + B) hi
    rw [getD_some (by rw [putsAt_len]; exact hi)] at this
    rw [this]
    exact (hfb _ (getD_lt hi)).2
  · by_cases hke : k = fr.length
    · rw [if_pos (by omega)]
      have := htorn.2
      rw [if_pos hke] at this
      exact ⟨_, by rw [this]; congr 2⟩
    · rw [if_neg (by omega)]
      have := htorn.2
      rw [if_neg hke] at this
      exact ⟨_, this⟩
theorem readS_ok {d : List Int} {g f m : Int} (h : (readS d g f m).2.2.2.2 = 0) : okD d ∧ areaOk d f m ∧ g ≠ 0 := by
  unfold readS at h
  by_cases h1 : okD d
  · rw [if_pos h1] at h
    by_cases h2 : areaOk d f m
    · rw [if_pos h2] at h
      by_cases h3 : g = 0
      · rw [if_pos h3] at h; cases h
      · exact ⟨h1, h2, h3⟩
    · rw [if_neg h2] at h; cases h
  · rw [if_neg h1] at h; cases h
theorem readS_bad {d : List Int} {g f m : Int} (h : (readS d g f m).2.2.2.2 ≠ 0) : (readS d g f m).1 = [] := by
  unfold readS at h ⊢
  by_cases h1 : okD d
  · rw [if_pos h1] at h ⊢
    by_cases h2 : areaOk d f m
    · rw [if_pos h2] at h ⊢
      by_cases h3 : g = 0
      · rw [if_pos h3]
      · rw [if_neg h3] at h; exact absurd rfl h
    · rw [if_neg h2]
  · rw [if_neg h1]
theorem readS_val {d : List Int} {g f m : Int} (h1 : okD d) (h2 : areaOk d f m) (h3 : g ≠ 0) : readS d g f m = ((logOf g (blks d f.toNat m.toNat)).1, (logOf g (blks d f.toNat m.toNat)).2.1, (logOf g (blks d f.toNat m.toNat)).2.2.1, (logOf g (blks d f.toNat m.toNat)).2.2.2, 0) := by
  unfold readS
  rw [if_pos h1, if_pos h2, if_neg h3]
theorem okD_len {d e : List Int} (h : e.length = d.length) (hd : okD d) : okD e := by unfold okD at hd ⊢; rw [h]; exact hd
theorem area_len {d e : List Int} (h : e.length = d.length) {f m : Int} (hd : areaOk d f m) : areaOk e f m := by unfold areaOk at hd ⊢; rw [h]; exact hd
end Go.Proofs.Ytdnfmkkaojafhaa
