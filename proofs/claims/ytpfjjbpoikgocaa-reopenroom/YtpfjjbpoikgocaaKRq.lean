/- A disk that is opened again: what is written in part. -/
import Derived.Test.YtpfjjbpoikgocaaKRp
import Derived.Test.YtpfjjbpoikgocaaKBy
namespace Go.Proofs.Ytpfjjbpoikgocaa
open Go.Abs
set_option maxRecDepth 100000
theorem putsAt_bytes {l : List Blk} (hl : okBlks l) (f : Nat) : ∀ p ∈ putsAt l f, bytesL p.2 := fun p hp => by
  obtain ⟨i, hi, rfl⟩ := List.mem_iff_getElem.1 hp
  have hi' := hi
  rw [putsAt_len] at hi'
  have := putsAt_get (f := f) hi'
  rw [getD_some hi] at this
  rw [this]
  exact (hl _ (getD_lt hi')).2
theorem halfN_len {d e : List Int} (h : e.length = d.length) : halfN e = halfN d := by unfold halfN; rw [h]
theorem areaF_len {d e : List Int} (h : e.length = d.length) (a : Int) : areaF e a = areaF d a := by unfold areaF; rw [halfN_len h]
/-- Blocks elsewhere stay. -/
theorem blks_apart {d : List Int} {l : List Blk} {f : Nat} (hl : ∀ b ∈ l, b.length = 64) (hf : f + l.length ≤ d.length / 64) {t : Nat} (ht : t ≤ l.length) {x m : Nat} (hx : x + m ≤ d.length / 64) (ha : x + m ≤ f ∨ f + l.length ≤ x) :
    blks (wr d ((putsAt l f).take t)) x m = blks d x m := by
  unfold blks
  refine List.map_congr_left fun i hi => ?_
  have hi := List.mem_range.1 hi
  rw [block_puts hl hf (by omega) t ht, if_neg (by omega)]
theorem do_ok {d : List Int} {l : List Put} (h : okD d) (hp : ∀ p ∈ l, putErr d p = 0) (hl : l.length ≤ 1000000000000000000) {t : Nat} (ht : t ≤ l.length) : F_disk_Do mx (d, l, (t : Int)) = some (wr d (l.take t), 0) := by
  rw [do_disk hl]
  unfold doS
  rw [if_pos h, if_pos (putsErr_ok.2 hp), if_pos (by omega), Int.toNat_natCast]
/-- What holds of writes that may be done. -/
structure Puts (d : List Int) (p : List Put) : Prop where
  ok : ∀ q ∈ p, putErr d q = 0
  by_ : ∀ q ∈ p, bytesL q.2
  len : p.length ≤ 100000
theorem Puts.wr {d : List Int} {p : List Put} (h : Puts d p) (hb : bytesL d) (t : Nat) : bytesL (wr d (p.take t)) ∧ (wr d (p.take t)).length = d.length :=
  ⟨wr_bytes' hb fun q hq => h.by_ q (List.mem_of_mem_take hq), wr_len fun q hq => h.ok q (List.mem_of_mem_take hq)⟩
theorem app_torn {d : List Int} (hb : bytesL d) {g a : Int} {v : Img} (h : St d g a v) {cs : List Chg} (hw : ∀ c ∈ cs, wfC c ∧ bytesC c) {p : List Put} (he : appS d g a v cs = (p, 0)) :
    Puts d p ∧ chErr cs = 0 ∧ ∃ w, applyL v cs = .inr w ∧ ∀ t, t ≤ p.length → St (wr d (p.take t)) g a (if t = p.length then w else v) ∧ (t < p.length → (logA (wr d (p.take t)) g a).1 = (logA d g a).1) := by
  have hA := areaB_ok hb h.ar h.n3
  have hAl := areaB_len d a
  have hdl := h.ok.2.1
  have hh : halfN d ≤ 4096 := by unfold halfN; omega
  obtain ⟨ha1, ha2, ha3⟩ := area_in h.ar h.n3
  obtain ⟨B, e1, e2, _, e4, e5⟩ := log_bd (g := g) hA (by omega)
  rw [hAl] at e2
  unfold appS at he
  by_cases g1 : (applyS v cs).2.2.2.2.2.2 ≠ 0
  · rw [if_pos g1] at he; exact absurd (congrArg Prod.snd he) g1
  rw [if_neg g1] at he
  obtain ⟨g2, g3, w, g4⟩ := applyS_zero.1 (show (applyS v cs).2.2.2.2.2.2 = 0 by omega)
  by_cases g5 : (nextS (logA d g a).1 (logA d g a).2.2.1 (logA d g a).2.2.2 g (chBytes cs)).2 ≠ 0
  · rw [if_pos g5] at he; exact absurd (congrArg Prod.snd he) g5
  rw [if_neg g5] at he
  have hcb : bytesL (chBytes cs) := chBytes_bytes g3 hw
  obtain ⟨fr, hfr⟩ : ∃ fr, nextS (logA d g a).1 (logA d g a).2.2.1 (logA d g a).2.2.2 g (chBytes cs) = (fr, 0) := ⟨_, Prod.ext rfl (show _ = (0 : Int) by omega)⟩
  rw [hfr] at he
  have e1' : (logA d g a).2.1 = (B : Int) := e1
  rw [e1'] at he
  dsimp only at he
  by_cases g6 : (halfN d : Int) - (B : Int) < (fr.length : Int)
  · rw [if_pos g6] at he; exact absurd (show (9 : Int) = 0 from congrArg Prod.snd he) (by decide)
  rw [if_neg g6, Int.toNat_natCast] at he
  have hp : p = putsAt fr (areaF d a + B) := (congrArg Prod.fst he).symm
  subst hp
  obtain ⟨hfb, hg0, hfl⟩ := next_blks hcb hfr
  have hf64 : ∀ b ∈ fr, b.length = 64 := fun b hb => (hfb b hb).1
  have hputs := putsAt_ok (d := d) (f := areaF d a + B) hf64 (by omega)
  have hP : Puts d (putsAt fr (areaF d a + B)) := ⟨hputs, putsAt_bytes hfb _, by rw [putsAt_len]; omega⟩
  refine ⟨hP, g3, w, g4, fun t ht => ?_⟩
  rw [putsAt_len] at ht ⊢
  have hbl := blks_puts (d := d) (f := areaF d a) (m := halfN d) (B := B) (t := t) hf64 (by omega) (by omega) ht
  have htorn := torn hA (by omega) h.gu hcb hfr (by rw [e1, Int.toNat_natCast, hAl]; omega) ht
  rw [e1, Int.toNat_natCast] at htorn
  have hbl : blks (wr d ((putsAt fr (areaF d a + B)).take t)) (areaF d a) (halfN d) = (areaB d a).take B ++ (fr.take t ++ (areaB d a).drop (B + t)) := hbl
  rw [← hbl] at htorn
  have hlen := (hP.wr hb t).2
  have hb0 := block_puts (d := d) (l := fr) (f := areaF d a + B) hf64 (by omega) (n := 0) (by have := h.n3; omega) t ht
  rw [if_neg (by omega)] at hb0
  generalize wr d ((putsAt fr (areaF d a + B)).take t) = d' at htorn hlen hb0 ⊢
  have hlog : logA d' g a = logOf g (blks d' (areaF d a) (halfN d)) := by unfold logA areaB; rw [areaF_len hlen, halfN_len hlen]
  have key : recsImg (logA d' g a).1 (if t = fr.length then w else v) ∧ (t < fr.length → (logA d' g a).1 = (logA d g a).1) := by
    rw [hlog]
    by_cases ht2 : t = fr.length
    · rw [if_pos ht2] at htorn ⊢
      rw [htorn.2]
      exact ⟨recsImg_snoc h.rc ⟨g3, rfl, hw⟩ g4, fun hh => absurd ht2 (by omega)⟩
    · rw [if_neg ht2] at htorn ⊢
      rw [htorn.2]
      exact ⟨h.rc, fun _ => rfl⟩
  exact ⟨⟨okD_len hlen h.ok, by rw [hlen]; exact h.n3, h.gu, h.g0, h.ar, by rw [hb0]; exact h.b0, key.1⟩, key.2⟩
theorem gen_above {d : List Int} (hb : bytesL d) {g a : Int} {v : Img} (h : St d g a v) (h0 : genS d g a ≠ 0) : ∀ b ∈ areaB d (1 - a), genOf b < genS d g a := fun b hbm => by
  have ho := areaB_ok hb (other_ar h.ar) h.n3
  have h1 := great_le hbm
  have h2 := great_u32 ho
  have h3 := mxI_le (greatOf (areaB d (1 - a))) g
  have h4 : mxI (greatOf (areaB d (1 - a))) g ≤ 4294967295 := mxI_le2 h2.2 h.gu.2
  have h5 := h2.1
  unfold genS at h0 ⊢
  rw [IntKind.wrap_u32] at h0 ⊢
  omega
theorem swp_torn {d : List Int} (hb : bytesL d) {g a : Int} {v : Img} (h : St d g a v) {i : Img} (hw : wfIm i) {p : List Put} (he : swpS d g a i = (p, 0)) :
    Puts d p ∧ 1 ≤ p.length ∧ okI i ∧ (∀ t, t < p.length → St (wr d (p.take t)) g a v ∧ (logA (wr d (p.take t)) g a).1 = (logA d g a).1) ∧
      St (wr d p) (genS d g a) (1 - a) i ∧ (logA (wr d p) (genS d g a) (1 - a)).1.length = 1 := by
  have ho := other_ar h.ar
  have hdl := h.ok.2.1
  have hh : halfN d ≤ 4096 := by unfold halfN; omega
  obtain ⟨ha1, ha2, ha3⟩ := area_in ho h.n3
  obtain ⟨hb1, hb2, hb3⟩ := area_in h.ar h.n3
  have hgu := gen_u32 d g a
  have hgab := fun h0 => gen_above hb h h0
  unfold swpS at he
  by_cases g1 : (writeS i).2 ≠ 0
  · rw [if_pos g1] at he; exact absurd (congrArg Prod.snd he) g1
  rw [if_neg g1] at he
  have hwr : writeS i = ((writeS i).1, 0) := Prod.ext rfl (show _ = (0 : Int) by omega)
  have hob := areaB_ok hb ho h.n3
  have hobl := areaB_len d (1 - a)
  generalize genS d g a = G at he hgu hgab ⊢
  by_cases g2 : G = 0
  · rw [if_pos g2] at he; exact absurd (show (9 : Int) = 0 from congrArg Prod.snd he) (by decide)
  rw [if_neg g2] at he
  have hgab := hgab g2
  have hbb : bytesL (writeS i).1 := wr_bytes hwr hw
  have hbl := writeS_len i
  have hfb : okBlks (frame G 1 1 0 (writeS i).1) := frame_okB hbb
  obtain ⟨fr, hfr⟩ : ∃ fr, frame G 1 1 0 (writeS i).1 = fr := ⟨_, rfl⟩
  have hfl : fr.length ≤ 1525 := by rw [← hfr, frame_len]; exact parts_le hbl
  have hfp : 1 ≤ fr.length := by rw [← hfr, frame_len]; exact parts_pos _
  rw [hfr] at he hfb
  by_cases g3 : (halfN d : Int) < (fr.length : Int)
  · rw [if_pos g3] at he; exact absurd (show (9 : Int) = 0 from congrArg Prod.snd he) (by decide)
  rw [if_neg g3] at he
  have hp : p = putsAt fr (areaF d (1 - a)) ++ [(0, firstB G (1 - a))] := (congrArg Prod.fst he).symm
  subst hp
  have hf64 : ∀ b ∈ fr, b.length = 64 := fun b hb => (hfb b hb).1
  have hputs := putsAt_ok (d := d) (f := areaF d (1 - a)) hf64 (by omega)
  have hfB : isByte (1 - a) := by rcases ho with e | e <;> rw [e] <;> exact ⟨by decide, by decide⟩
  have h0e : putErr d (0, firstB G (1 - a)) = 0 := by
    have := h.n3
    unfold putErr
    rw [if_pos (show (0 : Int) ≤ 0 ∧ (0 : Int) < ((d.length / 64 : Nat) : Int) by omega), if_pos (firstB_len _ _)]
  have hP : Puts d (putsAt fr (areaF d (1 - a)) ++ [(0, firstB G (1 - a))]) := by
    refine ⟨fun q hq => ?_, fun q hq => ?_, by rw [List.length_append, putsAt_len, List.length_singleton]; omega⟩
    · rcases List.mem_append.1 hq with hq | hq
      · exact hputs q hq
      · rw [List.mem_singleton] at hq; subst hq; exact h0e
    · rcases List.mem_append.1 hq with hq | hq
      · exact putsAt_bytes hfb _ q hq
      · rw [List.mem_singleton] at hq; subst hq; exact firstB_bytes hfB
  have hpl : (putsAt fr (areaF d (1 - a)) ++ [(0, firstB G (1 - a))]).length = fr.length + 1 := by rw [List.length_append, putsAt_len, List.length_singleton]
  -- the areas are apart
  have hapart : areaF d a + halfN d ≤ areaF d (1 - a) ∨ areaF d (1 - a) + fr.length ≤ areaF d a := by
    unfold areaF
    rcases h.ar with e | e
    · rw [e]; left; show 1 + 0 * halfN d + halfN d ≤ 1 + 1 * halfN d; omega
    · rw [e]; right; show 1 + 0 * halfN d + fr.length ≤ 1 + 1 * halfN d; omega
  refine ⟨hP, by omega, (writeS_ok hwr).1, fun t ht => ?_, ?_⟩
  · rw [hpl] at ht
    have htk : (putsAt fr (areaF d (1 - a)) ++ [(0, firstB G (1 - a))]).take t = (putsAt fr (areaF d (1 - a))).take t := by rw [List.take_append_of_le_length (by rw [putsAt_len]; omega)]
    have hlen := (hP.wr hb t).2
    rw [htk] at hlen ⊢
    have hb0 := block_puts (d := d) (l := fr) (f := areaF d (1 - a)) hf64 (by omega) (n := 0) (by have := h.n3; omega) t (by omega)
    rw [if_neg (by omega)] at hb0
    have hap := blks_apart (d := d) (l := fr) (f := areaF d (1 - a)) hf64 (by omega) (t := t) (by omega) (x := areaF d a) (m := halfN d) hb1 hapart
    generalize wr d ((putsAt fr (areaF d (1 - a))).take t) = d' at hlen hb0 hap ⊢
    have hlog : logA d' g a = logA d g a := by unfold logA areaB; rw [areaF_len hlen, halfN_len hlen, hap]
    exact ⟨⟨okD_len hlen h.ok, by rw [hlen]; exact h.n3, h.gu, h.g0, h.ar, by rw [hb0]; exact h.b0, by rw [hlog]; exact h.rc⟩, by rw [hlog]⟩
  · have hlen1 : (wr d (putsAt fr (areaF d (1 - a)))).length = d.length := wr_len hputs
    have hwrE : wr d (putsAt fr (areaF d (1 - a)) ++ [(0, firstB G (1 - a))]) = wr1 (wr d (putsAt fr (areaF d (1 - a)))) (0, firstB G (1 - a)) := by unfold wr; rw [List.foldl_append]; rfl
    have h0e' : putErr (wr d (putsAt fr (areaF d (1 - a)))) (0, firstB G (1 - a)) = 0 := by rw [putErr_len hlen1]; exact h0e
    have hbl := blks_puts (d := d) (f := areaF d (1 - a)) (m := halfN d) (B := 0) (t := fr.length) hf64 (by omega) (by omega) (Nat.le_refl _)
    have hfull : (putsAt fr (areaF d (1 - a))).take fr.length = putsAt fr (areaF d (1 - a)) := by rw [← putsAt_len fr (areaF d (1 - a)), List.take_length]
    rw [Nat.add_zero, hfull, List.take_zero, List.nil_append, List.take_length, Nat.zero_add] at hbl
    have hblk : ∀ n, n < d.length / 64 → blockOf (wr1 (wr d (putsAt fr (areaF d (1 - a)))) (0, firstB G (1 - a))) n = if n = 0 then firstB G (1 - a) else blockOf (wr d (putsAt fr (areaF d (1 - a)))) n := fun n hn => by
      rw [block_wr1 h0e' (by rw [hlen1]; exact hn)]
      by_cases hn0 : n = 0
      · rw [if_pos hn0, if_pos (by dsimp only; omega)]
      · rw [if_neg hn0, if_neg (by dsimp only; omega)]
    have hlen : (wr1 (wr d (putsAt fr (areaF d (1 - a)))) (0, firstB G (1 - a))).length = d.length := by rw [wr1_len h0e', hlen1]
    rw [hwrE]
    generalize wr d (putsAt fr (areaF d (1 - a))) = d1 at hlen1 hbl hblk hlen h0e' hwrE ⊢
    generalize wr1 d1 (0, firstB G (1 - a)) = d' at hblk hlen ⊢
    have hB : areaB d' (1 - a) = fr ++ (areaB d (1 - a)).drop fr.length := by
      unfold areaB
      rw [areaF_len hlen, halfN_len hlen]
      refine Eq.trans ?_ hbl
      unfold blks
      refine List.map_congr_left fun j hj => ?_
      have hj := List.mem_range.1 hj
      rw [hblk _ (by omega), if_neg (by omega)]
    obtain ⟨X, hX⟩ := log_one (g := G) (r := (writeS i).1) (l := (areaB d (1 - a)).drop fr.length) (fun b hb => hob b (List.mem_of_mem_drop hb)) g2 hgu hbb (writeS_len i) (fun b hb => by have := hgab b (List.mem_of_mem_drop hb); omega)
    have hlog : logA d' G (1 - a) = ([(writeS i).1], ((partsOf (writeS i).1 : Nat) : Int), 1, X) := by unfold logA; rw [hB, ← hfr]; rw [← hfr] at hX; exact hX
    refine ⟨⟨okD_len hlen h.ok, by rw [hlen]; exact h.n3, hgu, g2, ho, ?_, ?_⟩, by rw [hlog]; rfl⟩
    · rw [hblk 0 (by have := h.n3; omega), if_pos rfl]
    · rw [hlog]; exact ⟨_, [], i, rfl, hwr, hw, .nil _⟩
end Go.Proofs.Ytpfjjbpoikgocaa
