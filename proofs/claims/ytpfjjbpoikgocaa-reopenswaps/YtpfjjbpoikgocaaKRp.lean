/- A disk that is opened again: opening, and the writes that are told. -/
import Derived.Test.YtpfjjbpoikgocaaKRo
namespace Go.Proofs.Ytpfjjbpoikgocaa
open Go.Abs
set_option maxRecDepth 100000
abbrev Sto := (List Int) × Int × Int × Int × (List (List Int)) × Int × Int × Int × Int × (List Int) × (List (Int × (List Int) × (List Int) × Int × Int × Int)) × Int × Int × Bool
noncomputable def openK {R : Type} (a0 : List Int) (E : Int → R) (K : Sto → Option R) : Option R :=
  (F_disk_Many mx a0).bind fun x1 =>
  (F_reopen_Append.i1s14 mx x1).bind fun x3 =>
  match x3 with
  | .inl x4 => bif x4 != (0 : Int) then some (E x4) else none
  | .inr _ =>
    (F_reopen_Append.i1s30 mx x1).bind fun x8 =>
    match x8 with
    | .inl x9 => bif x9 != (0 : Int) then some (E x9) else none
    | .inr _ =>
      (F_disk_Read mx (a0, (0 : Int))).bind fun x12 =>
      (F_reopen_Append.i1s126 mx x12).bind fun x14 =>
      match x14 with
      | .inl x15 => bif x15 != (0 : Int) then some (E x15) else none
      | .inr _ =>
        bif decide ((4 : Int) < (x12.1.length : Int)) then
          bif Nat.blt 4 x12.1.length then
            (F_reopen_half mx x1.1).bind fun x20 =>
            (iter mx (F_reopen_Append.i1l2042 mx x12) ((0 : Int), a0, (0 : Int), (IntKind.i64.wrap (x12.1.getD 4 0)), x20, (0 : Int), (0 : Int), (0 : Int), (0 : Int), (0 : Int), (0 : Int), false)).bind fun x32 =>
            bif x32.2.1 == (0 : Int) then some (E 230) else
            bif decide ((1 : Int) < x32.2.2.1) then some (E 230) else
            (F_reopen_first mx (x32.2.1, x32.2.2.1)).bind fun x35 =>
            (F_bytes_Equal mx (x35.2, x12.1)).bind fun x36 =>
            bif !x36 then some (E 230) else
            (F_reopen_store_read mx (x32.1, x32.2.1, x32.2.2.1, x32.2.2.2.1, ([] : List (List Int)), x32.2.2.2.2.1, x32.2.2.2.2.2.1, x32.2.2.2.2.2.2.1, x32.2.2.2.2.2.2.2.1, ([] : List Int), ([] : List (Int × (List Int) × (List Int) × Int × Int × Int)), x32.2.2.2.2.2.2.2.2)).bind fun x38 =>
            bif !x38.1 then some (E 230) else K x38.2
          else none
        else none
theorem append_eq (d : List Int) (cs : List Chg) : F_reopen_Append mx (d, cs) = openK d (fun e => (([] : List (Int × List Int)), e)) (fun y => (F_reopen_store_append mx (y.1, y.2.1, y.2.2.1, y.2.2.2.1, y.2.2.2.2.1, y.2.2.2.2.2.1, y.2.2.2.2.2.2.1, y.2.2.2.2.2.2.2.1, y.2.2.2.2.2.2.2.2.1, y.2.2.2.2.2.2.2.2.2.1, y.2.2.2.2.2.2.2.2.2.2.1, y.2.2.2.2.2.2.2.2.2.2.2.1, y.2.2.2.2.2.2.2.2.2.2.2.2.1, y.2.2.2.2.2.2.2.2.2.2.2.2.2, cs)).bind fun x40 => some (x40.1, x40.2.1)) := rfl
theorem swap_eq (d : List Int) (i : Img) : F_reopen_Swap mx (d, i) = openK d (fun e => (([] : List (Int × List Int)), e)) (fun y => (F_reopen_store_swap mx (y.1, y.2.1, y.2.2.1, y.2.2.2.1, y.2.2.2.2.1, y.2.2.2.2.2.1, y.2.2.2.2.2.2.1, y.2.2.2.2.2.2.2.1, y.2.2.2.2.2.2.2.2.1, y.2.2.2.2.2.2.2.2.2.1, y.2.2.2.2.2.2.2.2.2.2.1, y.2.2.2.2.2.2.2.2.2.2.2.1, y.2.2.2.2.2.2.2.2.2.2.2.2.1, y.2.2.2.2.2.2.2.2.2.2.2.2.2, i)).bind fun x40 => some (x40.1, x40.2.1)) := rfl
theorem compact_eq (d : List Int) : F_reopen_Compact mx d = openK d (fun e => (([] : List (Int × List Int)), e)) (fun y => (F_reopen_store_swap mx (y.1, y.2.1, y.2.2.1, y.2.2.2.1, y.2.2.2.2.1, y.2.2.2.2.2.1, y.2.2.2.2.2.2.1, y.2.2.2.2.2.2.2.1, y.2.2.2.2.2.2.2.2.1, y.2.2.2.2.2.2.2.2.2.1, y.2.2.2.2.2.2.2.2.2.2.1, y.2.2.2.2.2.2.2.2.2.2.2.1, y.2.2.2.2.2.2.2.2.2.2.2.2.1, y.2.2.2.2.2.2.2.2.2.2.2.2.2, y.2.2.2.2.2.2.2.2.1, y.2.2.2.2.2.2.2.2.2.1, y.2.2.2.2.2.2.2.2.2.2.1, y.2.2.2.2.2.2.2.2.2.2.2.1, y.2.2.2.2.2.2.2.2.2.2.2.2.1, y.2.2.2.2.2.2.2.2.2.2.2.2.2)).bind fun x40 => some (x40.1, x40.2.1)) := rfl
theorem open_eq (d : List Int) : F_reopen_Open mx d = openK d (fun e => ((0 : Int), ([] : List Int), ([] : List Kept), (0 : Int), (0 : Int), false, (0 : Int), e)) (fun y => some (y.2.2.2.2.2.2.2.2.1, y.2.2.2.2.2.2.2.2.2.1, y.2.2.2.2.2.2.2.2.2.2.1, y.2.2.2.2.2.2.2.2.2.2.2.1, y.2.2.2.2.2.2.2.2.2.2.2.2.1, y.2.2.2.2.2.2.2.2.2.2.2.2.2, IntKind.i64.wrap ((y.2.2.2.2.1.length : Int) - 1), 0)) := rfl
theorem keep_eq (d : List Int) (cs : List Chg) : F_reopen_Keep mx (d, cs) = openK d (fun e => (([] : List (Int × List Int)), e)) (fun y => (F_reopen_store_append mx (y.1, y.2.1, y.2.2.1, y.2.2.2.1, y.2.2.2.2.1, y.2.2.2.2.2.1, y.2.2.2.2.2.2.1, y.2.2.2.2.2.2.2.1, y.2.2.2.2.2.2.2.2.1, y.2.2.2.2.2.2.2.2.2.1, y.2.2.2.2.2.2.2.2.2.2.1, y.2.2.2.2.2.2.2.2.2.2.2.1, y.2.2.2.2.2.2.2.2.2.2.2.2.1, y.2.2.2.2.2.2.2.2.2.2.2.2.2, cs)).bind fun x40 =>
    bif x40.2.1 != (9 : Int) then some (x40.1, x40.2.1) else
    (F_reopen_store_swap mx (x40.2.2.1, x40.2.2.2.1, x40.2.2.2.2.1, x40.2.2.2.2.2.1, x40.2.2.2.2.2.2.1, x40.2.2.2.2.2.2.2.1, x40.2.2.2.2.2.2.2.2.1, x40.2.2.2.2.2.2.2.2.2.1, x40.2.2.2.2.2.2.2.2.2.2.1, x40.2.2.2.2.2.2.2.2.2.2.2.1, x40.2.2.2.2.2.2.2.2.2.2.2.2.1, x40.2.2.2.2.2.2.2.2.2.2.2.2.2.1, x40.2.2.2.2.2.2.2.2.2.2.2.2.2.2.1, x40.2.2.2.2.2.2.2.2.2.2.2.2.2.2.2, x40.2.2.2.2.2.2.2.2.2.2.1, x40.2.2.2.2.2.2.2.2.2.2.2.1, x40.2.2.2.2.2.2.2.2.2.2.2.2.1, x40.2.2.2.2.2.2.2.2.2.2.2.2.2.1, x40.2.2.2.2.2.2.2.2.2.2.2.2.2.2.1, x40.2.2.2.2.2.2.2.2.2.2.2.2.2.2.2)).bind fun x42 =>
    bif x42.2.1 != (0 : Int) then some (([] : List (Int × List Int)), x42.2.1) else
    (F_disk_Do mx (d, x42.1, (x42.1.length : Int))).bind fun x45 =>
    bif x45.2 != (0 : Int) then some (([] : List (Int × List Int)), x45.2) else
    (F_reopen_Append mx (x45.1, cs)).bind fun x47 =>
    bif x47.2 != (0 : Int) then some (([] : List (Int × List Int)), x47.2) else
    bif Nat.ble (x42.1.length + x47.1.length) 4294967296 then some ((x42.1 ++ x47.1), (0 : Int)) else none) := rfl
theorem gen_loop {b : List Int} (hb : bytesL b) (hl : b.length = 64) (e0 : Int) (d : List Int) (a h : Int) : iter mx (F_reopen_Append.i1l2042 mx (b, e0)) ((0 : Int), d, (0 : Int), a, h, (0 : Int), (0 : Int), (0 : Int), (0 : Int), (0 : Int), (0 : Int), false) =
    some (d, leNum (b.take 4), a, h, 0, 0, 0, 0, 0, 0, false) := by
  refine iter_count (f := F_reopen_Append.i1l2042 mx (b, e0)) (fun i => ((i : Int), d, leNum (b.take i), a, h, (0 : Int), (0 : Int), (0 : Int), (0 : Int), (0 : Int), (0 : Int), false)) 4 (lt_N0 (by decide)) (fun i hi => ?_) ?_
  · have hbt := leNum_bd (bytes_take hb i)
    have hlt : (b.take i).length = i := by rw [List.length_take]; omega
    rw [hlt] at hbt
    have ho := or_byte (i := i) (by omega) hbt.1 hbt.2 (bytes_getD hb i)
    have hs : b.take (i + 1) = b.take i ++ [b.getD i 0] := take_succ' (by omega) 0
    have hn := leNum_app (b.take i) (b.getD i 0)
    rw [hlt] at hn
    simp only [F_reopen_Append.i1l2042, F_reopen_Append.i1s16338, decide_eq_true (show (i : Int) < 4 by omega), cond_true, Option.bind_some, lez, ltd (show i < b.length by omega), Bool.and_self, Int.toNat_natCast, blt_t (show i < b.length by omega), ho.2, cond_false, ho.1]
    rw [inc64 (by omega), hs, hn]
  · simp only [F_reopen_Append.i1l2042, F_reopen_Append.i1s16338]; rfl
/-- A disk is opened, or it is not. -/
theorem openK_ok {R : Type} {d : List Int} (hb : bytesL d) (E : Int → R) (K : Sto → Option R) :
    (∃ g a v, St d g a v ∧ openK d E K = K (d, g, a, ((halfN d : Nat) : Int), (logA d g a).1, (logA d g a).2.1, (logA d g a).2.2.1, (logA d g a).2.2.2, v)) ∨
    ((¬ ∃ g a v, St d g a v) ∧ ∃ e, (e = 20 ∨ e = 230) ∧ openK d E K = some (E e)) := by
  by_cases h1 : okD d
  case neg =>
    refine .inr ⟨fun ⟨g, a, v, h⟩ => h1 h.ok, 20, .inl rfl, ?_⟩
    simp only [openK, many_disk, if_neg h1, Option.bind_some, F_reopen_Append.i1s14]; rfl
  by_cases h2 : 3 ≤ d.length / 64
  case neg =>
    refine .inr ⟨fun ⟨g, a, v, h⟩ => h2 h.n3, 230, .inr rfl, ?_⟩
    simp only [openK, many_disk, if_pos h1, Option.bind_some, F_reopen_Append.i1s14, bne_self_eq_false, cond_false, F_reopen_Append.i1s30, decide_eq_true (show ((d.length / 64 : Nat) : Int) < 3 by omega), cond_true]; rfl
  have hl := blockOf_len (d := d) (n := 0) (by omega)
  have hbb : bytesL (blockOf d 0) := bytes_take (bytes_drop hb _) _
  have hrd : F_disk_Read mx (d, (0 : Int)) = some (blockOf d 0, 0) := by
    rw [read_disk, if_pos h1, if_pos (show (0 : Int) ≤ 0 ∧ (0 : Int) < ((d.length / 64 : Nat) : Int) by omega)]; rfl
  have hhf : F_reopen_half mx ((d.length / 64 : Nat) : Int) = some ((halfN d : Nat) : Int) := half_ok (by omega) (by have := h1.2.1; omega)
  have h4 := bytes_getD hbb 4
  have h5 : IntKind.i64.wrap ((blockOf d 0).getD 4 0) = (blockOf d 0).getD 4 0 := w64 (by have := h4.1; omega) (by have := h4.2; omega)
  have hgl := gen_loop hbb hl 0 d ((blockOf d 0).getD 4 0) ((halfN d : Nat) : Int)
  have hgu : isU32 (leNum ((blockOf d 0).take 4)) := u32_of_bytes (bytes_take hbb 4) (by rw [List.length_take]; omega)
  have hfo := first_ok hgu h4
  -- what block 0 tells
  have hst : ∀ {g a v}, St d g a v → g = leNum ((blockOf d 0).take 4) ∧ a = (blockOf d 0).getD 4 0 := fun {g a v} h => by
    rw [h.b0]
    exact ⟨(le4_num h.gu).symm, rfl⟩
  generalize hg : leNum ((blockOf d 0).take 4) = g at hgl hgu hfo hst
  generalize ha : (blockOf d 0).getD 4 0 = a at h4 h5 hgl hfo hst
  have hpre : openK d E K = bif g == (0 : Int) then some (E 230) else bif decide ((1 : Int) < a) then some (E 230) else
      (F_bytes_Equal mx (firstB g a, blockOf d 0)).bind fun x36 => bif !x36 then some (E 230) else
      (F_reopen_store_read mx (d, g, a, ((halfN d : Nat) : Int), ([] : List (List Int)), 0, 0, 0, 0, ([] : List Int), ([] : List Kept), 0, 0, false)).bind fun x38 => bif !x38.1 then some (E 230) else K x38.2 := by
    simp only [openK, many_disk, if_pos h1, Option.bind_some, F_reopen_Append.i1s14, bne_self_eq_false, cond_false, F_reopen_Append.i1s30, decide_eq_false (show ¬ ((d.length / 64 : Nat) : Int) < 3 by omega), hrd, F_reopen_Append.i1s126,
      decide_eq_true (show (4 : Int) < ((blockOf d 0).length : Int) by omega), blt_t (show 4 < (blockOf d 0).length by omega), cond_true, hhf, ha, h5, hgl, hfo]
  rw [hpre]
  by_cases k1 : g = 0
  · refine .inr ⟨fun ⟨g', a', v, h⟩ => h.g0 ((hst h).1.trans k1), 230, .inr rfl, ?_⟩
    rw [k1]; rfl
  by_cases k2 : 1 < a
  · refine .inr ⟨fun ⟨g', a', v, h⟩ => ?_, 230, .inr rfl, ?_⟩
    · have := (hst h).2; have := h.ar; omega
    · rw [ieq, decide_eq_false k1, decide_eq_true k2]; rfl
  have k2' : a = 0 ∨ a = 1 := by have := h4.1; omega
  rw [ieq, decide_eq_false k1, decide_eq_false k2, equal_ok]
  by_cases k3 : firstB g a = blockOf d 0
  case neg =>
    refine .inr ⟨fun ⟨g', a', v, h⟩ => ?_, 230, .inr rfl, ?_⟩
    · have e := h.b0
      rw [(hst h).1, (hst h).2] at e
      exact k3 e.symm
    · rw [decide_eq_false k3]; rfl
  rw [decide_eq_true k3]
  simp only [cond_false, Option.bind_some, Bool.not_true]
  rcases sread_ok hb h1 h2 hgu k1 k2' [] 0 0 0 (0, [], [], 0, 0, false) with ⟨w, hw, he⟩ | ⟨hno, y, he, hy⟩
  · refine .inl ⟨g, a, w, ⟨h1, h2, hgu, k1, k2', k3.symm, hw⟩, ?_⟩
    rw [he]; rfl
  · refine .inr ⟨fun ⟨g', a', v, h⟩ => hno ⟨v, ?_⟩, 230, .inr rfl, ?_⟩
    · have := h.rc
      rwa [(hst h).1, (hst h).2] at this
    · rw [he]
      simp only [Option.bind_some, hy, Bool.not_false, cond_true]
theorem St.uniq {d : List Int} (hb : bytesL d) {g a g' a' : Int} {v v' : Img} (h : St d g a v) (h' : St d g' a' v') : g = g' ∧ a = a' ∧ v = v' := by
  have e := h.b0.symm.trans h'.b0
  have h1 : g = g' := by
    have := congrArg (fun l => leNum (l.take 4)) e
    exact (le4_num h.gu).symm.trans (this.trans (le4_num h'.gu))
  have h2 : a = a' := congrArg (fun l : List Int => l.getD 4 0) e
  subst h1 h2
  exact ⟨rfl, rfl, recsImg_uniq (fun r hr => (log_bytes (areaB_ok hb h.ar h.n3) r hr).1) h.rc h'.rc⟩
/-! ### What is told to be written -/
def appS (d : List Int) (g a : Int) (v : Img) (cs : List Chg) : List Put × Int :=
  if (applyS v cs).2.2.2.2.2.2 ≠ 0 then ([], (applyS v cs).2.2.2.2.2.2)
  else if (nextS (logA d g a).1 (logA d g a).2.2.1 (logA d g a).2.2.2 g (chBytes cs)).2 ≠ 0 then ([], (nextS (logA d g a).1 (logA d g a).2.2.1 (logA d g a).2.2.2 g (chBytes cs)).2)
  else if (halfN d : Int) - (logA d g a).2.1 < ((nextS (logA d g a).1 (logA d g a).2.2.1 (logA d g a).2.2.2 g (chBytes cs)).1.length : Int) then ([], 9)
  else (putsAt (nextS (logA d g a).1 (logA d g a).2.2.1 (logA d g a).2.2.2 g (chBytes cs)).1 (areaF d a + ((logA d g a).2.1).toNat), 0)
theorem sappend_ok {d : List Int} (hb : bytesL d) {g a : Int} {v : Img} (h : St d g a v) {cs : List Chg} (hw : ∀ c ∈ cs, wfC c) :
    F_reopen_store_append mx (d, g, a, ((halfN d : Nat) : Int), (logA d g a).1, (logA d g a).2.1, (logA d g a).2.2.1, (logA d g a).2.2.2, v.1, v.2.1, v.2.2.1, v.2.2.2.1, v.2.2.2.2.1, v.2.2.2.2.2, cs) =
      some ((appS d g a v cs).1, (appS d g a v cs).2, d, g, a, ((halfN d : Nat) : Int), (logA d g a).1, (logA d g a).2.1, (logA d g a).2.2.1, (logA d g a).2.2.2, v) := by
  have hap := apply_ok (okI_len (recsImg_ok h.rc).1) hw
  have hch := changes_ok hw
  have hfr := from_ok (d := d) h.ok.2.1 h.ar
  obtain ⟨B, e1, e2, e3, e4, e5⟩ := log_bd (g := g) (areaB_ok hb h.ar h.n3) (by rw [areaB_len]; unfold halfN; have := h.ok.2.1; omega)
  have e1 : (logA d g a).2.1 = (B : Int) := e1
  have e4 : isU32 (logA d g a).2.2.1 := e4
  have e5 : isU32 (logA d g a).2.2.2 := e5
  rw [areaB_len] at e2
  have hh : halfN d ≤ 4096 := by unfold halfN; have := h.ok.2.1; omega
  obtain ⟨ha1, ha2, ha3⟩ := area_in h.ar h.n3
  have hdl := h.ok.2.1
  simp only [F_reopen_store_append, hap, Option.bind_some]
  unfold appS
  by_cases g1 : (applyS v cs).2.2.2.2.2.2 = 0
  case neg => rw [if_pos g1, bne_iff_ne.2 g1]; rfl
  rw [if_neg (by omega), g1]
  obtain ⟨g2, g3, w, g4⟩ := applyS_zero.1 g1
  rw [hch, if_pos g3, g3]
  have hcl := (chErr_zero.1 g3).2.2
  simp only [Option.bind_some, bne_self_eq_false, cond_false]
  have hnx := next_ok (rs := (logA d g a).1) (bl := (logA d g a).2.1) (r := chBytes cs) e4 e5 h.gu (by omega)
  rw [hnx]
  generalize hN : nextS (logA d g a).1 (logA d g a).2.2.1 (logA d g a).2.2.2 g (chBytes cs) = N
  have hNl : N.1.length ≤ 1525 := by
    rw [← hN]
    unfold nextS
    split
    · simp
    split
    · simp
    split
    · simp
    split
    · simp
    · show (frame _ _ _ _ _).length ≤ _
      rw [frame_len]; exact parts_le hcl
  simp only [Option.bind_some]
  by_cases g5 : N.2 = 0
  case neg => rw [if_pos g5, bne_iff_ne.2 g5]; rfl
  rw [if_neg (by omega), g5, e1, w64 (n := ((halfN d : Nat) : Int) - (B : Int)) (by omega) (by omega)]
  by_cases g6 : ((halfN d : Nat) : Int) - (B : Int) < (N.1.length : Int)
  · rw [if_pos g6, decide_eq_true g6]; rfl
  rw [if_neg g6, decide_eq_false g6]
  simp only [bne_self_eq_false, cond_false, hfr, Option.bind_some]
  rw [w64 (n := ((areaF d a : Nat) : Int) + (B : Int)) (by omega) (by omega), show ((areaF d a : Nat) : Int) + (B : Int) = ((areaF d a + B : Nat) : Int) by omega, rputs_ok (l := N.1) (f := areaF d a + B) [] (by omega) (by simp) (by omega), List.append_nil]
  rfl
def genS (d : List Int) (g a : Int) : Int := IntKind.u32.wrap (mxI (greatOf (areaB d (1 - a))) g + 1)
def swpS (d : List Int) (g a : Int) (i : Img) : List Put × Int :=
  if (writeS i).2 ≠ 0 then ([], (writeS i).2)
  else if genS d g a = 0 then ([], 9)
  else if (halfN d : Int) < ((frame (genS d g a) 1 1 0 (writeS i).1).length : Int) then ([], 9)
  else (putsAt (frame (genS d g a) 1 1 0 (writeS i).1) (areaF d (1 - a)) ++ [(0, firstB (genS d g a) (1 - a))], 0)
theorem other_ar {a : Int} (h : a = 0 ∨ a = 1) : 1 - a = 0 ∨ 1 - a = 1 := by omega
theorem gen_u32 (d : List Int) (g a : Int) : isU32 (genS d g a) := by
  unfold genS isU32
  rw [IntKind.wrap_u32]
  constructor <;> omega
theorem writeS_len (i : Img) : (writeS i).1.length ≤ 65536 := by
  unfold writeS
  split
  · split
    · simp
    · dsimp only; omega
  · simp
theorem record_ok {i : Img} (hb : ∀ k ∈ i.2.2.1, k.2.1.length ≤ 140737488351232 ∧ k.2.2.1.length ≤ 140737488351232) (hw : ∀ k ∈ i.2.2.1, wfK k) {g : Int} (hg : isU32 g) (h : Int) :
    F_reopen_record mx (i.1, i.2.1, i.2.2.1, i.2.2.2.1, i.2.2.2.2.1, i.2.2.2.2.2, g, h) = some (if (writeS i).2 ≠ 0 then ([], (writeS i).2) else if g = 0 then ([], 9) else if h < ((frame g 1 1 0 (writeS i).1).length : Int) then ([], 9) else (frame g 1 1 0 (writeS i).1, 0)) := by
  have hwr := write_ok hb hw
  have hwr : F_image_Write mx (i.1, i.2.1, i.2.2.1, i.2.2.2.1, i.2.2.2.2.1, i.2.2.2.2.2) = some (writeS i) := hwr
  have hl := writeS_len i
  simp only [F_reopen_record, hwr, Option.bind_some]
  by_cases g1 : (writeS i).2 = 0
  case neg => rw [if_pos g1, bne_iff_ne.2 g1]; rfl
  rw [if_neg (by omega), g1, ieq]
  by_cases g2 : g = 0
  · rw [if_pos g2, decide_eq_true g2]; rfl
  rw [if_neg g2, decide_eq_false g2]
  have hnx := next_ok (rs := []) (bl := 0) (la := 0) (gr := 0) (g := g) (r := (writeS i).1) ⟨by decide, by decide⟩ ⟨by decide, by decide⟩ hg (by omega)
  have hE : nextS [] 0 0 g (writeS i).1 = (frame g 1 1 0 (writeS i).1, 0) := by
    unfold nextS
    rw [if_neg g2, if_neg (by omega), if_neg (by simp), if_neg (by decide)]; rfl
  rw [hE] at hnx
  simp only [bne_self_eq_false, cond_false, hnx, Option.bind_some, beq_self_eq_true, cond_true]
  by_cases g3 : h < ((frame g 1 1 0 (writeS i).1).length : Int)
  · rw [if_pos g3, decide_eq_true g3]; rfl
  · rw [if_neg g3, decide_eq_false g3]; rfl
theorem sswap_ok {d : List Int} (hb : bytesL d) {g a : Int} {v : Img} (h : St d g a v) {i : Img} (hi : ∀ k ∈ i.2.2.1, k.2.1.length ≤ 140737488351232 ∧ k.2.2.1.length ≤ 140737488351232) (hw : ∀ k ∈ i.2.2.1, wfK k) (y : List (List Int) × Int × Int × Int × Img) :
    F_reopen_store_swap mx (d, g, a, ((halfN d : Nat) : Int), y.1, y.2.1, y.2.2.1, y.2.2.2.1, y.2.2.2.2.1, y.2.2.2.2.2.1, y.2.2.2.2.2.2.1, y.2.2.2.2.2.2.2.1, y.2.2.2.2.2.2.2.2.1, y.2.2.2.2.2.2.2.2.2, i.1, i.2.1, i.2.2.1, i.2.2.2.1, i.2.2.2.2.1, i.2.2.2.2.2) =
      some ((swpS d g a i).1, (swpS d g a i).2, d, g, a, ((halfN d : Nat) : Int), y) := by
  have ho := other_ar h.ar
  have hw1 : IntKind.i64.wrap ((1 : Int) - a) = 1 - a := by have := h.ar; rw [w64 (by omega) (by omega)]
  have hfr := from_ok (d := d) h.ok.2.1 ho
  have hgr := great_area hb h.ok h.n3 ho
  have hrec := record_ok hi hw (gen_u32 d g a) ((halfN d : Nat) : Int)
  have hfi := first_ok (gen_u32 d g a) (a := 1 - a) (by rcases ho with e | e <;> rw [e] <;> exact ⟨by decide, by decide⟩)
  obtain ⟨ha1, ha2, ha3⟩ := area_in ho h.n3
  have hdl := h.ok.2.1
  unfold genS at hrec hfi
  simp only [F_reopen_store_swap, hw1, hfr, hgr, Option.bind_some, bne_self_eq_false, cond_false, hrec, hfi]
  unfold swpS
  rw [show IntKind.u32.wrap (mxI (greatOf (areaB d (1 - a))) g + 1) = genS d g a from rfl]
  by_cases g1 : (writeS i).2 = 0
  case neg => rw [if_pos g1, if_pos g1]; simp only [bne_iff_ne.2 g1, cond_true]
  rw [if_neg (show ¬ (writeS i).2 ≠ 0 by omega), if_neg (show ¬ (writeS i).2 ≠ 0 by omega)]
  by_cases g2 : genS d g a = 0
  · rw [if_pos g2, if_pos g2]; rfl
  rw [if_neg g2, if_neg g2]
  by_cases g3 : ((halfN d : Nat) : Int) < ((frame (genS d g a) 1 1 0 (writeS i).1).length : Int)
  · rw [if_pos g3, if_pos g3]; rfl
  rw [if_neg g3, if_neg g3]
  have hfl : (frame (genS d g a) 1 1 0 (writeS i).1).length ≤ 1525 := by rw [frame_len]; exact parts_le (writeS_len i)
  simp only [bne_self_eq_false, cond_false, rputs_ok (l := frame (genS d g a) 1 1 0 (writeS i).1) (f := areaF d (1 - a)) [(0, firstB (genS d g a) (1 - a))] (by omega) (by simp) (by omega), Option.bind_some]
/-! ### What the functions answer -/
theorem ropen_ok {d : List Int} (hb : bytesL d) : (∃ g a v, St d g a v ∧ F_reopen_Open mx d = some (v.1, v.2.1, v.2.2.1, v.2.2.2.1, v.2.2.2.2.1, v.2.2.2.2.2, (((logA d g a).1.length : Int) - 1), 0)) ∨
    ((¬ ∃ g a v, St d g a v) ∧ ∃ e, (e = 20 ∨ e = 230) ∧ F_reopen_Open mx d = some (0, [], [], 0, 0, false, 0, e)) := by
  rw [open_eq]
  rcases openK_ok hb (fun e => ((0 : Int), ([] : List Int), ([] : List Kept), (0 : Int), (0 : Int), false, (0 : Int), e)) (fun y => some (y.2.2.2.2.2.2.2.2.1, y.2.2.2.2.2.2.2.2.2.1, y.2.2.2.2.2.2.2.2.2.2.1, y.2.2.2.2.2.2.2.2.2.2.2.1, y.2.2.2.2.2.2.2.2.2.2.2.2.1, y.2.2.2.2.2.2.2.2.2.2.2.2.2, IntKind.i64.wrap ((y.2.2.2.2.1.length : Int) - 1), (0 : Int))) with ⟨g, a, v, h, e⟩ | h
  · refine .inl ⟨g, a, v, h, e.trans ?_⟩
    obtain ⟨B, e1, e2, e3, e4, e5⟩ := log_bd (g := g) (areaB_ok hb h.ar h.n3) (by rw [areaB_len]; unfold halfN; have := h.ok.2.1; omega)
    have e3 : (logA d g a).1.length ≤ 4096 := e3
    dsimp only
    rw [w64 (by omega) (by omega)]
  · exact .inr h
theorem rappend_ok {d : List Int} (hb : bytesL d) {cs : List Chg} (hw : ∀ c ∈ cs, wfC c) : (∃ g a v, St d g a v ∧ F_reopen_Append mx (d, cs) = some (appS d g a v cs)) ∨
    ((¬ ∃ g a v, St d g a v) ∧ ∃ e, (e = 20 ∨ e = 230) ∧ F_reopen_Append mx (d, cs) = some ([], e)) := by
  rw [append_eq]
  rcases openK_ok hb (fun e => (([] : List (Int × List Int)), e)) (fun y => (F_reopen_store_append mx (y.1, y.2.1, y.2.2.1, y.2.2.2.1, y.2.2.2.2.1, y.2.2.2.2.2.1, y.2.2.2.2.2.2.1, y.2.2.2.2.2.2.2.1, y.2.2.2.2.2.2.2.2.1, y.2.2.2.2.2.2.2.2.2.1, y.2.2.2.2.2.2.2.2.2.2.1, y.2.2.2.2.2.2.2.2.2.2.2.1, y.2.2.2.2.2.2.2.2.2.2.2.2.1, y.2.2.2.2.2.2.2.2.2.2.2.2.2, cs)).bind fun x40 => some (x40.1, x40.2.1)) with ⟨g, a, v, h, e⟩ | h
  · refine .inl ⟨g, a, v, h, e.trans ?_⟩
    have hs := sappend_ok hb h hw
    dsimp only at hs ⊢
    rw [hs]; rfl
  · exact .inr h
theorem rswap_ok {d : List Int} (hb : bytesL d) {i : Img} (hi : ∀ k ∈ i.2.2.1, k.2.1.length ≤ 140737488351232 ∧ k.2.2.1.length ≤ 140737488351232) (hw : ∀ k ∈ i.2.2.1, wfK k) : (∃ g a v, St d g a v ∧ F_reopen_Swap mx (d, i) = some (swpS d g a i)) ∨
    ((¬ ∃ g a v, St d g a v) ∧ ∃ e, (e = 20 ∨ e = 230) ∧ F_reopen_Swap mx (d, i) = some ([], e)) := by
  rw [swap_eq]
  rcases openK_ok hb (fun e => (([] : List (Int × List Int)), e)) (fun y => (F_reopen_store_swap mx (y.1, y.2.1, y.2.2.1, y.2.2.2.1, y.2.2.2.2.1, y.2.2.2.2.2.1, y.2.2.2.2.2.2.1, y.2.2.2.2.2.2.2.1, y.2.2.2.2.2.2.2.2.1, y.2.2.2.2.2.2.2.2.2.1, y.2.2.2.2.2.2.2.2.2.2.1, y.2.2.2.2.2.2.2.2.2.2.2.1, y.2.2.2.2.2.2.2.2.2.2.2.2.1, y.2.2.2.2.2.2.2.2.2.2.2.2.2, i)).bind fun x40 => some (x40.1, x40.2.1)) with ⟨g, a, v, h, e⟩ | h
  · refine .inl ⟨g, a, v, h, e.trans ?_⟩
    have hs := sswap_ok hb h hi hw ((logA d g a).1, (logA d g a).2.1, (logA d g a).2.2.1, (logA d g a).2.2.2, v)
    dsimp only at hs ⊢
    rw [hs]; rfl
  · exact .inr h
theorem rcompact_ok {d : List Int} (hb : bytesL d)  : (∃ g a v, St d g a v ∧ F_reopen_Compact mx d = some (swpS d g a v)) ∨
    ((¬ ∃ g a v, St d g a v) ∧ ∃ e, (e = 20 ∨ e = 230) ∧ F_reopen_Compact mx d = some ([], e)) := by
  rw [compact_eq]
  rcases openK_ok hb (fun e => (([] : List (Int × List Int)), e)) (fun y => (F_reopen_store_swap mx (y.1, y.2.1, y.2.2.1, y.2.2.2.1, y.2.2.2.2.1, y.2.2.2.2.2.1, y.2.2.2.2.2.2.1, y.2.2.2.2.2.2.2.1, y.2.2.2.2.2.2.2.2.1, y.2.2.2.2.2.2.2.2.2.1, y.2.2.2.2.2.2.2.2.2.2.1, y.2.2.2.2.2.2.2.2.2.2.2.1, y.2.2.2.2.2.2.2.2.2.2.2.2.1, y.2.2.2.2.2.2.2.2.2.2.2.2.2, y.2.2.2.2.2.2.2.2.1, y.2.2.2.2.2.2.2.2.2.1, y.2.2.2.2.2.2.2.2.2.2.1, y.2.2.2.2.2.2.2.2.2.2.2.1, y.2.2.2.2.2.2.2.2.2.2.2.2.1, y.2.2.2.2.2.2.2.2.2.2.2.2.2)).bind fun x40 => some (x40.1, x40.2.1)) with ⟨g, a, v, h, e⟩ | h
  · refine .inl ⟨g, a, v, h, e.trans ?_⟩
    have hs := sswap_ok hb h (okI_len (recsImg_ok h.rc).1) (recsImg_ok h.rc).2.2 ((logA d g a).1, (logA d g a).2.1, (logA d g a).2.2.1, (logA d g a).2.2.2, v)
    dsimp only at hs ⊢
    rw [hs]; rfl
  · exact .inr h
end Go.Proofs.Ytpfjjbpoikgocaa
