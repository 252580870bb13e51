/- The document's own answers on journals. -/
import Derived.Test.YtdnfmkkaojafhaaKJd
namespace Go.Proofs.Ytdnfmkkaojafhaa
open Go.Abs
set_option maxRecDepth 100000

theorem byte_of {m k : Nat} (hm : m ≤ 4294967295) : IntKind.u8.wrap ((IntKind.u32.wrap ((m : Int).tdiv ((256 ^ k : Nat) : Int))).tmod (256 : Int)) = bAt (m : Int) k := by
  rw [cast_tdiv]
  have h1 : m / 256 ^ k ≤ m := Nat.div_le_self _ _
  unfold bAt
  rw [Int.toNat_natCast]
  generalize m / 256 ^ k = q at h1 ⊢
  rw [wu32 (by omega) (by omega), show (q : Int).tmod (256 : Int) = ((q % 256 : Nat) : Int) from cast_tmod _ 256]
  rw [wu8 (by omega) (by omega)]
theorem four_ok {n : Int} (h : isU32 n) : F_ref22_four mx n = some (le4 n) := by
  obtain ⟨h1, h2⟩ := h
  obtain ⟨m, rfl⟩ := Int.eq_ofNat_of_zero_le h1
  have hm : m ≤ 4294967295 := by omega
  have e0 : IntKind.u8.wrap ((m : Int).tmod (256 : Int)) = bAt (m : Int) 0 := by
    have := byte_of (m := m) (k := 0) hm
    rw [show ((256 ^ 0 : Nat) : Int) = 1 from rfl, Int.tdiv_one, wu32 (by omega) (by omega)] at this
    exact this
  have e3 : IntKind.u8.wrap (IntKind.u32.wrap ((m : Int).tdiv (16777216 : Int))) = bAt (m : Int) 3 := by
    have h3 : (m : Int).tdiv (16777216 : Int) = ((m / 16777216 : Nat) : Int) := cast_tdiv m 16777216
    rw [h3, wu32 (by omega) (by omega), wu8 (by omega) (by omega)]
    unfold bAt
    rw [Int.toNat_natCast, show 256 ^ 3 = 16777216 from rfl, Nat.mod_eq_of_lt (by omega)]
  have e1 := byte_of (m := m) (k := 1) hm
  have e2 := byte_of (m := m) (k := 2) hm
  rw [show ((256 ^ 1 : Nat) : Int) = 256 from rfl] at e1
  rw [show ((256 ^ 2 : Nat) : Int) = 65536 from rfl] at e2
  simp only [F_ref22_four, e0, e1, e2, e3]
  rfl
theorem pad_ok {x : List Int} (hx : x.length ≤ 64) : iter mx (F_ref22_Frame.l8295420 mx) x = some (x ++ List.replicate (64 - x.length) 0) := by
  have := iter_count (f := F_ref22_Frame.l8295420 mx) (fun i => x ++ List.replicate i 0) (64 - x.length) (r := x ++ List.replicate (64 - x.length) 0) (lt_N0 (by omega)) (fun i hi => by
    have hl : (x ++ List.replicate i (0 : Int)).length = x.length + i := by simp
    have c1 : decide (((x ++ List.replicate i (0 : Int)).length : Int) < 64) = true := decide_eq_true (by omega)
    have c2 : Nat.ble ((x ++ List.replicate i (0 : Int)).length + 1) 140737488351232 = true := ble_t (by omega)
    simp only [F_ref22_Frame.l8295420, c1, c2, cond_true]
    rw [List.append_assoc, ← List.replicate_succ']) (by
    have hl : (x ++ List.replicate (64 - x.length) (0 : Int)).length = x.length + (64 - x.length) := by simp
    have c1 : decide (((x ++ List.replicate (64 - x.length) (0 : Int)).length : Int) < 64) = false := decide_eq_false (by omega)
    simp only [F_ref22_Frame.l8295420, c1, cond_false])
  simpa using this

theorem ref_step {g n s p : Int} (hg : isU32 g) (hn : isU32 n) (hs : isU32 s) (hp : isU32 p) {r : List Int} (hr : r.length ≤ 65536) {i : Nat} (hi : i < partsOf r) :
    F_ref22_Frame.l506 mx g n s p r (partsOf r : Int) ((List.range i).map (fun j => blk g n s p (partsOf r) j (piece r j)), (i : Int)) =
      some (.next ((List.range (i + 1)).map (fun j => blk g n s p (partsOf r) j (piece r j)), ((i + 1 : Nat) : Int))) := by
  have hpa := parts_le hr
  have e1 : decide ((i : Int) < (partsOf r : Int)) = true := decide_eq_true (by omega)
  have w1 : IntKind.i64.wrap ((i : Int) * 43) = (i : Int) * 43 := w64 (by omega) (by omega)
  have w2 : IntKind.i64.wrap ((i : Int) * 43 + 43) = (i : Int) * 43 + 43 := w64 (by omega) (by omega)
  have m1 : mnI (r.length : Int) ((i : Int) * 43) = ((min r.length (43 * i) : Nat) : Int) := by unfold mnI; split <;> omega
  have m2 : mnI (r.length : Int) ((i : Int) * 43 + 43) = ((min r.length (43 * i + 43) : Nat) : Int) := by unfold mnI; split <;> omega
  have d1 : decide ((0 : Int) ≤ ((min r.length (43 * i) : Nat) : Int)) = true := decide_eq_true (by omega)
  have d2 : decide (((min r.length (43 * i) : Nat) : Int) ≤ ((min r.length (43 * i + 43) : Nat) : Int)) = true := decide_eq_true (by omega)
  have d3 : decide (((min r.length (43 * i + 43) : Nat) : Int) ≤ (r.length : Int)) = true := decide_eq_true (by omega)
  have hpc : (r.take (min r.length (43 * i + 43))).drop (min r.length (43 * i)) = piece r i := by
    unfold piece
    rcases Nat.le_total (43 * i) r.length with h | h
    · rw [Nat.min_eq_right h]
      rcases Nat.le_total (43 * i + 43) r.length with h2 | h2
      · rw [Nat.min_eq_right h2, List.drop_take, show 43 * i + 43 - 43 * i = 43 by omega]
      · rw [Nat.min_eq_left h2, List.take_length, List.take_of_length_le (by rw [List.length_drop]; omega)]
    · rw [Nat.min_eq_left h, List.drop_eq_nil_of_le (by rw [List.length_take]; omega), List.drop_eq_nil_of_le h]; rfl
  have hle := piece_len r i
  have u1 : IntKind.u8.wrap ((i : Int).tmod (256 : Int)) = bAt (i : Int) 0 := by
    rw [show (i : Int).tmod (256 : Int) = ((i % 256 : Nat) : Int) from cast_tmod i 256, wu8 (by omega) (by omega)]
    simp [bAt]
  have u2 : IntKind.u8.wrap (IntKind.i64.wrap ((i : Int).tdiv (256 : Int))) = bAt (i : Int) 1 := by
    rw [show (i : Int).tdiv (256 : Int) = ((i / 256 : Nat) : Int) from cast_tdiv i 256, w64 (by omega) (by omega), wu8 (by omega) (by omega)]
    unfold bAt
    rw [Int.toNat_natCast, Nat.pow_one, Nat.mod_eq_of_lt (by omega)]
  have u3 : IntKind.u8.wrap ((partsOf r : Int).tmod (256 : Int)) = bAt (partsOf r : Int) 0 := by
    rw [show (partsOf r : Int).tmod (256 : Int) = ((partsOf r % 256 : Nat) : Int) from cast_tmod _ 256, wu8 (by omega) (by omega)]
    simp [bAt]
  have u4 : IntKind.u8.wrap (IntKind.i64.wrap ((partsOf r : Int).tdiv (256 : Int))) = bAt (partsOf r : Int) 1 := by
    rw [show (partsOf r : Int).tdiv (256 : Int) = ((partsOf r / 256 : Nat) : Int) from cast_tdiv _ 256, w64 (by omega) (by omega), wu8 (by omega) (by omega)]
    unfold bAt
    rw [Int.toNat_natCast, Nat.pow_one, Nat.mod_eq_of_lt (by omega)]
  have u5 : IntKind.u8.wrap (((piece r i).length : Nat) : Int) = (((piece r i).length : Nat) : Int) := wu8 (by omega) (by omega)
  have l4 : ∀ x, (le4 x).length = 4 := fun _ => rfl
  have c0 : Nat.ble 4 140737488351232 = true := rfl
  have c1 : Nat.ble (4 + 4) 140737488351232 = true := rfl
  have c2 : Nat.ble (4 + 4 + 4) 140737488351232 = true := rfl
  have c3 : Nat.ble (4 + 4 + 4 + 4) 140737488351232 = true := rfl
  have c4 : Nat.ble (4 + 4 + 4 + 4 + 5) 140737488351232 = true := rfl
  have hbody : le4 g ++ le4 n ++ le4 s ++ le4 p ++ [bAt (i : Int) 0, bAt (i : Int) 1, bAt (partsOf r : Int) 0, bAt (partsOf r : Int) 1, (((piece r i).length : Nat) : Int)] = hdr g n s p (partsOf r) i (piece r i).length := rfl
  have c5 : Nat.ble (21 + (piece r i).length) 140737488351232 = true := ble_t (by omega)
  have hlen : (hdr g n s p (partsOf r) i (piece r i).length ++ piece r i).length = 21 + (piece r i).length := by rw [List.length_append, hdr_len]
  have hpad := pad_ok (x := hdr g n s p (partsOf r) i (piece r i).length ++ piece r i) (by rw [hlen]; omega)
  have hblk : (hdr g n s p (partsOf r) i (piece r i).length ++ piece r i) ++ List.replicate (64 - (hdr g n s p (partsOf r) i (piece r i).length ++ piece r i).length) 0 = blk g n s p (partsOf r) i (piece r i) := by
    rw [hlen, show 64 - (21 + (piece r i).length) = 43 - (piece r i).length by omega, List.append_assoc]
    rfl
  rw [hblk] at hpad
  have c6 : Nat.ble (i + 1) 4294967296 = true := ble_t (by omega)
  simp only [F_ref22_Frame.l506, e1, cond_true, w1, w2, m1, m2, d1, d2, d3, Int.le_refl, decide_true, Bool.and_self, Int.toNat_natCast, hpc, four_ok hg, four_ok hn, four_ok hs, four_ok hp, Option.bind_some, l4, c0, c1, List.length_append, c2, c3, u1, u2, u3, u4, u5, List.length_cons, List.length_nil, Nat.zero_add, Nat.reduceAdd, c4]
  rw [hbody]
  have cx : ∀ k, k ≤ 100 → Nat.ble k 140737488351232 = true := fun k hk => ble_t (by omega)
  simp only [cx 8 (by decide), cx 12 (by decide), cx 16 (by decide), cx 21 (by decide), c5, cond_true, hpad, Option.bind_some, List.length_map, List.length_range, c6]
  rw [inc64 (by omega), List.range_succ, List.map_append]
  simp only [List.map_cons, List.map_nil]
theorem refFrame_ok {g n s p : Int} (hg : isU32 g) (hn : isU32 n) (hs : isU32 s) (hp : isU32 p) {r : List Int} (hrl : r.length ≤ 140737488351232) :
    F_ref22_Frame mx (g, n, s, p, r) = some (if g = 0 ∨ n = 0 then ([], 2) else if 65536 < r.length then ([], 3) else (frame g n s p r, 0)) := by
  simp only [F_ref22_Frame, ieq]
  by_cases h1 : g = 0
  · rw [if_pos (.inl h1), decide_eq_true h1]; rfl
  · by_cases h2 : n = 0
    · rw [if_pos (.inr h2), decide_eq_false h1, decide_eq_true h2]; rfl
    · rw [if_neg (by omega), decide_eq_false h1, decide_eq_false h2]
      by_cases h3 : 65536 < r.length
      · rw [if_pos h3, decide_eq_true (show (65536 : Int) < (r.length : Int) by omega)]; rfl
      · have hr : r.length ≤ 65536 := by omega
        have hpa := parts_le hr
        have e4 : mxI 1 (IntKind.i64.wrap ((IntKind.i64.wrap (IntKind.i64.wrap ((r.length : Int) + 43) - 1)).tdiv 43)) = (partsOf r : Int) := by
          rw [w64 (n := (r.length : Int) + 43) (by omega) (by omega), w64 (n := (r.length : Int) + 43 - 1) (by omega) (by omega)]
          have : ((r.length : Int) + 43 - 1).tdiv 43 = (((r.length + 42) / 43 : Nat) : Int) := by
            rw [show (r.length : Int) + 43 - 1 = ((r.length + 42 : Nat) : Int) by omega]; exact cast_tdiv _ 43
          rw [this, w64 (by omega) (by omega)]
          unfold mxI partsOf
          split <;> omega
        rw [if_neg h3, decide_eq_false (show ¬ (65536 : Int) < (r.length : Int) by omega)]
        simp only [cond_false, e4]
        have := iter_count (f := F_ref22_Frame.l506 mx g n s p r (partsOf r : Int)) (fun i => ((List.range i).map (fun j => blk g n s p (partsOf r) j (piece r j)), (i : Int))) (partsOf r) (r := frame g n s p r) (lt_N0 (by omega))
          (fun i hi => ref_step hg hn hs hp hr hi) (by simp only [F_ref22_Frame.l506, nltd, cond_false]; rfl)
        have this : iter mx (F_ref22_Frame.l506 mx g n s p r (partsOf r : Int)) (([] : List (List Int)), (0 : Int)) = _ := this
        rw [this]; rfl

theorem number_ok {b : List Int} (hb : bytesL b) (hl : b.length = 4) : F_ref22_number mx b = some (leNum b) := by
  obtain ⟨x0, x1, x2, x3, rfl⟩ : ∃ x0 x1 x2 x3, b = [x0, x1, x2, x3] := by
    match b, hl with
    | [x0, x1, x2, x3], _ => exact ⟨x0, x1, x2, x3, rfl⟩
  have h0 := hb x0 (by simp)
  have h1 := hb x1 (by simp)
  have h2 := hb x2 (by simp)
  have h3 := hb x3 (by simp)
  unfold isByte at h0 h1 h2 h3
  simp only [F_ref22_number, List.length_cons, List.length_nil, List.getD_cons_zero, List.getD_cons_succ]
  have c : ∀ k : Int, k < 4 → decide (k < (((0 + 1 + 1 + 1 + 1 : Nat)) : Int)) = true := fun k hk => decide_eq_true (by omega)
  simp only [c 0 (by decide), c 1 (by decide), c 2 (by decide), c 3 (by decide), cond_true]
  rw [wu32 (n := x0) (by omega) (by omega), wu32 (n := x1) (by omega) (by omega), wu32 (n := x2) (by omega) (by omega), wu32 (n := x3) (by omega) (by omega),
    wu32 (n := x1 * 256) (by omega) (by omega), wu32 (n := x2 * 65536) (by omega) (by omega), wu32 (n := x3 * 16777216) (by omega) (by omega), wu32 (n := x0 + x1 * 256) (by omega) (by omega), wu32 (n := x0 + x1 * 256 + x2 * 65536) (by omega) (by omega), wu32 (by omega) (by omega)]
  simp only [leNum]
  congr 1; omega

theorem rrec_loop {l : List Blk} (hl : okBlks l) (hlen : l.length ≤ 1000000000) {k : Nat} (hk : k ≤ l.length) :
    iter mx (F_ref22_open.l1018 mx l (k : Int)) (([] : List Int), (0 : Int)) = some (if ∀ b ∈ l.take k, b.getD 20 0 ≤ 43 then .inr (recs (l.take k)) else .inl (0, 0, 6)) := by
  have htk : ∀ i, i ≤ k → (l.take k).take i = l.take i := fun i hi => by rw [List.take_take, Nat.min_eq_left hi]
  rcases iter_scan (f := F_ref22_open.l1018 mx l (k : Int)) (fun i => (recs (l.take i), (i : Int))) k (fun i => (l.getD i []).getD 20 0 ≤ 43) (lt_N0 (by omega)) (fun _ => .inl (0, 0, 6)) (.inr (recs (l.take k)))
    (fun i hi hp hb => by
      have hil : i < l.length := by omega
      obtain ⟨b1, b2⟩ := hl _ (getD_lt (d := []) hil)
      obtain ⟨b3, b4⟩ := bytes_getD b2 20
      have hw : IntKind.i64.wrap ((l.getD i []).getD 20 0) = (l.getD i []).getD 20 0 := w64 (by omega) (by omega)
      have hrl : (recs (l.take i)).length ≤ 43 * i := by
        have := recs_len (l := l.take i) (fun b hb' => by
          obtain ⟨j, hj, rfl⟩ := List.mem_iff_getElem.1 hb'
          rw [List.length_take] at hj
          have := hb j (by omega)
          rw [getD_some (l := l) (show j < l.length by omega)] at this
          rw [List.getElem_take]; exact this)
        rw [List.length_take, Nat.min_eq_left (by omega)] at this
        exact this
      have e1 : decide ((20 : Int) < ((l.getD i []).length : Int)) = true := decide_eq_true (by omega)
      have e2 : decide ((43 : Int) < (l.getD i []).getD 20 0) = false := decide_eq_false (by omega)
      have hw2 : IntKind.i64.wrap ((21 : Int) + (l.getD i []).getD 20 0) = 21 + (l.getD i []).getD 20 0 := w64 (by omega) (by omega)
      have e3 : decide ((21 : Int) ≤ 21 + (l.getD i []).getD 20 0) = true := decide_eq_true (by omega)
      have e4 : decide (21 + (l.getD i []).getD 20 0 ≤ ((l.getD i []).length : Int)) = true := decide_eq_true (by omega)
      have e5 : ((l.getD i []).take (21 + (l.getD i []).getD 20 0).toNat).drop 21 = ((l.getD i []).drop 21).take ((l.getD i []).getD 20 0).toNat := by
        rw [List.drop_take]; congr 1; omega
      have e7 : (((l.getD i []).drop 21).take ((l.getD i []).getD 20 0).toNat).length ≤ 43 := by rw [List.length_take, List.length_drop]; omega
      have e8 : Nat.ble ((recs (l.take i)).length + (((l.getD i []).drop 21).take ((l.getD i []).getD 20 0).toNat).length) 140737488351232 = true := ble_t (by omega)
      simp only [F_ref22_open.l1018, ltd hi, ltd hil, lez, Bool.and_self, cond_true, Int.toNat_natCast, e1, hw, e2, cond_false, hw2, e3, e4, Int.le_refl, decide_true, e5, e8]
      rw [inc64 (by omega), take_succ' hil [], recs_app]
      simp [recs])
    (fun i hi hp hb => by
      have hil : i < l.length := by omega
      obtain ⟨b1, b2⟩ := hl _ (getD_lt (d := []) hil)
      obtain ⟨b3, b4⟩ := bytes_getD b2 20
      have hw : IntKind.i64.wrap ((l.getD i []).getD 20 0) = (l.getD i []).getD 20 0 := w64 (by omega) (by omega)
      have e1 : decide ((20 : Int) < ((l.getD i []).length : Int)) = true := decide_eq_true (by omega)
      have e2 : decide ((43 : Int) < (l.getD i []).getD 20 0) = true := decide_eq_true (by omega)
      simp only [F_ref22_open.l1018, ltd hi, ltd hil, lez, Bool.and_self, cond_true, Int.toNat_natCast, e1, hw, e2])
    (fun _ => by simp only [F_ref22_open.l1018, nltd, cond_false]) with ⟨h, e⟩ | ⟨i, hi, hp, _, e⟩
  · have e : iter mx (F_ref22_open.l1018 mx l (k : Int)) (([] : List Int), (0 : Int)) = _ := e
    rw [e, if_pos]
    intro b hb
    obtain ⟨j, hj, rfl⟩ := List.mem_iff_getElem.1 hb
    rw [List.length_take] at hj
    have := h j (by omega)
    rw [getD_some (l := l) (show j < l.length by omega)] at this
    rw [List.getElem_take]; exact this
  · have e : iter mx (F_ref22_open.l1018 mx l (k : Int)) (([] : List Int), (0 : Int)) = _ := e
    rw [e, if_neg]
    intro hall
    refine hp (hall _ ?_)
    rw [getD_some (l := l) (show i < l.length by omega)]
    have : l[i] = (l.take k)[i]'(by rw [List.length_take]; omega) := by rw [List.getElem_take]
    rw [this]
    exact List.getElem_mem _

theorem rcmp_loop {l a : List Blk} (e0 : Int) (hl : a.length ≤ l.length) (hlen : l.length ≤ 1000000000) :
    iter mx (F_ref22_open.l8186 mx l (a.length : Int) (a, e0)) (0 : Int) = some (if a = l.take a.length then .inr () else .inl (0, 0, 6)) := by
  rcases iter_scan (f := F_ref22_open.l8186 mx l (a.length : Int) (a, e0)) (fun i => (i : Int)) a.length (fun i => a.getD i [] = l.getD i []) (lt_N0 (by omega)) (fun _ => .inl (0, 0, 6)) (.inr ())
    (fun i hi hp hb => by
      simp only [F_ref22_open.l8186, ltd hi, lez, Bool.and_self, cond_true, Int.toNat_natCast, blt_t hi, ltd (show i < l.length by omega), hp, beq_self_eq_true, Bool.not_true, cond_false]
      rw [inc64 (by omega)])
    (fun i hi hp hb => by
      have : (a.getD i [] == l.getD i []) = false := by simpa using hp
      simp only [F_ref22_open.l8186, ltd hi, lez, Bool.and_self, cond_true, Int.toNat_natCast, blt_t hi, ltd (show i < l.length by omega), this, Bool.not_false])
    (fun _ => by simp only [F_ref22_open.l8186, nltd, cond_false]) with ⟨h, e⟩ | ⟨i, hi, hp, _, e⟩
  · have e : iter mx (F_ref22_open.l8186 mx l (a.length : Int) (a, e0)) (0 : Int) = _ := e
    rw [e, if_pos (eq_take h hl)]
  · have e : iter mx (F_ref22_open.l8186 mx l (a.length : Int) (a, e0)) (0 : Int) = _ := e
    rw [e, if_neg]
    intro hall
    apply hp
    rw [hall, getD_some (by rw [List.length_take]; omega), List.getElem_take, getD_some (by omega)]

theorem count_eq {B : Blk} (h : B.length = 64) (hb : bytesL B) : IntKind.i64.wrap (IntKind.i64.wrap (B.getD 18 0) + IntKind.i64.wrap (IntKind.i64.wrap (B.getD 19 0) * 256)) = countOf B := by
  obtain ⟨a1, a2⟩ := bytes_getD hb 18
  obtain ⟨b1, b2⟩ := bytes_getD hb 19
  rw [w64 (n := B.getD 18 0) (by omega) (by omega), w64 (n := B.getD 19 0) (by omega) (by omega), w64 (n := B.getD 19 0 * 256) (by omega) (by omega), w64 (by omega) (by omega)]
  have e : (B.take 20).drop 18 = [B.getD 18 0, B.getD 19 0] := by
    apply List.ext_getElem
    · rw [List.length_drop, List.length_take]; simp; omega
    · intro i h1 h2
      have h2 : i < 2 := by simpa using h2
      rw [List.getElem_drop, List.getElem_take]
      match i, h2 with
      | 0, _ => show B[18] = B.getD 18 0; rw [getD_some (show 18 < B.length by omega)]
      | 1, _ => show B[19] = B.getD 19 0; rw [getD_some (show 19 < B.length by omega)]
  rw [countOf, e]
  simp only [leNum]
  omega

theorem ropen_ok {g n p : Int} (hg : isU32 g) (hn : isU32 n) (hp : isU32 p) {l : List Blk} (hl : okBlks l) (hlen : l.length ≤ 1000000000) :
    F_ref22_open mx (g, n, p, l) = some (match opn g n p l with | some (r, s, k) => (r, s, (k : Int), 0) | none => ([], 0, 0, 6)) := by
  unfold opn
  simp only [F_ref22_open, ieq]
  by_cases hne : l = []
  · subst hne
    rw [if_neg (fun h => h.1 rfl)]; rfl
  · have hpos : 0 < l.length := List.length_pos_iff.2 hne
    rw [decide_eq_false (show ¬ (l.length : Int) = 0 by omega)]
    by_cases h4a : g = 0
    · rw [decide_eq_true h4a, if_neg (fun h => h.2.2.2.2.1 h4a)]; rfl
    rw [decide_eq_false h4a]
    by_cases h4b : n = 0
    · rw [decide_eq_true h4b, if_neg (fun h => h.2.2.2.2.2.1 h4b)]; rfl
    rw [decide_eq_false h4b]
    have e1 : decide ((0 : Int) < (l.length : Int)) = true := decide_eq_true (by omega)
    obtain ⟨b1, b2⟩ := okB_getD hl hne
    generalize hB : l.getD 0 [] = B at b1 b2
    have e2 : decide ((12 : Int) ≤ (B.length : Int)) = true := decide_eq_true (by omega)
    have e3 : decide ((18 : Int) < (B.length : Int)) = true := decide_eq_true (by omega)
    have e3' : decide ((19 : Int) < (B.length : Int)) = true := decide_eq_true (by omega)
    have g1 : F_ref22_number mx ((B.take 12).drop 8) = some (saltOf B) := number_ok (bytes_drop (bytes_take b2 _) _) (by rw [List.length_drop, List.length_take]; omega)
    have hs : isU32 (saltOf B) := u32_of_bytes (bytes_drop (bytes_take b2 _) _) (by rw [List.length_drop, List.length_take]; omega)
    have hc : isU32 (countOf B) := u32_of_bytes (bytes_drop (bytes_take b2 _) _) (by rw [List.length_drop, List.length_take]; omega)
    simp only [e1, cond_false, cond_true, hB, e2, Int.le_refl, decide_true, Bool.and_self, g1, Option.bind_some, e3, e3', count_eq b1 b2]
    by_cases h1 : countOf B < 1
    · rw [decide_eq_true h1, if_neg (fun h => by have := h.2.1; omega)]; rfl
    · rw [decide_eq_false h1]
      by_cases h2 : (l.length : Int) < countOf B
      · rw [decide_eq_true h2, if_neg (fun h => by have := h.2.2.1; omega)]; rfl
      · rw [decide_eq_false h2]
        obtain ⟨k, hk⟩ := Int.eq_ofNat_of_zero_le hc.1
        rw [hk] at h1 h2 ⊢
        simp only [cond_false, Int.toNat_natCast]
        have hkl : (l.take k).length = k := by rw [List.length_take]; omega
        rw [rrec_loop hl (by omega) (k := k) (by omega)]
        by_cases h3 : ∀ b ∈ l.take k, b.getD 20 0 ≤ 43
        · rw [if_pos h3]
          have hrl := recs_len h3
          rw [hkl] at hrl
          dsimp only [Option.bind_some]
          rw [refFrame_ok hg hn hs hp (by omega), if_neg (by omega)]
          by_cases h5 : 65536 < (recs (l.take k)).length
          · rw [if_pos h5, if_neg (fun h => by have := h.2.2.2.2.2.2.1; omega)]; rfl
          · rw [if_neg h5]
            simp only [Option.bind_some, bne_self_eq_false, cond_false, frame_len, bne_int]
            by_cases h6 : ((partsOf (recs (l.take k)) : Nat) : Int) = (k : Int)
            · rw [decide_eq_true h6, Bool.not_true, cond_false]
              have hcmp := rcmp_loop (l := l) (a := frame g n (saltOf B) p (recs (l.take k))) 0 (by rw [frame_len]; omega) (by omega)
              rw [frame_len, h6] at hcmp
              rw [hcmp]
              have h6' : partsOf (recs (l.take k)) = k := by omega
              rw [h6']
              by_cases h7 : frame g n (saltOf B) p (recs (l.take k)) = l.take k
              · rw [if_pos h7, if_pos ⟨hne, by omega, by omega, h3, h4a, h4b, by omega, h7⟩]; rfl
              · rw [if_neg h7, if_neg (fun h => h7 h.2.2.2.2.2.2.2)]; rfl
            · rw [decide_eq_false h6, if_neg (fun h => h6 (by
                have := congrArg List.length h.2.2.2.2.2.2.2
                rw [frame_len, hkl] at this
                omega))]; rfl
        · rw [if_neg h3, if_neg (fun h => h3 h.2.2.2.1)]; rfl

end Go.Proofs.Ytdnfmkkaojafhaa
