/- Numbers as bytes; a record as blocks. -/
import Derived.Test.YtdnfmkkaojafhaaF
import Derived.Test.YtdnfmkkaojafhaaA3
namespace Go.Proofs.Ytdnfmkkaojafhaa
open Go.Abs
set_option maxRecDepth 100000

def bAt (n : Int) (k : Nat) : Int := ((n.toNat / 256 ^ k % 256 : Nat) : Int)
def le4 (n : Int) : List Int := [bAt n 0, bAt n 1, bAt n 2, bAt n 3]
def le2 (n : Int) : List Int := [bAt n 0, bAt n 1]
def isU32 (n : Int) : Prop := 0 ≤ n ∧ n ≤ 4294967295
def isByte (n : Int) : Prop := 0 ≤ n ∧ n ≤ 255
def bytesL (l : List Int) : Prop := ∀ x ∈ l, isByte x
theorem bAt_byte (n : Int) (k : Nat) : isByte (bAt n k) := by
  unfold bAt isByte
  have := Nat.mod_lt (n.toNat / 256 ^ k) (show 0 < 256 by decide)
  omega

theorem put_byte {n : Int} (h : 0 ≤ n) {i : Nat} (hi : i ≤ 3) : IntKind.u8.wrap (shrOp .u32 n (IntKind.i64.wrap ((8 : Int) * (i : Int)))) = bAt n i := by
  obtain ⟨m, rfl⟩ := Int.eq_ofNat_of_zero_le h
  rw [w64 (by omega) (by omega)]
  have e : shrOp .u32 (m : Int) ((8 : Int) * (i : Int)) = ((m / 2 ^ (8 * i) : Nat) : Int) := by
    show (m : Int).fdiv (2 ^ min ((8 : Int) * (i : Int)).toNat 32) = _
    rw [show ((8 : Int) * (i : Int)).toNat = 8 * i by omega, Nat.min_eq_left (by omega), Int.fdiv_eq_ediv_of_nonneg _ (Int.le_of_lt (Int.pow_pos (by decide)))]
    simp
  rw [e, IntKind.wrap_u8]
  unfold bAt
  rw [Int.toNat_natCast, show (256 : Nat) ^ i = 2 ^ (8 * i) by rw [Nat.pow_mul]]
  rfl

theorem put_step {b : List Int} {n : Int} (h : 0 ≤ n) {i : Nat} (hi : i ≤ 3) (hb : b.length + i + 1 ≤ 64) :
    (decide (IntKind.i64.wrap ((8 : Int) * (i : Int)) < 0) = false) ∧ Nat.ble ((b ++ (List.range i).map (bAt n)).length + 1) 64 = true ∧
      (b ++ (List.range i).map (bAt n)) ++ [IntKind.u8.wrap (shrOp .u32 n (IntKind.i64.wrap ((8 : Int) * (i : Int))))] = b ++ (List.range (i + 1)).map (bAt n) := by
  refine ⟨by rw [w64 (by omega) (by omega)]; simp; omega, ble_t (by simp; omega), ?_⟩
  rw [put_byte h hi, List.range_succ, List.map_append, List.append_assoc]; rfl

theorem put4 {n : Int} (h : 0 ≤ n) {b : List Int} (hb : b.length ≤ 60) : iter mx (F_journal_Frame.i6l26 mx n) (b, (0 : Int)) = some (b ++ le4 n) := by
  have := iter_count (f := F_journal_Frame.i6l26 mx n) (fun i => (b ++ (List.range i).map (bAt n), (i : Int))) 4 (r := b ++ (List.range 4).map (bAt n)) (lt_N0 (by omega)) (fun i hi => by
    obtain ⟨e1, e2, e3⟩ := put_step (b := b) h (show i ≤ 3 by omega) (by omega)
    have e4 : decide ((i : Int) < 4) = true := by simp; omega
    simp only [F_journal_Frame.i6l26, F_journal_Frame.i6s210, e4, cond_true, Option.bind_some, e1, cond_false, List.length_singleton, e2, e3]
    rw [inc64 (by omega)])
    (by
      have e4 : decide (((4 : Nat) : Int) < 4) = false := by decide
      simp only [F_journal_Frame.i6l26, F_journal_Frame.i6s210, e4, cond_false, Option.bind_some])
  rw [show (List.range 4).map (bAt n) = le4 n from rfl] at this
  simpa using this
theorem put2a {n : Int} (h : 0 ≤ n) {b : List Int} (hb : b.length ≤ 60) : iter mx (F_journal_Frame.i7l26 mx n) (b, (0 : Int)) = some (b ++ le2 n) := by
  have := iter_count (f := F_journal_Frame.i7l26 mx n) (fun i => (b ++ (List.range i).map (bAt n), (i : Int))) 2 (r := b ++ (List.range 2).map (bAt n)) (lt_N0 (by omega)) (fun i hi => by
    obtain ⟨e1, e2, e3⟩ := put_step (b := b) h (show i ≤ 3 by omega) (by omega)
    have e4 : decide ((i : Int) < 2) = true := by simp; omega
    simp only [F_journal_Frame.i7l26, F_journal_Frame.i7s210, e4, cond_true, Option.bind_some, e1, cond_false, List.length_singleton, e2, e3]
    rw [inc64 (by omega)])
    (by
      have e4 : decide (((2 : Nat) : Int) < 2) = false := by decide
      simp only [F_journal_Frame.i7l26, F_journal_Frame.i7s210, e4, cond_false, Option.bind_some])
  rw [show (List.range 2).map (bAt n) = le2 n from rfl] at this
  simpa using this
theorem put2b {n : Int} (h : 0 ≤ n) {b : List Int} (hb : b.length ≤ 60) : iter mx (F_journal_Frame.i8l26 mx n) (b, (0 : Int)) = some (b ++ le2 n) := by
  have := iter_count (f := F_journal_Frame.i8l26 mx n) (fun i => (b ++ (List.range i).map (bAt n), (i : Int))) 2 (r := b ++ (List.range 2).map (bAt n)) (lt_N0 (by omega)) (fun i hi => by
    obtain ⟨e1, e2, e3⟩ := put_step (b := b) h (show i ≤ 3 by omega) (by omega)
    have e4 : decide ((i : Int) < 2) = true := by simp; omega
    simp only [F_journal_Frame.i8l26, F_journal_Frame.i8s210, e4, cond_true, Option.bind_some, e1, cond_false, List.length_singleton, e2, e3]
    rw [inc64 (by omega)])
    (by
      have e4 : decide (((2 : Nat) : Int) < 2) = false := by decide
      simp only [F_journal_Frame.i8l26, F_journal_Frame.i8s210, e4, cond_false, Option.bind_some])
  rw [show (List.range 2).map (bAt n) = le2 n from rfl] at this
  simpa using this

theorem head_loop {a b c d : Int} (ha : 0 ≤ a) (hb : 0 ≤ b) (hc : 0 ≤ c) (hd : 0 ≤ d) :
    iter mx (F_journal_Frame.l2074234 mx [a, b, c, d] (([a, b, c, d].length : Nat) : Int)) (([] : List Int), (0 : Int)) = some (le4 a ++ (le4 b ++ (le4 c ++ le4 d))) := by
  have hl : ([a, b, c, d].length : Nat) = 4 := rfl
  rw [hl]
  have step : ∀ (k : Nat) (s : List Int), k < 4 → s.length ≤ 60 → 0 ≤ [a, b, c, d].getD k 0 → F_journal_Frame.l2074234 mx [a, b, c, d] ((4 : Nat) : Int) (s, (k : Int)) = some (.next (s ++ le4 ([a, b, c, d].getD k 0), ((k + 1 : Nat) : Int))) := fun k s hk hs h0 => by
    have e1 : decide ((k : Int) < ((4 : Nat) : Int)) = true := by simp; omega
    have e2 : (decide ((0 : Int) ≤ (k : Int)) && decide ((k : Int) < (([a, b, c, d].length : Nat) : Int))) = true := by simp; omega
    have e3 : Nat.blt k [a, b, c, d].length = true := blt_t hk
    simp only [F_journal_Frame.l2074234, e1, e2, cond_true, Int.toNat_natCast, e3, put4 h0 hs, Option.bind_some]
    rw [inc64 (by omega)]
  exact iter_count (f := F_journal_Frame.l2074234 mx [a, b, c, d] ((4 : Nat) : Int)) (fun k => match k with
      | 0 => (([] : List Int), ((0 : Nat) : Int))
      | 1 => (le4 a, ((1 : Nat) : Int))
      | 2 => (le4 a ++ le4 b, ((2 : Nat) : Int))
      | 3 => (le4 a ++ le4 b ++ le4 c, ((3 : Nat) : Int))
      | _ => (le4 a ++ le4 b ++ le4 c ++ le4 d, ((4 : Nat) : Int))) 4 (lt_N0 (by omega)) (fun k hk => by
    match k, hk with
    | 0, _ => exact step 0 [] (by decide) (by simp) ha
    | 1, _ => exact step 1 (le4 a) (by decide) (by simp [le4]) hb
    | 2, _ => exact step 2 (le4 a ++ le4 b) (by decide) (by simp [le4]) hc
    | 3, _ => exact step 3 (le4 a ++ le4 b ++ le4 c) (by decide) (by simp [le4]) hd)
    (by
      have e4 : decide (((4 : Nat) : Int) < ((4 : Nat) : Int)) = false := by decide
      simp only [F_journal_Frame.l2074234, e4, cond_false]
      simp [List.append_assoc])

abbrev Blk := List Int
/-- What a block begins with. -/
def hdr (g n s p : Int) (parts i k : Nat) : List Int := le4 g ++ (le4 n ++ (le4 s ++ (le4 p ++ (le2 (i : Int) ++ (le2 (parts : Int) ++ [(k : Int)])))))
def blk (g n s p : Int) (parts i : Nat) (x : List Int) : Blk := hdr g n s p parts i x.length ++ (x ++ List.replicate (43 - x.length) 0)
theorem hdr_len (g n s p : Int) (parts i k : Nat) : (hdr g n s p parts i k).length = 21 := rfl
theorem blk_len {g n s p : Int} {parts i : Nat} {x : List Int} (h : x.length ≤ 43) : (blk g n s p parts i x).length = 64 := by
  simp only [blk, List.length_append, hdr_len, List.length_replicate]; omega
def partsOf (r : List Int) : Nat := max 1 ((r.length + 42) / 43)
def piece (r : List Int) (i : Nat) : List Int := (r.drop (43 * i)).take 43
theorem piece_len (r : List Int) (i : Nat) : (piece r i).length ≤ 43 := by simp [piece]; omega
def frame (g n s p : Int) (r : List Int) : List Blk := (List.range (partsOf r)).map fun i => blk g n s p (partsOf r) i (piece r i)
theorem frame_len (g n s p : Int) (r : List Int) : (frame g n s p r).length = partsOf r := by simp [frame]
theorem parts_pos (r : List Int) : 1 ≤ partsOf r := by unfold partsOf; omega
theorem parts_le {r : List Int} (h : r.length ≤ 65536) : partsOf r ≤ 1525 := by unfold partsOf; omega
theorem parts_cover (r : List Int) : r.length ≤ 43 * partsOf r := by unfold partsOf; omega

theorem frame_step {g n s p : Int} (hg : 0 ≤ g) (hn : 0 ≤ n) (hs : 0 ≤ s) (hp : 0 ≤ p) {r : List Int} (hr : r.length ≤ 65536) {i : Nat} (hi : i < partsOf r) :
    F_journal_Frame.l506 mx g n s p (partsOf r : Int) (r.drop (43 * i), (List.range i).map (fun j => blk g n s p (partsOf r) j (piece r j)), (i : Int)) =
      some (.next (r.drop (43 * (i + 1)), (List.range (i + 1)).map (fun j => blk g n s p (partsOf r) j (piece r j)), ((i + 1 : Nat) : Int))) := by
  have hpa := parts_le hr
  have e1 : decide ((i : Int) < (partsOf r : Int)) = true := by simp; omega
  generalize hx : r.drop (43 * i) = x
  have hpl : piece r i = x.take 43 := by rw [piece, hx]
  have hxl : x.length ≤ 65536 := by rw [← hx, List.length_drop]; omega
  have e2 : mnI (x.length : Int) 43 = ((min 43 x.length : Nat) : Int) := by unfold mnI; split <;> omega
  have e3 : (x.take (min 43 x.length)).drop 0 = piece r i := by
    rw [List.drop_zero, hpl]
    rcases Nat.le_total 43 x.length with h | h
    · rw [Nat.min_eq_left h]
    · rw [Nat.min_eq_right h, List.take_length, List.take_of_length_le h]
  have e4 : (piece r i).length = min 43 x.length := by rw [hpl, List.length_take]
  have e5 : (x.take x.length).drop (min 43 x.length) = r.drop (43 * (i + 1)) := by
    rw [List.take_length]
    rcases Nat.le_total 43 x.length with h | h
    · rw [Nat.min_eq_left h, ← hx, List.drop_drop]; congr 1
    · rw [Nat.min_eq_right h, List.drop_length]
      have : r.length ≤ 43 * (i + 1) := by
        rw [← hx, List.length_drop] at h; omega
      rw [List.drop_eq_nil_of_le this]
  have d1 : decide ((0 : Int) ≤ ((min 43 x.length : Nat) : Int)) = true := decide_eq_true (by omega)
  have d2 : decide (((min 43 x.length : Nat) : Int) ≤ (x.length : Int)) = true := decide_eq_true (by omega)
  have hi0 : IntKind.u32.wrap (i : Int) = (i : Int) := wu32 (by omega) (by omega)
  have hp0 : IntKind.u32.wrap (partsOf r : Int) = (partsOf r : Int) := wu32 (by omega) (by omega)
  have hk0 : IntKind.u8.wrap (((piece r i).length : Nat) : Int) = (((piece r i).length : Nat) : Int) := wu8 (by omega) (by have := piece_len r i; omega)
  have hh := head_loop hg hn hs hp
  have h16 : (le4 g ++ (le4 n ++ (le4 s ++ le4 p))).length = 16 := rfl
  have h7 := put2a (n := (i : Int)) (by omega) (b := le4 g ++ (le4 n ++ (le4 s ++ le4 p))) (by rw [h16]; omega)
  have h18 : (le4 g ++ (le4 n ++ (le4 s ++ le4 p)) ++ le2 (i : Int)).length = 18 := rfl
  have h8 := put2b (n := (partsOf r : Int)) (by omega) (b := le4 g ++ (le4 n ++ (le4 s ++ le4 p)) ++ le2 (i : Int)) (by rw [h18]; omega)
  have h20 : (le4 g ++ (le4 n ++ (le4 s ++ le4 p)) ++ le2 (i : Int) ++ le2 (partsOf r : Int)).length = 20 := rfl
  have c3 : Nat.ble (20 + 1) 64 = true := rfl
  have hbody : (le4 g ++ (le4 n ++ (le4 s ++ le4 p)) ++ le2 (i : Int) ++ le2 (partsOf r : Int) ++ [(((piece r i).length : Nat) : Int)]) = hdr g n s p (partsOf r) i (piece r i).length := by simp [hdr, List.append_assoc]
  have c4 : Nat.ble (21 + (piece r i).length) 64 = true := ble_t (by have := piece_len r i; omega)
  have hblk : ((hdr g n s p (partsOf r) i (piece r i).length ++ piece r i) ++ List.replicate (64 - (hdr g n s p (partsOf r) i (piece r i).length ++ piece r i).length) 0).take 64 = blk g n s p (partsOf r) i (piece r i) := by
    have hle := piece_len r i
    have hlen : (hdr g n s p (partsOf r) i (piece r i).length ++ piece r i).length = 21 + (piece r i).length := by rw [List.length_append, hdr_len]
    rw [List.take_of_length_le (by rw [List.length_append, hlen, List.length_replicate]; omega), hlen, show 64 - (21 + (piece r i).length) = 43 - (piece r i).length by omega, List.append_assoc]
    rfl
  have c5 : Nat.ble (i + 1) 4294967296 = true := ble_t (by omega)
  simp only [F_journal_Frame.l506, e1, cond_true, e2, d1, d2, Int.toNat_natCast, e3, e4, Int.le_refl, decide_true, Bool.and_self, hh, Option.bind_some, hi0, h7, hp0, h8, h20, List.length_singleton, c3]
  rw [← e4, hk0, hbody]
  simp only [hdr_len, c4, cond_true, hblk, List.length_map, List.length_range, c5]
  rw [e4, e5, inc64 (by omega), List.range_succ, List.map_append]
  simp only [List.map_cons, List.map_nil]

theorem frame_ok {g n s p : Int} (hg : 0 ≤ g) (hn : 0 ≤ n) (hs : 0 ≤ s) (hp : 0 ≤ p) {r : List Int} (hrl : r.length ≤ 140737488351232) :
    F_journal_Frame mx (g, n, s, p, r) = some (if g = 0 ∨ n = 0 then ([], 2) else if 65536 < r.length then ([], 3) else (frame g n s p r, 0)) := by
  simp only [F_journal_Frame, ieq]
  by_cases h1 : g = 0
  · rw [if_pos (.inl h1), decide_eq_true h1]; rfl
  · by_cases h2 : n = 0
    · rw [if_pos (.inr h2), decide_eq_false h1, decide_eq_true h2]; rfl
    · rw [if_neg (by omega), decide_eq_false h1, decide_eq_false h2]
      by_cases h3 : 65536 < r.length
      · have : decide ((65536 : Int) < (r.length : Int)) = true := by simp; omega
        rw [if_pos h3, this]; rfl
      · have e3 : decide ((65536 : Int) < (r.length : Int)) = false := by simp; omega
        have hr : r.length ≤ 65536 := by omega
        have hpa := parts_le hr
        have e4 : mxI 1 (IntKind.i64.wrap ((IntKind.i64.wrap (IntKind.i64.wrap ((r.length : Int) + 43) - 1)).tdiv 43)) = (partsOf r : Int) := by
          rw [w64 (n := (r.length : Int) + 43) (by omega) (by omega), w64 (n := (r.length : Int) + 43 - 1) (by omega) (by omega)]
          have : ((r.length : Int) + 43 - 1).tdiv 43 = (((r.length + 42) / 43 : Nat) : Int) := by
            rw [show (r.length : Int) + 43 - 1 = ((r.length + 42 : Nat) : Int) by omega]; exact cast_tdiv _ 43
          rw [this, w64 (by omega) (by omega)]
          unfold mxI partsOf
          split <;> omega
        have e5 : (decide ((0 : Int) ≤ (partsOf r : Int)) && decide ((partsOf r : Int) ≤ 4294967296)) = true := by simp; omega
        rw [if_neg h3, e3]
        simp only [cond_false, e4, e5, cond_true]
        have := iter_count (f := F_journal_Frame.l506 mx g n s p (partsOf r : Int)) (fun i => (r.drop (43 * i), (List.range i).map (fun j => blk g n s p (partsOf r) j (piece r j)), (i : Int))) (partsOf r) (r := frame g n s p r) (lt_N0 (by omega))
          (fun i hi => frame_step hg hn hs hp hr hi) (by simp only [F_journal_Frame.l506, nltd, cond_false]; rfl)
        have t1 : iter mx (F_journal_Frame.l506 mx g n s p (partsOf r : Int)) (r, (List.replicate 0 [] : List (List Int)), (0 : Int)) = _ := this
        have t2 : iter mx (F_journal_Frame.l506 mx g n s p (partsOf r : Int)) (r, ([] : List (List Int)), (0 : Int)) = _ := this
        first
        | rw [t1]; rfl
        | rw [t2]; rfl
end Go.Proofs.Ytdnfmkkaojafhaa
