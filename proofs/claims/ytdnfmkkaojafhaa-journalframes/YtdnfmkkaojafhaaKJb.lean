/- Numbers out of bytes; blocks that are opened as a record. -/
import Derived.Test.YtdnfmkkaojafhaaKJa
namespace Go.Proofs.Ytdnfmkkaojafhaa
open Go.Abs
set_option maxRecDepth 100000

def leNum : List Int → Int
  | [] => 0
  | x :: r => x + 256 * leNum r
theorem leNum_app : ∀ (l : List Int) (x : Int), leNum (l ++ [x]) = leNum l + x * 256 ^ l.length
  | [], x => by simp [leNum]
  | y :: l, x => by
    have ih := leNum_app l x
    have e1 : leNum (y :: l ++ [x]) = y + 256 * leNum (l ++ [x]) := rfl
    have e2 : leNum (y :: l) = y + 256 * leNum l := rfl
    rw [e1, e2, ih, List.length_cons, Int.pow_succ, Int.mul_add, Int.mul_comm _ 256, ← Int.mul_assoc 256 x, Int.mul_comm 256 x, Int.mul_assoc x, Int.add_assoc]
theorem leNum_bd : ∀ {l : List Int}, bytesL l → 0 ≤ leNum l ∧ leNum l < 256 ^ l.length
  | [], _ => by simp [leNum]
  | x :: l, h => by
    have h1 := h x (by simp)
    have h2 := leNum_bd (l := l) fun y hy => h y (by simp [hy])
    unfold isByte at h1
    have e2 : leNum (x :: l) = x + 256 * leNum l := rfl
    rw [e2, List.length_cons, Int.pow_succ]
    constructor <;> omega
theorem bytes_take {l : List Int} (h : bytesL l) (n : Nat) : bytesL (l.take n) := fun x hx => h x (List.mem_of_mem_take hx)
theorem bytes_drop {l : List Int} (h : bytesL l) (n : Nat) : bytesL (l.drop n) := fun x hx => h x (List.mem_of_mem_drop hx)
theorem bytes_app {a b : List Int} (h : bytesL a) (k : bytesL b) : bytesL (a ++ b) := fun x hx => by
  rcases List.mem_append.1 hx with hx | hx
  · exact h x hx
  · exact k x hx
theorem bytes_getD {l : List Int} (h : bytesL l) (n : Nat) : isByte (l.getD n 0) := by
  by_cases hn : n < l.length
  · exact h _ (getD_lt hn)
  · rw [List.getD_eq_getElem?_getD, List.getElem?_eq_none (by omega)]
    exact ⟨by decide, by decide⟩

theorem ofNat32 {x : Int} (h1 : 0 ≤ x) (h2 : x ≤ 4294967295) : (BitVec.ofInt (IntKind.u32.bits) x).toNat = x.toNat := by
  rw [BitVec.toNat_ofInt]
  show (x % ((2 ^ 32 : Nat) : Int)).toNat = x.toNat
  rw [Int.emod_eq_of_lt h1 (by omega)]
/-- One more byte of a number. -/
theorem or_byte {a x : Int} {i : Nat} (hi : i ≤ 3) (h1 : 0 ≤ a) (h2 : a < 256 ^ i) (hx : isByte x) :
    bitsOp .or .u32 a (shlOp .u32 (IntKind.u32.wrap x) (IntKind.i64.wrap ((8 : Int) * (i : Int)))) = a + x * 256 ^ i ∧ decide (IntKind.i64.wrap ((8 : Int) * (i : Int)) < 0) = false := by
  obtain ⟨x1, x2⟩ := hx
  rw [w64 (by omega) (by omega)]
  refine ⟨?_, decide_eq_false (by omega)⟩
  rw [wu32 (n := x) x1 (by omega)]
  obtain ⟨y, rfl⟩ := Int.eq_ofNat_of_zero_le x1
  obtain ⟨b, rfl⟩ := Int.eq_ofNat_of_zero_le h1
  have hp : (256 : Nat) ^ i = 2 ^ (8 * i) := by rw [Nat.pow_mul]
  have hpi : (256 : Int) ^ i = ((2 ^ (8 * i) : Nat) : Int) := by rw [← hp]; simp
  rw [hpi] at h2 ⊢
  have hb : b < 2 ^ (8 * i) := by omega
  have hbound : 256 * 2 ^ (8 * i) ≤ 4294967296 := by
    have : 2 ^ (8 * i) ≤ 2 ^ 24 := Nat.pow_le_pow_right (by decide) (by omega)
    omega
  have hy : y ≤ 255 := by omega
  have hmul : y * 2 ^ (8 * i) ≤ 255 * 2 ^ (8 * i) := Nat.mul_le_mul_right _ hy
  have e1 : shlOp .u32 (y : Int) ((8 : Int) * (i : Int)) = ((y * 2 ^ (8 * i) : Nat) : Int) := by
    show IntKind.u32.wrap ((y : Int) * 2 ^ min ((8 : Int) * (i : Int)).toNat 32) = _
    rw [show ((8 : Int) * (i : Int)).toNat = 8 * i by omega, Nat.min_eq_left (by omega)]
    have : (y : Int) * 2 ^ (8 * i) = ((y * 2 ^ (8 * i) : Nat) : Int) := by simp
    rw [this, wu32 (by omega) (by omega)]
  rw [e1]
  have e2 : bitsOp .or .u32 (b : Int) ((y * 2 ^ (8 * i) : Nat) : Int) = IntKind.u32.wrap ((BitVec.ofInt IntKind.u32.bits (b : Int) ||| BitVec.ofInt IntKind.u32.bits ((y * 2 ^ (8 * i) : Nat) : Int)).toNat : Int) := rfl
  rw [e2, BitVec.toNat_or, ofNat32 (by omega) (by omega), ofNat32 (by omega) (by omega), Int.toNat_natCast, Int.toNat_natCast]
  have e3 : b ||| y * 2 ^ (8 * i) = y * 2 ^ (8 * i) + b := by
    rw [Nat.or_comm, ← Nat.shiftLeft_eq, ← Nat.shiftLeft_add_eq_or_of_lt hb]
  rw [e3, wu32 (by omega) (by omega)]
  omega

theorem get_ok {l : List Int} (hb : bytesL l) (hl : l.length ≤ 4) : F_journal_get mx l = some (leNum l) := by
  have := iter_count (f := F_journal_get.l26 mx l (l.length : Int)) (fun i => (leNum (l.take i), (i : Int))) l.length (r := leNum l) (lt_N0 (by omega)) (fun i hi => by
    obtain ⟨b1, b2⟩ := leNum_bd (bytes_take hb i)
    rw [List.length_take, Nat.min_eq_left (by omega)] at b2
    obtain ⟨e1, e2⟩ := or_byte (a := leNum (l.take i)) (x := l.getD i 0) (i := i) (by omega) b1 b2 (bytes_getD hb i)
    simp only [F_journal_get.l26, ltd hi, lez, Bool.and_self, cond_true, Int.toNat_natCast, e1, e2, cond_false]
    rw [inc64 (by omega), take_succ' hi 0, leNum_app, List.length_take, Nat.min_eq_left (by omega)])
    (by simp only [F_journal_get.l26, nltd, cond_false, List.take_length])
  have this : iter mx (F_journal_get.l26 mx l (l.length : Int)) ((0 : Int), (0 : Int)) = _ := this
  simp only [F_journal_get, this, Option.bind_some]

theorem le4_num {n : Int} (h : isU32 n) : leNum (le4 n) = n := by
  obtain ⟨h1, h2⟩ := h
  simp only [le4, leNum, bAt]
  obtain ⟨m, rfl⟩ := Int.eq_ofNat_of_zero_le h1
  simp only [Int.toNat_natCast, Nat.pow_zero, Nat.div_one, Nat.pow_one]
  rw [show 256 ^ 2 = 65536 from rfl, show 256 ^ 3 = 16777216 from rfl]
  omega
theorem le2_num {n : Nat} (h : n < 65536) : leNum (le2 (n : Int)) = (n : Int) := by
  simp only [le2, leNum, bAt, Int.toNat_natCast, Nat.pow_zero, Nat.div_one, Nat.pow_one]
  omega
theorem le4_bytes (n : Int) : bytesL (le4 n) := fun x hx => by
  simp only [le4, List.mem_cons, List.not_mem_nil, or_false] at hx
  rcases hx with rfl | rfl | rfl | rfl <;> exact bAt_byte _ _
theorem le2_bytes (n : Int) : bytesL (le2 n) := fun x hx => by
  simp only [le2, List.mem_cons, List.not_mem_nil, or_false] at hx
  rcases hx with rfl | rfl <;> exact bAt_byte _ _

/-! ### blocks -/
def okBlks (l : List Blk) : Prop := ∀ b ∈ l, b.length = 64 ∧ bytesL b
def genOf (b : Blk) : Int := leNum (b.take 4)
def saltOf (b : Blk) : Int := leNum ((b.take 12).drop 8)
def prevOf (b : Blk) : Int := leNum ((b.take 16).drop 12)
def countOf (b : Blk) : Int := leNum ((b.take 20).drop 18)
section
variable {g n s p : Int} {parts i : Nat} {x : List Int}
theorem blk_gen (hg : isU32 g) : genOf (blk g n s p parts i x) = g := le4_num hg
theorem blk_salt (hs : isU32 s) : saltOf (blk g n s p parts i x) = s := le4_num hs
theorem blk_prev (hp : isU32 p) : prevOf (blk g n s p parts i x) = p := le4_num hp
theorem blk_count (h : parts < 65536) : countOf (blk g n s p parts i x) = (parts : Int) := le2_num h
theorem blk_k : (blk g n s p parts i x).getD 20 0 = (x.length : Int) := rfl
theorem blk_body : ((blk g n s p parts i x).drop 21).take x.length = x := by
  have : (blk g n s p parts i x).drop 21 = x ++ List.replicate (43 - x.length) 0 := by
    rw [blk, List.drop_append, hdr_len, List.drop_eq_nil_of_le (by rw [hdr_len]; omega)]; rfl
  rw [this, List.take_append_of_le_length (by omega), List.take_length]
theorem blk_bytes (hx : bytesL x) (hl : x.length ≤ 43) : bytesL (blk g n s p parts i x) := by
  refine bytes_app (bytes_app (le4_bytes _) (bytes_app (le4_bytes _) (bytes_app (le4_bytes _) (bytes_app (le4_bytes _) (bytes_app (le2_bytes _) (bytes_app (le2_bytes _) ?_)))))) (bytes_app hx ?_)
  · intro y hy
    have : y = (x.length : Int) := by simpa using hy
    subst this
    exact ⟨by omega, by omega⟩
  · intro y hy
    have : y = 0 := (List.mem_replicate.1 hy).2
    subst this
    exact ⟨by decide, by decide⟩
end
theorem frame_okB {g n s p : Int} {r : List Int} (hr : bytesL r) : okBlks (frame g n s p r) := fun b hb => by
  simp only [frame, List.mem_map, List.mem_range] at hb
  obtain ⟨i, _, rfl⟩ := hb
  exact ⟨blk_len (piece_len r i), blk_bytes (bytes_take (bytes_drop hr _) _) (piece_len r i)⟩

/-- The bytes of a record's blocks. -/
def recs (l : List Blk) : List Int := (l.map fun b => (b.drop 21).take (b.getD 20 0).toNat).flatten
theorem recs_app (a b : List Blk) : recs (a ++ b) = recs a ++ recs b := by simp [recs]
theorem recs_len {l : List Blk} (h : ∀ b ∈ l, b.getD 20 0 ≤ 43) : (recs l).length ≤ 43 * l.length := by
  induction l with
  | nil => simp [recs]
  | cons b l ih =>
    have h1 := h b (by simp)
    have h2 := ih fun c hc => h c (by simp [hc])
    have e : recs (b :: l) = (b.drop 21).take (b.getD 20 0).toNat ++ recs l := rfl
    rw [e, List.length_append, List.length_take, List.length_cons]
    omega
theorem recs_bytes {l : List Blk} (h : okBlks l) : bytesL (recs l) := by
  induction l with
  | nil => intro x hx; cases hx
  | cons b l ih => exact bytes_app (bytes_take (bytes_drop (h b (by simp)).2 _) _) (ih fun c hc => h c (by simp [hc]))
theorem pieces_all (r : List Int) : ∀ k, ((List.range k).map (piece r)).flatten = r.take (43 * k)
  | 0 => by simp
  | k + 1 => by
    rw [List.range_succ, List.map_append, List.flatten_append, pieces_all r k]
    simp only [List.map_cons, List.map_nil, List.flatten_cons, List.flatten_nil, List.append_nil, piece]
    rw [show 43 * (k + 1) = 43 * k + 43 by omega, List.take_add]
theorem recs_frame (g n s p : Int) (r : List Int) : recs (frame g n s p r) = r := by
  have : recs (frame g n s p r) = ((List.range (partsOf r)).map (piece r)).flatten := by
    unfold recs frame
    rw [List.map_map]
    congr 1
    refine List.map_congr_left fun i _ => ?_
    simp only [Function.comp, blk_k, Int.toNat_natCast]
    exact blk_body
  rw [this, pieces_all, List.take_of_length_le (parts_cover r)]

/-- The record that blocks begin with: it, its salt, how many blocks. -/
def opn (g n p : Int) (l : List Blk) : Option (List Int × Int × Nat) :=
  if l ≠ [] ∧ 1 ≤ (countOf (l.getD 0 [])).toNat ∧ (countOf (l.getD 0 [])).toNat ≤ l.length ∧ (∀ b ∈ l.take (countOf (l.getD 0 [])).toNat, b.getD 20 0 ≤ 43) ∧ g ≠ 0 ∧ n ≠ 0 ∧
      (recs (l.take (countOf (l.getD 0 [])).toNat)).length ≤ 65536 ∧ frame g n (saltOf (l.getD 0 [])) p (recs (l.take (countOf (l.getD 0 [])).toNat)) = l.take (countOf (l.getD 0 [])).toNat then
    some (recs (l.take (countOf (l.getD 0 [])).toNat), saltOf (l.getD 0 []), (countOf (l.getD 0 [])).toNat) else none

theorem okB_getD {l : List Blk} (h : okBlks l) (hn : l ≠ []) : (l.getD 0 []).length = 64 ∧ bytesL (l.getD 0 []) := by
  cases l with
  | nil => exact absurd rfl hn
  | cons b l => exact h b (by simp)
theorem u32_of_bytes {l : List Int} (h : bytesL l) (hl : l.length ≤ 4) : isU32 (leNum l) := by
  obtain ⟨h1, h2⟩ := leNum_bd h
  have : (256 : Int) ^ l.length ≤ 256 ^ 4 := by
    have : l.length = 0 ∨ l.length = 1 ∨ l.length = 2 ∨ l.length = 3 ∨ l.length = 4 := by omega
    rcases this with h | h | h | h | h <;> rw [h] <;> decide
  exact ⟨h1, by omega⟩

theorem opn_iff {g n p : Int} {l : List Blk} (hl : okBlks l) {r : List Int} {s : Int} {k : Nat} :
    opn g n p l = some (r, s, k) ↔ g ≠ 0 ∧ n ≠ 0 ∧ r.length ≤ 65536 ∧ isU32 s ∧ bytesL r ∧ k = partsOf r ∧ k ≤ l.length ∧ l.take k = frame g n s p r := by
  unfold opn
  constructor
  · intro h
    split at h
    · rename_i hc
      obtain ⟨c1, c2, c3, c4, c5, c6, c7, c8⟩ := hc
      cases h
      refine ⟨c5, c6, c7, ?_, recs_bytes (fun b hb => hl b (List.mem_of_mem_take hb)), ?_, c3, c8.symm⟩
      · obtain ⟨h1, h2⟩ := okB_getD hl c1
        exact u32_of_bytes (bytes_drop (bytes_take h2 _) _) (by rw [List.length_drop, List.length_take]; omega)
      · have := congrArg List.length c8
        rw [frame_len, List.length_take, Nat.min_eq_left c3] at this
        exact this.symm
    · cases h
  · rintro ⟨h1, h2, h3, h4, h5, rfl, h7, h8⟩
    have hpa := parts_pos r
    have hpl := parts_le h3
    have hne : l ≠ [] := fun e => by subst e; simp at h7; omega
    have h0 : l.getD 0 [] = blk g n s p (partsOf r) 0 (piece r 0) := by
      have e1 : (l.take (partsOf r)).getD 0 [] = l.getD 0 [] := by
        rw [getD_some (by rw [List.length_take]; omega), getD_some (by omega), List.getElem_take]
      rw [← e1, h8, getD_some (by rw [frame_len]; omega)]
      simp [frame]
    have hc : (countOf (l.getD 0 [])).toNat = partsOf r := by rw [h0, blk_count (by omega), Int.toNat_natCast]
    have hs : saltOf (l.getD 0 []) = s := by rw [h0, blk_salt h4]
    rw [hc, hs, h8, recs_frame, if_pos]
    refine ⟨hne, hpa, h7, fun b hb => ?_, h1, h2, h3, rfl⟩
    simp only [frame, List.mem_map, List.mem_range] at hb
    obtain ⟨i, _, rfl⟩ := hb
    rw [blk_k]
    have := piece_len r i
    omega

theorem slice_full (b : List Int) : b.take ((b.length : Int).toNat) = b := by rw [Int.toNat_natCast, List.take_length]
theorem rec_loop {l : List Blk} (hl : okBlks l) (hlen : l.length ≤ 1000000000) (s k : Int) :
    iter mx (F_journal_open.l250 mx l (l.length : Int)) (([] : List Int), s, k, (0 : Int)) = some (if ∀ b ∈ l, b.getD 20 0 ≤ 43 then .inr (recs l, s, k) else .inl (0, 0, false)) := by
  rcases iter_scan (f := F_journal_open.l250 mx l (l.length : Int)) (fun i => (recs (l.take i), s, k, (i : Int))) l.length (fun i => (l.getD i []).getD 20 0 ≤ 43) (lt_N0 (by omega)) (fun _ => .inl (0, 0, false)) (.inr (recs l, s, k))
    (fun i hi hp hb => by
      obtain ⟨b1, b2⟩ := hl _ (getD_lt (d := []) hi)
      obtain ⟨b3, b4⟩ := bytes_getD b2 20
      have hw : IntKind.i64.wrap ((l.getD i []).getD 20 0) = (l.getD i []).getD 20 0 := w64 (by omega) (by omega)
      have hrl : (recs (l.take i)).length ≤ 43 * i := by
        have := recs_len (l := l.take i) (fun b hb' => by
          obtain ⟨j, hj, rfl⟩ := List.mem_iff_getElem.1 hb'
          rw [List.length_take] at hj
          have := hb j (by omega)
          rw [getD_some (l := l) (show j < l.length by omega)] at this
          rw [List.getElem_take]; exact this)
        rw [List.length_take, Nat.min_eq_left (by omega)] at this
        exact this
      have e1 : decide ((20 : Int) < ((l.getD i []).length : Int)) = true := decide_eq_true (by omega)
      have e2 : decide ((43 : Int) < (l.getD i []).getD 20 0) = false := decide_eq_false (by omega)
      have e3 : decide ((21 : Int) ≤ ((l.getD i []).length : Int)) = true := decide_eq_true (by omega)
      have e4 : ((l.getD i []).drop 21).length = 43 := by rw [List.length_drop]; omega
      have e5 : decide ((0 : Int) ≤ (l.getD i []).getD 20 0) = true := decide_eq_true b3
      have e6 : decide ((l.getD i []).getD 20 0 ≤ ((43 : Nat) : Int)) = true := decide_eq_true (by omega)
      have e7 : (((l.getD i []).drop 21).take ((l.getD i []).getD 20 0).toNat).length ≤ 43 := by rw [List.length_take]; omega
      have e8 : Nat.ble ((recs (l.take i)).length + (((l.getD i []).drop 21).take ((l.getD i []).getD 20 0).toNat).length) 140737488351232 = true := ble_t (by omega)
      simp only [F_journal_open.l250, ltd hi, lez, Bool.and_self, cond_true, Int.toNat_natCast, e1, hw, e2, cond_false, e3, Int.le_refl, decide_true, List.take_length, e4, e5, e6, List.drop_zero, e8]
      rw [inc64 (by omega), take_succ' hi [], recs_app]
      simp [recs])
    (fun i hi hp hb => by
      obtain ⟨b1, b2⟩ := hl _ (getD_lt (d := []) hi)
      obtain ⟨b3, b4⟩ := bytes_getD b2 20
      have hw : IntKind.i64.wrap ((l.getD i []).getD 20 0) = (l.getD i []).getD 20 0 := w64 (by omega) (by omega)
      have e1 : decide ((20 : Int) < ((l.getD i []).length : Int)) = true := decide_eq_true (by omega)
      have e2 : decide ((43 : Int) < (l.getD i []).getD 20 0) = true := decide_eq_true (by omega)
      simp only [F_journal_open.l250, ltd hi, lez, Bool.and_self, cond_true, Int.toNat_natCast, e1, hw, e2])
    (fun _ => by simp only [F_journal_open.l250, nltd, cond_false, List.take_length]) with ⟨h, e⟩ | ⟨i, hi, hp, _, e⟩
  · have e : iter mx (F_journal_open.l250 mx l (l.length : Int)) (([] : List Int), s, k, (0 : Int)) = _ := e
    rw [e, if_pos]
    intro b hb
    obtain ⟨j, hj, rfl⟩ := List.mem_iff_getElem.1 hb
    have := h j hj
    rwa [getD_some (l := l) hj] at this
  · have e : iter mx (F_journal_open.l250 mx l (l.length : Int)) (([] : List Int), s, k, (0 : Int)) = _ := e
    rw [e, if_neg]
    intro hall
    exact hp (hall _ (getD_lt hi))

theorem eq_take {a l : List Blk} (h : ∀ j, j < a.length → a.getD j [] = l.getD j []) (hl : a.length ≤ l.length) : a = l.take a.length := by
  apply List.ext_getElem (by rw [List.length_take]; omega)
  intro j h1 h2
  have := h j h1
  rw [getD_some h1, getD_some (by omega)] at this
  rw [List.getElem_take]; exact this
theorem cmp_loop {l a : List Blk} (e0 : Int) (hl : a.length ≤ l.length) (hlen : l.length ≤ 1000000000) (r : List Int) (s k : Int) :
    iter mx (F_journal_open.l2042 mx l (a, e0) (a.length : Int)) (r, s, k, (0 : Int)) = some (if a = l.take a.length then .inr (r, s, k) else .inl (0, 0, false)) := by
  rcases iter_scan (f := F_journal_open.l2042 mx l (a, e0) (a.length : Int)) (fun i => (r, s, k, (i : Int))) a.length (fun i => a.getD i [] = l.getD i []) (lt_N0 (by omega)) (fun _ => .inl (0, 0, false)) (.inr (r, s, k))
    (fun i hi hp hb => by
      simp only [F_journal_open.l2042, ltd hi, lez, Bool.and_self, cond_true, Int.toNat_natCast, blt_t hi, ltd (show i < l.length by omega), F_bytes_Equal, hp, beq_self_eq_true, Option.bind_some, Bool.not_true, cond_false]
      rw [inc64 (by omega)])
    (fun i hi hp hb => by
      have : (a.getD i [] == l.getD i []) = false := by simpa using hp
      simp only [F_journal_open.l2042, ltd hi, lez, Bool.and_self, cond_true, Int.toNat_natCast, blt_t hi, ltd (show i < l.length by omega), F_bytes_Equal, this, Option.bind_some, Bool.not_false])
    (fun _ => by simp only [F_journal_open.l2042, nltd, cond_false]) with ⟨h, e⟩ | ⟨i, hi, hp, _, e⟩
  · have e : iter mx (F_journal_open.l2042 mx l (a, e0) (a.length : Int)) (r, s, k, (0 : Int)) = _ := e
    rw [e, if_pos (eq_take h hl)]
  · have e : iter mx (F_journal_open.l2042 mx l (a, e0) (a.length : Int)) (r, s, k, (0 : Int)) = _ := e
    rw [e, if_neg]
    intro hall
    apply hp
    rw [hall, getD_some (by rw [List.length_take]; omega), List.getElem_take, getD_some (by omega)]

theorem open_ok {g n p : Int} (hg : 0 ≤ g) (hn : 0 ≤ n) (hp : 0 ≤ p) {l : List Blk} (hl : okBlks l) (hlen : l.length ≤ 1000000000) :
    F_journal_open mx (g, n, p, l) = some (match opn g n p l with | some (r, s, k) => (r, s, (k : Int), true) | none => ([], 0, 0, false)) := by
  unfold opn
  simp only [F_journal_open, ieq]
  by_cases hne : l = []
  · subst hne
    rw [if_neg (fun h => h.1 rfl)]; rfl
  · have hpos : 0 < l.length := List.length_pos_iff.2 hne
    have e0 : decide ((l.length : Int) = 0) = false := decide_eq_false (by omega)
    have e1 : decide ((0 : Int) < (l.length : Int)) = true := decide_eq_true (by omega)
    obtain ⟨b1, b2⟩ := okB_getD hl hne
    generalize hB : l.getD 0 [] = B at b1 b2
    have e2 : decide ((12 : Int) ≤ (B.length : Int)) = true := decide_eq_true (by omega)
    have e3 : decide ((20 : Int) ≤ (B.length : Int)) = true := decide_eq_true (by omega)
    have g1 : F_journal_get mx ((B.take 12).drop 8) = some (saltOf B) := get_ok (bytes_drop (bytes_take b2 _) _) (by rw [List.length_drop, List.length_take]; omega)
    have g2 : F_journal_get mx ((B.take 20).drop 18) = some (countOf B) := get_ok (bytes_drop (bytes_take b2 _) _) (by rw [List.length_drop, List.length_take]; omega)
    have hs : isU32 (saltOf B) := u32_of_bytes (bytes_drop (bytes_take b2 _) _) (by rw [List.length_drop, List.length_take]; omega)
    have hc : isU32 (countOf B) := u32_of_bytes (bytes_drop (bytes_take b2 _) _) (by rw [List.length_drop, List.length_take]; omega)
    have hw : IntKind.i64.wrap (countOf B) = countOf B := w64 (by have := hc.1; omega) (by have := hc.2; omega)
    simp only [e0, e1, cond_false, cond_true, hB, e2, Int.le_refl, decide_true, Bool.and_self, g1, Option.bind_some, e3, g2, hw]
    by_cases h1 : countOf B < 1
    · rw [decide_eq_true h1, if_neg (fun h => by have := h.2.1; omega)]; rfl
    · rw [decide_eq_false h1]
      by_cases h2 : (l.length : Int) < countOf B
      · rw [decide_eq_true h2, if_neg (fun h => by have := h.2.2.1; omega)]; rfl
      · rw [decide_eq_false h2]
        obtain ⟨k, hk⟩ := Int.eq_ofNat_of_zero_le hc.1
        rw [hk] at h1 h2 ⊢
        have e4 : decide ((0 : Int) ≤ (k : Int)) = true := lez k
        have e5 : decide ((k : Int) ≤ (l.length : Int)) = true := decide_eq_true (by omega)
        simp only [cond_false, e4, e5, Bool.and_self, cond_true, Int.toNat_natCast, List.drop_zero]
        have hkl : (l.take k).length = k := by rw [List.length_take]; omega
        have hok : okBlks (l.take k) := fun b hb => hl b (List.mem_of_mem_take hb)
        rw [rec_loop hok (by omega) (saltOf B) (k : Int)]
        by_cases h3 : ∀ b ∈ l.take k, b.getD 20 0 ≤ 43
        · rw [if_pos h3]
          have hrl := recs_len h3
          rw [hkl] at hrl
          dsimp only [Option.bind_some]
          rw [frame_ok hg hn hs.1 hp (by omega)]
          by_cases h4 : g = 0 ∨ n = 0
          · rw [if_pos h4, if_neg (fun h => by obtain ⟨_, _, _, _, q1, q2, _⟩ := h; rcases h4 with h4 | h4; exact q1 h4; exact q2 h4)]; rfl
          · rw [if_neg h4]
            by_cases h5 : 65536 < (recs (l.take k)).length
            · rw [if_pos h5, if_neg (fun h => by have := h.2.2.2.2.2.2.1; omega)]; rfl
            · rw [if_neg h5]
              simp only [Option.bind_some, bne_self_eq_false, cond_false, frame_len, bne_int]
              by_cases h6 : ((partsOf (recs (l.take k)) : Nat) : Int) = (k : Int)
              · rw [decide_eq_true h6, Bool.not_true, cond_false]
                have hcmp := cmp_loop (l := l) (a := frame g n (saltOf B) p (recs (l.take k))) 0 (by rw [frame_len]; omega) (by omega) (recs (l.take k)) (saltOf B) (k : Int)
                rw [frame_len] at hcmp
                rw [hcmp]
                have h6' : partsOf (recs (l.take k)) = k := by omega
                rw [h6']
                by_cases h7 : frame g n (saltOf B) p (recs (l.take k)) = l.take k
                · rw [if_pos h7, if_pos ⟨hne, by omega, by omega, h3, fun e => h4 (.inl e), fun e => h4 (.inr e), by omega, h7⟩]; rfl
                · rw [if_neg h7, if_neg (fun h => h7 h.2.2.2.2.2.2.2)]; rfl
              · rw [decide_eq_false h6, if_neg (fun h => h6 (by
                  have := congrArg List.length h.2.2.2.2.2.2.2
                  rw [frame_len, hkl] at this
                  omega))]; rfl
        · rw [if_neg h3, if_neg (fun h => h3 h.2.2.2.1)]; rfl
end Go.Proofs.Ytdnfmkkaojafhaa
