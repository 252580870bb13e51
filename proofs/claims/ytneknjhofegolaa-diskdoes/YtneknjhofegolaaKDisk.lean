/- What the functions on disks compute, in plain words. -/
import Derived.Test.YtneknjhofegolaaF
import Derived.Test.YtneknjhofegolaaA3
namespace Go.Proofs.Ytneknjhofegolaa
open Go.Abs
set_option maxRecDepth 100000

abbrev Put := Int × List Int
/-- May a disk be? -/
def okD (d : List Int) : Prop := 64 ≤ d.length ∧ d.length ≤ 262144 ∧ d.length % 64 = 0
instance (d : List Int) : Decidable (okD d) := by unfold okD; infer_instance
theorem check_disk (d : List Int) : F_disk_Check mx d = some (if okD d then 0 else 20) := by
  have e : ((d.length : Int).tmod (64 : Int)) = ((d.length % 64 : Nat) : Int) := cast_tmod _ 64
  simp only [F_disk_Check, e, bne_int]
  by_cases h1 : d.length < 64
  · have h1' : decide ((d.length : Int) < 64) = true := by simp; omega
    have : ¬ okD d := fun h => by have := h.1; omega
    rw [h1', if_neg this]; rfl
  · have h1' : decide ((d.length : Int) < 64) = false := by simp; omega
    rw [h1']
    by_cases h2 : 262144 < d.length
    · have h2' : decide ((262144 : Int) < (d.length : Int)) = true := by simp; omega
      have : ¬ okD d := fun h => by have := h.2.1; omega
      rw [h2', if_neg this]; rfl
    · have h2' : decide ((262144 : Int) < (d.length : Int)) = false := by simp; omega
      rw [h2']
      by_cases h3 : d.length % 64 = 0
      · have : okD d := ⟨by omega, by omega, h3⟩
        rw [if_pos this, h3]; rfl
      · have : ¬ okD d := fun h => h3 h.2.2
        have h3' : decide (((d.length % 64 : Nat) : Int) = 0) = false := by simp; omega
        rw [if_neg this, h3']; rfl
theorem many_disk (d : List Int) : F_disk_Many mx d = some (if okD d then (((d.length / 64 : Nat) : Int), 0) else (0, 20)) := by
  have e : ((d.length : Int).tdiv (64 : Int)) = ((d.length / 64 : Nat) : Int) := cast_tdiv _ 64
  simp only [F_disk_Many, check_disk, Option.bind_some, e]
  by_cases h : okD d
  · have := h.2.1
    rw [if_pos h, if_pos h, w64 (by omega) (by omega)]; rfl
  · rw [if_neg h, if_neg h]; rfl
theorem asked_disk (d : List Int) (n : Int) : F_disk_asked mx (d, n) = some (if okD d then (if 0 ≤ n ∧ n < ((d.length / 64 : Nat) : Int) then 0 else 2) else 20) := by
  simp only [F_disk_asked, many_disk, Option.bind_some]
  by_cases h : okD d
  · rw [if_pos h, if_pos h]
    by_cases h1 : n < 0
    · rw [if_neg (by omega)]
      have : decide (n < 0) = true := by simpa using h1
      simp [this]
    · have e1 : decide (n < 0) = false := by simpa using h1
      by_cases h2 : ((d.length / 64 : Nat) : Int) ≤ n
      · rw [if_neg (by omega)]
        have e2 : decide (((d.length / 64 : Nat) : Int) ≤ n) = true := by simpa using h2
        simp only [e1, e2]; rfl
      · rw [if_pos (by omega)]
        have e2 : decide (((d.length / 64 : Nat) : Int) ≤ n) = false := by simpa using h2
        simp only [e1, e2]; rfl
  · rw [if_neg h, if_neg h]; rfl

theorem new_disk (n : Int) : F_disk_New mx n = some (if 1 ≤ n ∧ n ≤ 4096 then (List.replicate (n * 64).toNat 0, 0) else ([], 20)) := by
  simp only [F_disk_New]
  by_cases h1 : n < 1
  · have : decide (n < 1) = true := by simpa using h1
    rw [this, if_neg (by omega)]; rfl
  · have e1 : decide (n < 1) = false := by simpa using h1
    by_cases h2 : 4096 < n
    · have : decide (4096 < n) = true := by simpa using h2
      rw [e1, this, if_neg (by omega)]; rfl
    · have e2 : decide (4096 < n) = false := by simpa using h2
      rw [e1, e2, if_pos (by omega), w64 (by omega) (by omega)]
      have e3 : (decide ((0 : Int) ≤ n * 64) && decide (n * 64 ≤ n * 64) && decide (n * 64 ≤ 4294967296)) = true := by simp; omega
      rw [e3]; rfl

theorem clone_bytes {l : List Int} (h : l.length ≤ 140737488351232) : C_bytes_Clone mx l = some l := by
  simp only [C_bytes_Clone, ble_t h, cond_true]

/-- A block. -/
def blockOf (d : List Int) (n : Nat) : List Int := (d.drop (64 * n)).take 64
theorem blockOf_len {d : List Int} {n : Nat} (h : n < d.length / 64) : (blockOf d n).length = 64 := by
  unfold blockOf
  have := Nat.div_mul_le_self d.length 64
  have h2 : 64 * (n + 1) ≤ 64 * (d.length / 64) := Nat.mul_le_mul_left 64 h
  simp; omega
theorem at_disk {d : List Int} {n : Nat} (hd : d.length ≤ 262144) (h : n < d.length / 64) : F_disk_at mx (d, (n : Int)) = some (blockOf d n) := by
  have hm := Nat.div_mul_le_self d.length 64
  have h2 : 64 * (n + 1) ≤ 64 * (d.length / 64) := Nat.mul_le_mul_left 64 h
  simp only [F_disk_at]
  rw [w64 (n := (n : Int) + 1) (by omega) (by omega), w64 (n := (n : Int) * 64) (by omega) (by omega), w64 (n := ((n : Int) + 1) * 64) (by omega) (by omega)]
  have e : (decide ((0 : Int) ≤ (n : Int) * 64) && decide ((n : Int) * 64 ≤ ((n : Int) + 1) * 64) && decide (((n : Int) + 1) * 64 ≤ ((n : Int) + 1) * 64) && decide (((n : Int) + 1) * 64 ≤ (d.length : Int))) = true := by simp; omega
  rw [e, cond_true]
  congr 1
  unfold blockOf
  rw [show (((n : Int) + 1) * 64).toNat = 64 * n + 64 by omega, show ((n : Int) * 64).toNat = 64 * n by omega, List.drop_take, show 64 * n + 64 - 64 * n = 64 by omega]
theorem read_disk (d : List Int) (n : Int) : F_disk_Read mx (d, n) = some (if okD d then (if 0 ≤ n ∧ n < ((d.length / 64 : Nat) : Int) then (blockOf d n.toNat, 0) else ([], 2)) else ([], 20)) := by
  simp only [F_disk_Read, asked_disk, Option.bind_some]
  by_cases h : okD d
  · rw [if_pos h, if_pos h]
    by_cases h1 : 0 ≤ n ∧ n < ((d.length / 64 : Nat) : Int)
    · rw [if_pos h1, if_pos h1]
      obtain ⟨k, rfl⟩ := Int.eq_ofNat_of_zero_le h1.1
      have hk : k < d.length / 64 := by omega
      have := at_disk h.2.1 hk
      simp only [Int.toNat_natCast, this, Option.bind_some, clone_bytes (l := blockOf d k) (by rw [blockOf_len hk]; omega)]
      rfl
    · rw [if_neg h1, if_neg h1]; rfl
  · rw [if_neg h, if_neg h]; rfl

/-- What is wrong with a write. -/
def putErr (d : List Int) (p : Put) : Int := if 0 ≤ p.1 ∧ p.1 < ((d.length / 64 : Nat) : Int) then (if p.2.length = 64 then 0 else 3) else 2
def putsErr (d : List Int) (l : List Put) : Int := match l.find? (fun p => !decide (putErr d p = 0)) with
  | some p => putErr d p
  | none => 0
/-- One write is done. -/
def wr1 (d : List Int) (p : Put) : List Int := d.take (64 * p.1.toNat) ++ p.2 ++ d.drop (64 * p.1.toNat + 64)
def wr (d : List Int) (l : List Put) : List Int := l.foldl wr1 d
theorem putErr_ok {d : List Int} {p : Put} (h : putErr d p = 0) : 0 ≤ p.1 ∧ p.1 < ((d.length / 64 : Nat) : Int) ∧ p.2.length = 64 := by
  unfold putErr at h
  split at h
  · rename_i h1
    split at h
    · rename_i h2; exact ⟨h1.1, h1.2, h2⟩
    · cases h
  · cases h
theorem wr1_len {d : List Int} {p : Put} (h : putErr d p = 0) : (wr1 d p).length = d.length := by
  obtain ⟨h1, h2, h3⟩ := putErr_ok h
  have hm := Nat.div_mul_le_self d.length 64
  simp only [wr1, List.length_append, List.length_take, List.length_drop, h3]
  omega
theorem putErr_len {d e : List Int} (h : e.length = d.length) (p : Put) : putErr e p = putErr d p := by simp only [putErr, h]
theorem putsErr_len {d e : List Int} (h : e.length = d.length) (l : List Put) : putsErr e l = putsErr d l := by
  have : putErr e = putErr d := by funext p; exact putErr_len h p
  simp only [putsErr, this]
theorem putsErr_ok {d : List Int} {l : List Put} : putsErr d l = 0 ↔ ∀ p ∈ l, putErr d p = 0 := by
  unfold putsErr
  constructor
  · intro h p hp
    cases hf : l.find? (fun p => !decide (putErr d p = 0)) with
    | none =>
      rw [List.find?_eq_none] at hf
      simpa using hf p hp
    | some q =>
      have := List.find?_some hf
      rw [hf] at h
      simp [h] at this
  · intro h
    have : l.find? (fun p => !decide (putErr d p = 0)) = none := by
      rw [List.find?_eq_none]
      intro p hp
      simp [h p hp]
    rw [this]
theorem wr_len : ∀ {l : List Put} {d : List Int}, (∀ p ∈ l, putErr d p = 0) → (wr d l).length = d.length
  | [], _, _ => rfl
  | p :: l, d, h => by
    have h1 := wr1_len (h p (by simp))
    show (wr (wr1 d p) l).length = _
    rw [wr_len (l := l) (fun q hq => by rw [putErr_len h1]; exact h q (by simp [hq])), h1]

theorem do_scan {d : List Int} {l : List Put} (hd : okD d) (hl : l.length ≤ 1000000000000000000) :
    iter mx (F_disk_Do.l58 mx d l (l.length : Int)) (0 : Int) = some (if putsErr d l = 0 then .inr () else .inl (putsErr d l)) := by
  have := iter_findL (f := F_disk_Do.l58 mx d l (l.length : Int)) l (0, []) (fun p => decide (putErr d p = 0)) (fun k => (k : Int)) (fun p => .inl (putErr d p)) (.inr ()) (lt_N0 hl)
    (fun k hk hp => by
      obtain ⟨h1, h2, h3⟩ := putErr_ok (of_decide_eq_true hp)
      simp only [F_disk_Do.l58, ltd hk, lez, Bool.and_self, cond_true, Int.toNat_natCast, asked_disk, if_pos hd, Option.bind_some, if_pos (show 0 ≤ (l.getD k (0, [])).1 ∧ (l.getD k (0, [])).1 < _ from ⟨h1, h2⟩), h3]
      rw [inc64 (by omega)]; rfl)
    (fun k hk hp => by
      have hp : ¬ putErr d (l.getD k (0, [])) = 0 := of_decide_eq_false hp
      simp only [F_disk_Do.l58, ltd hk, lez, Bool.and_self, cond_true, Int.toNat_natCast, asked_disk, if_pos hd, Option.bind_some]
      unfold putErr at hp ⊢
      by_cases h1 : 0 ≤ (l.getD k (0, [])).1 ∧ (l.getD k (0, [])).1 < ((d.length / 64 : Nat) : Int)
      · rw [if_pos h1] at hp
        rw [if_pos h1, if_pos h1]
        by_cases h2 : (l.getD k (0, [])).2.length = 64
        · rw [if_pos h2] at hp; exact absurd rfl hp
        · rw [if_neg h2]
          have : (((l.getD k (0, [])).2.length : Int) != 64) = true := bne_iff_ne.2 fun h => h2 (by omega)
          rw [this]; rfl
      · rw [if_neg h1, if_neg h1]; rfl)
    (by simp only [F_disk_Do.l58, nltd, cond_false])
  have this : iter mx (F_disk_Do.l58 mx d l (l.length : Int)) (0 : Int) = _ := this
  rw [this]
  unfold putsErr
  cases hf : l.find? (fun p => !decide (putErr d p = 0)) with
  | none => simp
  | some q =>
    have := List.find?_some hf
    have hq : ¬ putErr d q = 0 := by simpa using this
    simp [hq]

theorem at_w {d : List Int} {n : Int} (hd : d.length ≤ 262144) (h0 : 0 ≤ n) (h : n < ((d.length / 64 : Nat) : Int)) : F_disk_at_w mx (d, n) = some (n * 64, 64) := by
  have hm := Nat.div_mul_le_self d.length 64
  have h2 : n * 64 + 64 ≤ (d.length : Int) := by omega
  simp only [F_disk_at_w]
  rw [w64 (n := n + 1) (by omega) (by omega), w64 (n := n * 64) (by omega) (by omega), w64 (n := (n + 1) * 64) (by omega) (by omega)]
  have e : (decide ((0 : Int) ≤ n * 64) && decide (n * 64 < (n + 1) * 64) && decide ((n + 1) * 64 ≤ (d.length : Int))) = true := by simp; omega
  rw [e, cond_true, show (n + 1) * 64 - n * 64 = 64 by omega]

theorem do_writes {d : List Int} {l : List Put} (hd : d.length ≤ 262144) (h : ∀ p ∈ l, putErr d p = 0) (hl : l.length ≤ 1000000000000000000) :
    iter mx (F_disk_Do.l506 mx l (l.length : Int)) ((0 : Int), d) = some (wr d l) := by
  refine iter_fold (f := F_disk_Do.l506 mx l (l.length : Int)) l (0, []) wr1 d (fun k s => ((k : Int), s)) (lt_N0 hl) (fun k hk => ?_) (by simp only [F_disk_Do.l506, nltd, cond_false]; rfl)
  have hlen : ((l.take k).foldl wr1 d).length = d.length := wr_len fun p hp => h p (List.mem_of_mem_take hp)
  have hk0 : putErr d (l.getD k (0, [])) = 0 := h _ (getD_lt hk)
  obtain ⟨h1, h2, h3⟩ := putErr_ok hk0
  have hm := Nat.div_mul_le_self d.length 64
  simp only [F_disk_Do.l506, ltd hk, lez, Bool.and_self, cond_true, Int.toNat_natCast]
  rw [at_w (by rw [hlen]; exact hd) h1 (by rw [hlen]; exact h2)]
  have e1 : ((l.getD k (0, [])).1 * 64).toNat = 64 * (l.getD k (0, [])).1.toNat := by omega
  simp only [Option.bind_some, h3, hlen, e1]
  have e2 : (Nat.ble (64 * (l.getD k (0, [])).1.toNat + (64 : Int).toNat) d.length && (Nat.beq 64 (64 : Int).toNat && Nat.ble (64 : Int).toNat 4294967296)) = true := by
    have : Nat.ble (64 * (l.getD k (0, [])).1.toNat + 64) d.length = true := Nat.ble_eq_true_of_le (by omega)
    simp only [show (64 : Int).toNat = 64 from rfl, this]; rfl
  rw [e2, cond_true, inc64 (by omega)]
  rfl

/-- What doing some writes yields. -/
def doS (d : List Int) (l : List Put) (m : Int) : List Int × Int :=
  if okD d then (if putsErr d l = 0 then (if 0 ≤ m ∧ m ≤ (l.length : Int) then (wr d (l.take m.toNat), 0) else ([], 2)) else ([], putsErr d l)) else ([], 20)
theorem do_disk {d : List Int} {l : List Put} {m : Int} (hl : l.length ≤ 1000000000000000000) : F_disk_Do mx (d, l, m) = some (doS d l m) := by
  simp only [F_disk_Do, check_disk, Option.bind_some, doS]
  by_cases hd : okD d
  · rw [if_pos hd, if_pos hd]
    simp only [do_scan hd hl, Option.bind_some, bne_self_eq_false, cond_false]
    by_cases hp : putsErr d l = 0
    · rw [if_pos hp, if_pos hp]
      dsimp only
      by_cases h1 : m < 0
      · have : decide (m < 0) = true := by simpa using h1
        rw [this, if_neg (by omega)]; rfl
      · have e1 : decide (m < 0) = false := by simpa using h1
        by_cases h2 : (l.length : Int) < m
        · have : decide ((l.length : Int) < m) = true := by simpa using h2
          rw [e1, this, if_neg (by omega)]; rfl
        · have e2 : decide ((l.length : Int) < m) = false := by simpa using h2
          rw [e1, e2, if_pos (by omega), clone_bytes (by have := hd.2.1; omega)]
          have e3 : (decide ((0 : Int) ≤ m) && decide (m ≤ m) && decide (m ≤ (l.length : Int))) = true := by simp; omega
          simp only [Option.bind_some, e3, cond_true, cond_false, List.drop_zero]
          rw [do_writes (l := l.take m.toNat) hd.2.1 (fun p hp' => putsErr_ok.1 hp p (List.mem_of_mem_take hp')) (by rw [List.length_take]; omega)]
          rfl
    · rw [if_neg hp, if_neg hp]
  · rw [if_neg hd, if_neg hd]; rfl

/-- Those that were not done. -/
def leftS (l : List Put) (m : Int) : List Put × Int := if 0 ≤ m ∧ m ≤ (l.length : Int) then (l.drop m.toNat, 0) else ([], 2)
theorem left_disk {l : List Put} {m : Int} (hl : l.length ≤ 1000000000) (hb : ∀ p ∈ l, p.2.length ≤ 140737488351232) : F_disk_Left mx (l, m) = some (leftS l m) := by
  simp only [F_disk_Left, leftS]
  by_cases h1 : m < 0
  · have : decide (m < 0) = true := by simpa using h1
    rw [this, if_neg (by omega)]; rfl
  · have e1 : decide (m < 0) = false := by simpa using h1
    by_cases h2 : (l.length : Int) < m
    · have : decide ((l.length : Int) < m) = true := by simpa using h2
      rw [e1, this, if_neg (by omega)]; rfl
    · have e2 : decide ((l.length : Int) < m) = false := by simpa using h2
      have e3 : (decide ((0 : Int) ≤ m) && decide (m ≤ (l.length : Int)) && decide ((l.length : Int) ≤ (l.length : Int)) && decide ((l.length : Int) ≤ (l.length : Int))) = true := by simp; omega
      rw [e1, e2, if_pos (by omega), e3]
      simp only [cond_false, cond_true, Int.toNat_natCast, List.take_length]
      have hb' : ∀ p ∈ l.drop m.toNat, p.2.length ≤ 140737488351232 := fun p hp => hb p (List.mem_of_mem_drop hp)
      have hl' : (l.drop m.toNat).length ≤ 1000000000 := by rw [List.length_drop]; omega
      generalize l.drop m.toNat = q at hb' hl'
      have := iter_fold (f := F_disk_Left.l122 mx q (q.length : Int)) q (0, []) (fun (s : List Put) x => s ++ [x]) [] (fun k s => (s, (k : Int))) (r := q) (lt_N0 (by omega)) (fun k hk => by
        have hlen : ((q.take k).foldl (fun (s : List Put) x => s ++ [x]) []).length = k := by
          rw [foldl_map' (fun x => x)]; simp; omega
        simp only [F_disk_Left.l122, ltd hk, lez, Bool.and_self, cond_true, Int.toNat_natCast, clone_bytes (hb' _ (getD_lt hk)), Option.bind_some, hlen, List.length_singleton]
        rw [ble_t (show k + 1 ≤ 4294967296 by omega), inc64 (by omega)]
        rfl)
        (by
          simp only [F_disk_Left.l122, nltd, cond_false]
          rw [foldl_map' (fun x => x)]; simp)
      have this : iter mx (F_disk_Left.l122 mx q (q.length : Int)) (([] : List (Int × List Int)), (0 : Int)) = _ := this
      rw [this]; rfl
end Go.Proofs.Ytneknjhofegolaa
