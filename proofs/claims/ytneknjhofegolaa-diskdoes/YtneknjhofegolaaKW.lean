/- The law's own disks. -/
import Derived.Test.YtneknjhofegolaaKL
namespace Go.Proofs.Ytneknjhofegolaa
open Go.Abs
set_option maxRecDepth 100000

theorem twin02 {d : List Int} (h : d.length ≤ 140737488351232) : F_ref02_Twin mx d = some d := by
  simp only [F_ref02_Twin, ble_t h, cond_true]
theorem check02 (d : List Int) : F_ref02_Check mx d = some (if okD d then 0 else 20) := check_disk d
theorem new02 (n : Int) : F_ref02_New mx n = some (if 1 ≤ n ∧ n ≤ 4096 then (List.replicate (n * 64).toNat 0, 0) else ([], 20)) := new_disk n
theorem many02 {d : List Int} (h : d.length ≤ 1000000000000) : F_ref02_Many mx d = some (((d.length / 64 : Nat) : Int)) := by
  simp only [F_ref02_Many, show ((d.length : Int).tdiv (64 : Int)) = ((d.length / 64 : Nat) : Int) from cast_tdiv _ 64]
  rw [w64 (by omega) (by omega)]
theorem block02 {d : List Int} {n : Nat} (hd : d.length ≤ 262144) (h : n < d.length / 64) : F_ref02_Block mx (d, (n : Int)) = some (blockOf d n) := by
  have hm := Nat.div_mul_le_self d.length 64
  have h2 : 64 * (n + 1) ≤ 64 * (d.length / 64) := Nat.mul_le_mul_left 64 h
  simp only [F_ref02_Block]
  rw [w64 (n := (n : Int) * 64) (by omega) (by omega), w64 (n := (n : Int) * 64 + 64) (by omega) (by omega)]
  have e : (decide ((0 : Int) ≤ (n : Int) * 64) && decide ((n : Int) * 64 ≤ (n : Int) * 64 + 64) && decide ((n : Int) * 64 + 64 ≤ (d.length : Int)) && decide ((d.length : Int) ≤ (d.length : Int))) = true := by simp; omega
  have e2 : (d.take ((n : Int) * 64 + 64).toNat).drop ((n : Int) * 64).toNat = blockOf d n := by
    unfold blockOf
    rw [show ((n : Int) * 64 + 64).toNat = 64 * n + 64 by omega, show ((n : Int) * 64).toNat = 64 * n by omega, List.drop_take, show 64 * n + 64 - 64 * n = 64 by omega]
  rw [e, cond_true, e2, ble_t (by rw [blockOf_len h]; omega), cond_true]
theorem read02 (d : List Int) (n : Int) : F_ref02_Read mx (d, n) = some (if okD d then (if 0 ≤ n ∧ n < ((d.length / 64 : Nat) : Int) then (blockOf d n.toNat, 0) else ([], 2)) else ([], 20)) := by
  simp only [F_ref02_Read, check02, Option.bind_some]
  by_cases h : okD d
  · have hb := h.2.1
    rw [if_pos h, if_pos h, many02 (by omega)]
    by_cases h1 : n < 0
    · have : decide (n < 0) = true := by simpa using h1
      rw [this, if_neg (by omega)]; rfl
    · have e1 : decide (n < 0) = false := by simpa using h1
      by_cases h2 : ((d.length / 64 : Nat) : Int) ≤ n
      · have e2 : decide (((d.length / 64 : Nat) : Int) ≤ n) = true := by simpa using h2
        simp only [e1, Option.bind_some, e2]
        rw [if_neg (by omega)]; rfl
      · have e2 : decide (((d.length / 64 : Nat) : Int) ≤ n) = false := by simpa using h2
        obtain ⟨k, rfl⟩ := Int.eq_ofNat_of_zero_le (show 0 ≤ n by omega)
        simp only [e1, Option.bind_some, e2, cond_false, block02 hb (show k < d.length / 64 by omega), Int.toNat_natCast]
        rw [if_pos (by omega)]; rfl
  · rw [if_neg h, if_neg h]; rfl
theorem asked02 {d : List Int} (hd : d.length ≤ 1000000000000) (p : Put) : F_ref02_asked mx (d, p) = some (putErr d p) := by
  obtain ⟨n, x⟩ := p
  simp only [F_ref02_asked, many02 hd, Option.bind_some, putErr]
  by_cases h1 : n < 0
  · have : decide (n < 0) = true := by simpa using h1
    rw [this, if_neg (by omega)]; rfl
  · have e1 : decide (n < 0) = false := by simpa using h1
    by_cases h2 : ((d.length / 64 : Nat) : Int) ≤ n
    · have e2 : decide (((d.length / 64 : Nat) : Int) ≤ n) = true := by simpa using h2
      rw [e1, e2, if_neg (by omega)]; rfl
    · have e2 : decide (((d.length / 64 : Nat) : Int) ≤ n) = false := by simpa using h2
      rw [e1, e2, if_pos (by omega)]
      by_cases h3 : x.length = 64
      · have : ((x.length : Int) != 64) = false := by rw [h3]; rfl
        rw [this, if_pos h3]; rfl
      · have : ((x.length : Int) != 64) = true := bne_iff_ne.2 fun h => h3 (by omega)
        rw [this, if_neg h3]; rfl

theorem putsErr_cons (d : List Int) (p : Put) (l : List Put) : putsErr d (p :: l) = if putErr d p = 0 then putsErr d l else putErr d p := by
  unfold putsErr
  by_cases h : putErr d p = 0
  · rw [if_pos h]; simp [h]
  · rw [if_neg h]; simp [h]

theorem do_scan02 {d : List Int} {l : List Put} (hd : d.length ≤ 1000000000000) (hl : l.length ≤ 1000000000000000000) :
    iter mx (F_ref02_Do.l58 mx d l) ((0 : Int), (0 : Int)) = some (putsErr d l) := by
  obtain ⟨r, hr, hq⟩ := iter_inv (f := F_ref02_Do.l58 mx d l) (fun s => ∃ k : Nat, s.2 = (k : Int) ∧ k ≤ l.length ∧ putsErr d l = if s.1 = 0 then putsErr d (l.drop k) else s.1) (fun s => l.length - s.2.toNat) (fun r => r = putsErr d l) ((0 : Int), (0 : Int)) ⟨0, rfl, Nat.zero_le _, by simp⟩ (by
    simp only [Int.toNat_zero, Nat.sub_zero]; exact lt_N0 hl) (fun s ⟨k, e, hk, hp⟩ => by
    obtain ⟨s, i⟩ := s
    dsimp only at e hp
    subst e
    by_cases h1 : k < l.length
    · by_cases h2 : s = 0
      · left
        subst h2
        rw [if_pos rfl] at hp
        refine ⟨(putErr d (l.getD k (0, [])), ((k + 1 : Nat) : Int)), ?_, ⟨k + 1, rfl, by omega, ?_⟩, by dsimp only; omega⟩
        · simp only [F_ref02_Do.l58, F_ref02_Do.s232, ltd h1, beq_self_eq_true, lez, Bool.and_self, cond_true, Option.bind_some, Int.toNat_natCast]
          rw [asked02 hd, Option.bind_some, inc64 (by omega)]
        · dsimp only
          rw [hp, List.drop_eq_getElem_cons h1, putsErr_cons, getD_some h1]
      · right
        have h2' : (s == 0) = false := by simpa using h2
        exact ⟨s, by simp only [F_ref02_Do.l58, F_ref02_Do.s232, ltd h1, h2', cond_true, cond_false, Option.bind_some], by rw [hp, if_neg h2]⟩
    · right
      have h1' : decide ((k : Int) < (l.length : Int)) = false := by simp; omega
      refine ⟨s, by simp only [F_ref02_Do.l58, F_ref02_Do.s232, h1', cond_false, Option.bind_some], ?_⟩
      rw [hp]
      by_cases h2 : s = 0
      · rw [if_pos h2, List.drop_eq_nil_of_le (by omega), h2]; rfl
      · rw [if_neg h2])
  rw [hq] at hr
  exact hr

theorem do_stop02 {d : List Int} {l : List Put} {e : Int} (he : e ≠ 0) : iter mx (F_ref02_Do.l58 mx d l) (e, (0 : Int)) = some e := by
  obtain ⟨r, hr, hq⟩ := iter_inv (f := F_ref02_Do.l58 mx d l) (fun s => s = (e, (0 : Int))) (fun _ => 0) (fun r => r = e) (e, (0 : Int)) rfl (lt_N0 (by omega)) (fun s hs => by
    subst hs
    right
    have h2' : (e == 0) = false := by simpa using he
    refine ⟨e, ?_, rfl⟩
    simp only [F_ref02_Do.l58, F_ref02_Do.s232, h2']
    cases decide ((0 : Int) < (l.length : Int)) <;> rfl)
  rw [hq] at hr
  exact hr

theorem set_mid {d x : List Int} {a j : Nat} (h1 : a + j < d.length) (h2 : j < x.length) : (d.take a ++ x.take j ++ d.drop (a + j)).set (a + j) (x.getD j 0) = d.take a ++ x.take (j + 1) ++ d.drop (a + (j + 1)) := by
  have hl : (d.take a ++ x.take j).length = a + j := by simp; omega
  rw [List.set_append, if_neg (by omega), hl, Nat.sub_self, List.drop_eq_getElem_cons h1, List.set_cons_zero, getD_some h2, show x.take (j + 1) = x.take j ++ [x[j]] from (List.take_append_getElem h2).symm]
  simp only [List.append_assoc, List.cons_append, List.nil_append, Nat.add_assoc]

theorem copy02 {l : List Put} {d : List Int} {k : Nat} (hk : k < l.length) (hd : d.length ≤ 262144) (h : putErr d (l.getD k (0, [])) = 0) :
    iter mx (F_ref02_Do.l65170 mx l ((k : Int), d)) ((0 : Int), d) = some (wr1 d (l.getD k (0, []))) := by
  obtain ⟨h1, h2, h3⟩ := putErr_ok h
  generalize hp : l.getD k (0, []) = p at h1 h2 h3
  obtain ⟨q, x⟩ := p
  dsimp only at h1 h2 h3
  obtain ⟨q, rfl⟩ := Int.eq_ofNat_of_zero_le h1
  have hm := Nat.div_mul_le_self d.length 64
  obtain ⟨r, hr, hq⟩ := iter_inv (f := F_ref02_Do.l65170 mx l ((k : Int), d)) (fun s => ∃ j : Nat, s.1 = (j : Int) ∧ j ≤ 64 ∧ s.2 = d.take (64 * q) ++ x.take j ++ d.drop (64 * q + j)) (fun s => 64 - s.1.toNat) (fun r => r = wr1 d ((q : Int), x)) ((0 : Int), d) ⟨0, rfl, by omega, by simp⟩ (lt_N0 (by omega)) (fun s ⟨j, e, hj, hs⟩ => by
    obtain ⟨i, s⟩ := s
    dsimp only at e hs
    subst e
    have hsl : s.length = d.length := by rw [hs]; simp; omega
    have hq1 : 64 * q + 64 ≤ d.length := by omega
    by_cases hj2 : j < 64
    · left
      have e0 : decide ((j : Int) < 64) = true := by simp; omega
      have e1 : IntKind.i64.wrap (IntKind.i64.wrap ((q : Int) * 64) + (j : Int)) = ((64 * q + j : Nat) : Int) := by
        rw [w64 (n := (q : Int) * 64) (by omega) (by omega), w64 (by omega) (by omega)]; omega
      refine ⟨(((j + 1 : Nat) : Int), d.take (64 * q) ++ x.take (j + 1) ++ d.drop (64 * q + (j + 1))), ?_, ⟨j + 1, rfl, by omega, rfl⟩, by dsimp only; omega⟩
      simp only [F_ref02_Do.l65170, e0, ltd hk, lez, Bool.and_self, cond_true, Int.toNat_natCast, hp, e1, ltd (show j < x.length by omega), ltd (show 64 * q + j < s.length by omega), blt_t (show 64 * q + j < s.length by omega)]
      rw [hs, set_mid (x := x) (j := j) (a := 64 * q) (by omega) (by omega), inc64 (by omega)]
    · right
      have e0 : decide ((j : Int) < 64) = false := by simp; omega
      refine ⟨s, by simp only [F_ref02_Do.l65170, e0, cond_false], ?_⟩
      have : j = 64 := by omega
      subst this
      rw [hs, List.take_of_length_le (l := x) (by omega)]
      simp only [wr1, Int.toNat_natCast])
  rw [hq] at hr
  exact hr

theorem do_writes02 {d : List Int} {l : List Put} {n : Nat} (hn : n ≤ l.length) (hd : d.length ≤ 262144) (h : ∀ p ∈ l, putErr d p = 0) (hl : l.length ≤ 1000000000000000000) :
    iter mx (F_ref02_Do.l1018 mx l (n : Int)) ((0 : Int), d) = some (wr d (l.take n)) := by
  have hlt : (l.take n).length = n := by rw [List.length_take]; omega
  have hget : ∀ k, k < n → (l.take n).getD k (0, []) = l.getD k (0, []) := fun k hk => by
    rw [getD_some (by omega), getD_some (by omega), List.getElem_take]
  refine iter_fold (f := F_ref02_Do.l1018 mx l (n : Int)) (l.take n) (0, []) wr1 d (fun k s => ((k : Int), s)) (lt_N0 (by omega)) (fun k hk => ?_) (by simp only [F_ref02_Do.l1018, hlt, nltd, cond_false]; rfl)
  rw [hlt] at hk
  have hlen : (((l.take n).take k).foldl wr1 d).length = d.length := wr_len fun p hp => h p (List.mem_of_mem_take (List.mem_of_mem_take hp))
  simp only [F_ref02_Do.l1018, ltd hk, cond_true]
  rw [copy02 (by omega) (by rw [hlen]; exact hd) (by rw [putErr_len hlen]; exact h _ (getD_lt (by omega))), Option.bind_some, inc64 (by omega), hget k hk]

theorem do02 {d : List Int} {l : List Put} {m : Int} (hd0 : d.length ≤ 1000000000000) (hl : l.length ≤ 1000000000000000000) : F_ref02_Do mx (d, l, m) = some (doS d l m) := by
  simp only [F_ref02_Do, check02, Option.bind_some, doS]
  by_cases hd : okD d
  · rw [if_pos hd, if_pos hd]
    simp only [do_scan02 hd0 hl, Option.bind_some]
    by_cases hp : putsErr d l = 0
    · rw [if_pos hp, hp]
      by_cases h1 : m < 0
      · have : decide (m < 0) = true := by simpa using h1
        rw [this, if_neg (by omega)]; rfl
      · have e1 : decide (m < 0) = false := by simpa using h1
        by_cases h2 : (l.length : Int) < m
        · have : decide ((l.length : Int) < m) = true := by simpa using h2
          rw [e1, this, if_neg (by omega)]; rfl
        · have e2 : decide ((l.length : Int) < m) = false := by simpa using h2
          rw [e1, e2, if_pos (by omega), twin02 (by omega)]
          obtain ⟨n, rfl⟩ := Int.eq_ofNat_of_zero_le (show 0 ≤ m by omega)
          simp only [Option.bind_some, do_writes02 (n := n) (by omega) hd.2.1 (putsErr_ok.1 hp) hl, Int.toNat_natCast]
          rfl
    · have : (putsErr d l != 0) = true := bne_iff_ne.2 hp
      rw [if_neg hp, this]; rfl
  · rw [if_neg hd, if_neg hd, do_stop02 (by decide), Option.bind_some]; rfl

theorem puts02 {l : List Put} (hl : l.length ≤ 1000000000) (hb : ∀ p ∈ l, p.2.length ≤ 140737488351232) : F_ref02_TwinPuts mx l = some l := by
  have := iter_fold (f := F_ref02_TwinPuts.l58 mx l) l (0, []) (fun (s : List Put) x => s ++ [x]) [] (fun k s => (s, (k : Int))) (r := l) (lt_N0 (by omega)) (fun k hk => by
      have hlen : ((l.take k).foldl (fun (s : List Put) x => s ++ [x]) []).length = k := by
        rw [foldl_map' (fun x => x)]; simp; omega
      simp only [F_ref02_TwinPuts.l58, ltd hk, lez, Bool.and_self, cond_true, Int.toNat_natCast, ble_t (hb _ (getD_lt hk)), hlen, List.length_singleton]
      rw [ble_t (show k + 1 ≤ 4294967296 by omega), inc64 (by omega)]
      rfl)
      (by
        simp only [F_ref02_TwinPuts.l58, nltd, cond_false]
        rw [foldl_map' (fun x => x)]; simp)
  have this : iter mx (F_ref02_TwinPuts.l58 mx l) (([] : List (Int × List Int)), (0 : Int)) = some l := this
  simp only [F_ref02_TwinPuts, this, Option.bind_some]

theorem left02 {l : List Put} {m : Int} (hl : l.length ≤ 1000000000) (hb : ∀ p ∈ l, p.2.length ≤ 140737488351232) : F_ref02_Left mx (l, m) = some (leftS l m) := by
  simp only [F_ref02_Left, leftS]
  by_cases h1 : m < 0
  · have : decide (m < 0) = true := by simpa using h1
    rw [this, if_neg (by omega)]; rfl
  · have e1 : decide (m < 0) = false := by simpa using h1
    by_cases h2 : (l.length : Int) < m
    · have : decide ((l.length : Int) < m) = true := by simpa using h2
      rw [e1, this, if_neg (by omega)]; rfl
    · have e2 : decide ((l.length : Int) < m) = false := by simpa using h2
      have e3 : (decide ((0 : Int) ≤ m) && decide (m ≤ (l.length : Int)) && decide ((l.length : Int) ≤ (l.length : Int)) && decide ((l.length : Int) ≤ (l.length : Int))) = true := by simp; omega
      rw [e1, e2, if_pos (by omega), e3]
      simp only [cond_false, cond_true, Int.toNat_natCast, List.take_length]
      rw [puts02 (by rw [List.length_drop]; omega) (fun p hp => hb p (List.mem_of_mem_drop hp))]
      rfl

theorem same02 {l : List Put} (hl : l.length ≤ 1000000000) : F_ref02_SamePuts mx (l, l) = some true := by
  have hr := iter_fold (f := F_ref02_SamePuts.l58 mx l l) l (0, []) (fun (s : Unit) _ => s) () (fun k _ => (k : Int)) (r := .inr ()) (lt_N0 (by omega)) (fun k hk => by
      simp only [F_ref02_SamePuts.l58, ltd hk, lez, Bool.and_self, cond_true, Int.toNat_natCast, bne_self_eq_false, beq_self_eq_true, Bool.not_true, cond_false]
      rw [inc64 (by omega)])
      (by simp only [F_ref02_SamePuts.l58, nltd, cond_false])
  have hr : iter mx (F_ref02_SamePuts.l58 mx l l) (0 : Int) = _ := hr
  simp only [F_ref02_SamePuts, bne_self_eq_false, cond_false, hr, Option.bind_some]
end Go.Proofs.Ytneknjhofegolaa
