/- The plain law of NumbersSends. -/
import Derived.Test.YtmkfifilpkhfoaaKW
namespace Go.Proofs.Ytmkfifilpkhfoaa.numbersSends
open Go.Abs
set_option maxRecDepth 100000

theorem bump (f : Fu → Int × List Int → Option (Step (Int × List Int) Unit)) (hf : ∀ (k : Nat) (l : List Int), k < l.length → l.length ≤ 1000000000000000000 → f mx ((k : Int), l) = some (.next (((k + 1 : Nat) : Int), l.set k (IntKind.u8.wrap (l.getD k 0 + 1)))))
    (he : ∀ l : List Int, f mx ((l.length : Int), l) = some (.fin ())) (l : List Int) (hl : l.length ≤ 1000000000000000000) : iter mx (f mx) ((0 : Int), l) = some () := by
  obtain ⟨r, hr, _⟩ := iter_inv (f := f mx) (fun s => ∃ k : Nat, s.1 = (k : Int) ∧ k ≤ l.length ∧ s.2.length = l.length) (fun s => l.length - s.1.toNat) (fun _ => True) ((0 : Int), l) ⟨0, rfl, Nat.zero_le _, rfl⟩ (by
    simp only [Int.toNat_zero, Nat.sub_zero]; exact lt_N0 hl) (fun s ⟨k, e, hk, hs⟩ => by
    obtain ⟨i, s⟩ := s
    dsimp only at e hs
    subst e
    by_cases h1 : k < l.length
    · left
      exact ⟨_, hf k s (by omega) (by omega), ⟨k + 1, rfl, by omega, by simp [hs]⟩, by dsimp only; omega⟩
    · right
      have : k = s.length := by omega
      subst this
      exact ⟨_, he s, trivial⟩)
  exact hr

theorem wild1 (x : Int × Int × Int × List (List Int) × Int × Int × Int × List Int × Int) (h1 : x.2.2.2.1.length ≤ 1000000000000000000) (h2 : ∀ r ∈ x.2.2.2.1, r.length ≤ 1000000000000000000) : iter mx (F_law24_NumbersSends.l262138 mx x) (0 : Int) = some () := by
  have e4 : ∀ k, k < x.2.2.2.1.length → iter mx (F_law24_NumbersSends.l16776850 mx x (k : Int)) (0 : Int) = some () := fun k hk => by
    have hbk := h2 _ (getD_lt (d := []) hk)
    exact iter_fold (f := F_law24_NumbersSends.l16776850 mx x (k : Int)) (x.2.2.2.1.getD k []) 0 (fun (s : Unit) _ => s) () (fun k _ => (k : Int)) (r := ()) (lt_N0 hbk) (fun j hj => by
        simp only [F_law24_NumbersSends.l16776850, ltd hk, lez, Bool.and_self, cond_true, Int.toNat_natCast, ltd hj]
        rw [inc64 (by omega)])
        (by simp only [F_law24_NumbersSends.l16776850, ltd hk, lez, Bool.and_self, cond_true, Int.toNat_natCast, nltd, cond_false])
  exact iter_fold (f := F_law24_NumbersSends.l262138 mx x) x.2.2.2.1 [] (fun (s : Unit) _ => s) () (fun k _ => (k : Int)) (r := ()) (lt_N0 h1) (fun j hj => by
        simp only [F_law24_NumbersSends.l262138, ltd hj, cond_true, e4 j hj, Option.bind_some]
        rw [inc64 (by omega)])
        (by simp only [F_law24_NumbersSends.l262138, nltd, cond_false])
theorem wild2 (x : List Msg × Int) (h1 : x.1.length ≤ 1000000000000000000) (h2 : ∀ r ∈ x.1, r.2.2.2.length ≤ 1000000000000000000) : iter mx (F_law24_NumbersSends.l524282 mx x) (0 : Int) = some () := by
  have e4 : ∀ k, k < x.1.length → iter mx (F_law24_NumbersSends.l33554066 mx x (k : Int)) (0 : Int) = some () := fun k hk => by
    have hbk := h2 _ (getD_lt (d := (0, 0, 0, [])) hk)
    exact iter_fold (f := F_law24_NumbersSends.l33554066 mx x (k : Int)) (x.1.getD k (0, 0, 0, [])).2.2.2 0 (fun (s : Unit) _ => s) () (fun k _ => (k : Int)) (r := ()) (lt_N0 hbk) (fun j hj => by
        simp only [F_law24_NumbersSends.l33554066, ltd hk, lez, Bool.and_self, cond_true, Int.toNat_natCast, blt_t hk, ltd hj]
        rw [inc64 (by omega)])
        (by simp only [F_law24_NumbersSends.l33554066, ltd hk, lez, Bool.and_self, cond_true, Int.toNat_natCast, blt_t hk, nltd, cond_false])
  exact iter_fold (f := F_law24_NumbersSends.l524282 mx x) x.1 (0, 0, 0, []) (fun (s : Unit) _ => s) () (fun k _ => (k : Int)) (r := ()) (lt_N0 h1) (fun j hj => by
        simp only [F_law24_NumbersSends.l524282, ltd hj, cond_true, e4 j hj, Option.bind_some]
        rw [inc64 (by omega)])
        (by simp only [F_law24_NumbersSends.l524282, nltd, cond_false])
theorem wild3 (x : HR) (h1 : x.2.2.2.2.1.length ≤ 1000000000000000000) (h2 : ∀ r ∈ x.2.2.2.2.1, r.2.2.2.length ≤ 1000000000000000000) : iter mx (F_law24_NumbersSends.l1048570 mx x) (0 : Int) = some () := by
  have e4 : ∀ k, k < x.2.2.2.2.1.length → iter mx (F_law24_NumbersSends.l67108498 mx x (k : Int)) (0 : Int) = some () := fun k hk => by
    have hbk := h2 _ (getD_lt (d := (0, 0, 0, [])) hk)
    exact iter_fold (f := F_law24_NumbersSends.l67108498 mx x (k : Int)) (x.2.2.2.2.1.getD k (0, 0, 0, [])).2.2.2 0 (fun (s : Unit) _ => s) () (fun k _ => (k : Int)) (r := ()) (lt_N0 hbk) (fun j hj => by
        simp only [F_law24_NumbersSends.l67108498, ltd hk, lez, Bool.and_self, cond_true, Int.toNat_natCast, blt_t hk, ltd hj]
        rw [inc64 (by omega)])
        (by simp only [F_law24_NumbersSends.l67108498, ltd hk, lez, Bool.and_self, cond_true, Int.toNat_natCast, blt_t hk, nltd, cond_false])
  exact iter_fold (f := F_law24_NumbersSends.l1048570 mx x) x.2.2.2.2.1 (0, 0, 0, []) (fun (s : Unit) _ => s) () (fun k _ => (k : Int)) (r := ()) (lt_N0 h1) (fun j hj => by
        simp only [F_law24_NumbersSends.l1048570, ltd hj, cond_true, e4 j hj, Option.bind_some]
        rw [inc64 (by omega)])
        (by simp only [F_law24_NumbersSends.l1048570, nltd, cond_false])

theorem msgN_len {s : Snd} (hs : ∀ r ∈ s.2.2.2, r.length ≤ 140737488351232) (k : Int) : (msgN s k).2.2.2.length ≤ 140737488351232 := by
  unfold msgN
  dsimp only
  generalize (((s.2.2.2.length : Int) - 1) - (s.2.1 - k)).toNat = j
  by_cases h : j < s.2.2.2.length
  · exact hs _ (getD_lt h)
  · rw [List.getD_eq_getElem?_getD, List.getElem?_eq_none (by omega)]; simp
theorem behind_len {s : Snd} (hs : ∀ r ∈ s.2.2.2, r.length ≤ 140737488351232) (k : Int) : ∀ x ∈ behindL s k, x.2.2.2.length ≤ 1000000000000000000 := fun x hx => by
  unfold behindL at hx
  simp only [List.mem_map] at hx
  obtain ⟨i, _, rfl⟩ := hx
  have := msgN_len hs (lowN s k + 1 + (i : Int))
  omega
theorem behind_count (s : Snd) (k : Int) : (behindL s k).length ≤ s.2.2.2.length := by
  have : s.2.1 - (s.2.2.2.length : Int) ≤ lowN s k := by unfold lowN mxI; split <;> omega
  simp only [behindL, List.length_map, List.length_range]
  omega
theorem hear_len {s : Snd} (hs : ∀ r ∈ s.2.2.2, r.length ≤ 140737488351232) (hl : s.2.2.2.length ≤ 100) (v : Img) (m : Msg) :
    (hearS s v m).2.2.2.1.length ≤ 100 ∧ (hearS s v m).2.2.2.2.1.length ≤ 100 ∧ ∀ r ∈ (hearS s v m).2.2.2.2.1, r.2.2.2.length ≤ 1000000000000000000 := by
  have none : ∀ r ∈ ([] : List Msg), r.2.2.2.length ≤ 1000000000000000000 := fun r hr => by cases hr
  unfold hearS
  split
  · split
    · exact ⟨hl, Nat.zero_le _, none⟩
    · exact ⟨hl, Nat.zero_le _, none⟩
  · split
    · split
      · exact ⟨hl, Nat.le_trans (behind_count s _) hl, behind_len hs _⟩
      · split
        · rename_i h
          refine ⟨hl, by simp, fun r hr => ?_⟩
          rw [List.mem_singleton] at hr
          subst hr
          have := (writeS_ok (v := v) (a := (writeS v).1) (by rw [← h])).2.2
          show (writeS v).1.length ≤ _
          omega
        · exact ⟨Nat.zero_le _, Nat.zero_le _, none⟩
    · exact ⟨hl, Nat.zero_le _, none⟩
theorem send_len {s : Snd} (hs : ∀ r ∈ s.2.2.2, r.length ≤ 140737488351232) (hl : s.2.2.2.length ≤ 100) (cs : List Chg) :
    (sendS s cs).2.2.2.1.length ≤ 200 ∧ (∀ r ∈ (sendS s cs).2.2.2.1, r.length ≤ 1000000000000000000) ∧ (sendS s cs).2.2.2.2.2.2.2.1.length ≤ 65536 := by
  have none : ∀ r ∈ ([] : List (List Int)), r.length ≤ 1000000000000000000 := fun r hr => by cases hr
  unfold sendS
  split
  · split
    · rename_i h2
      have hcl := (chErr_zero.1 h2).2.2
      split
      · exact ⟨Nat.zero_le _, none, Nat.zero_le _⟩
      · refine ⟨by dsimp only; rw [lastR_len]; omega, fun r hr => ?_, hcl⟩
        have hr := List.mem_of_mem_drop hr
        rcases List.mem_append.1 hr with hr | hr
        · have := hs r hr; omega
        · rw [List.mem_singleton] at hr; subst hr; omega
    · exact ⟨Nat.zero_le _, none, Nat.zero_le _⟩
  · exact ⟨Nat.zero_le _, none, Nat.zero_le _⟩
theorem main (s : Snd) (e n : Int) (cs : List Chg) (v : Img) (m : Msg) (hs : wfS s) (hcw : ∀ c ∈ cs, wfC c) (hcl : cs.length ≤ 140737488351232) (hb : ∀ k ∈ v.2.2.1, k.2.1.length ≤ 140737488351232 ∧ k.2.2.1.length ≤ 140737488351232) (hwk : ∀ k ∈ v.2.2.1, wfK k)
    (hvl : v.2.2.1.length ≤ 140737488351232) (hk : 0 ≤ m.1 ∧ m.1 ≤ 255) (hm : bytesI m.2.2.2) :
    F_law24_NumbersSends mx (s.1, s.2.1, s.2.2.1, s.2.2.2, e, n, cs, v.1, v.2.1, v.2.2.1, v.2.2.2.1, v.2.2.2.2.1, v.2.2.2.2.2, m) = some true := by
  obtain ⟨b1, g1, g1'⟩ := great24 s (by have := hs.1; omega)
  obtain ⟨b2, g2, g2'⟩ := heavy_some cs (by omega)
  obtain ⟨b3, g3, g3'⟩ := great_some v (by omega)
  simp only [F_law24_NumbersSends, g1, g2, g3, Option.bind_some]
  cases b1 with
  | true => rfl
  | false =>
  cases b2 with
  | true => rfl
  | false =>
  cases b3 with
  | true => rfl
  | false =>
  have k1 := g1' rfl
  have k2 := g2' rfl
  have k3 := g3' rfl
  simp only [cond_false]
  by_cases h4 : 100000 < m.2.2.2.length
  · rw [decide_eq_true (show (100000 : Int) < (m.2.2.2.length : Int) by omega)]; rfl
  rw [decide_eq_false (show ¬ (100000 : Int) < (m.2.2.2.length : Int) by omega), cond_false]
  have htw : F_ref24_Twin mx (s.1, s.2.1, s.2.2.1, s.2.2.2) = some s := rtwin24_ok (s := s) (by omega) (fun r hr => (hs.2 r hr).2)
  have hkl : ∀ r ∈ s.2.2.2, r.length ≤ 140737488351232 := fun r hr => (hs.2 r hr).2
  obtain ⟨H, hh1, hh2, hh3, hh4, hh5⟩ : ∃ H : HR, F_numbers_Hear mx (s.1, s.2.1, s.2.2.1, s.2.2.2, v.1, v.2.1, v.2.2.1, v.2.2.2.1, v.2.2.2.2.1, v.2.2.2.2.2, m) = some H ∧
      F_ref24_Hear mx (s.1, s.2.1, s.2.2.1, s.2.2.2, v.1, v.2.1, v.2.2.1, v.2.2.2.1, v.2.2.2.2.1, v.2.2.2.2.2, m) = some H ∧ H.2.2.2.1.length ≤ 100 ∧ H.2.2.2.2.1.length ≤ 100 ∧ ∀ r ∈ H.2.2.2.2.1, r.2.2.2.length ≤ 1000000000000000000 := by
    have hr := rhear_ok hs hb hwk hk hm
    rcases hear_ok hs hb hwk hk hm with ⟨q1, q2, q3, q4⟩ | ⟨q1, q4⟩
    · exact ⟨_, q4, hr.1 ⟨q1, q2, q3⟩, hear_len hkl k1 v m⟩
    · exact ⟨_, q4, hr.2 q1, Nat.zero_le _, Nat.zero_le _, fun r hr => by cases hr⟩
  obtain ⟨A, ha1, ha2, ha3, ha4⟩ : ∃ A : List Msg × Int, F_numbers_Again mx s = some A ∧ F_ref24_Again mx (s.1, s.2.1, s.2.2.1, s.2.2.2) = some A ∧ A.1.length ≤ 100 ∧ ∀ r ∈ A.1, r.2.2.2.length ≤ 1000000000000000000 := by
    by_cases h : okN s
    · exact ⟨_, (nagain_ok hs).1 h, (ragain_ok hs).1 h, Nat.le_trans (behind_count s _) k1, behind_len hkl _⟩
    · exact ⟨_, (nagain_ok hs).2 h, (ragain_ok hs).2 h, Nat.zero_le _, fun r hr => by cases hr⟩
  obtain ⟨c, hc1, hc2⟩ : ∃ c, F_numbers_Check mx s = some c ∧ F_ref24_Check mx (s.1, s.2.1, s.2.2.1, s.2.2.2) = some c := by
    by_cases h : okN s
    · exact ⟨_, (checkN_ok hs).1 h, (rcheck24_ok hs).1 h⟩
    · exact ⟨_, (checkN_ok hs).2 h, (rcheck24_ok hs).2 h⟩
  obtain ⟨N, hn1, hn2, hn3⟩ : ∃ N : Int × Int × Int × List (List Int) × Int, F_numbers_New mx (e, n) = some N ∧ F_ref24_New mx (e, n) = some N ∧ N.2.2.2.1.length ≤ 100 := ⟨_, newN_ok e n, rnew24_ok e n, by split <;> exact Nat.zero_le _⟩
  have hS1 := nsend_ok hs hcw
  have hS2 := rsend_ok hs hcw
  obtain ⟨l1, l2, l3⟩ := send_len hkl k1 cs
  generalize sendS s cs = S at hS1 hS2 l1 l2 l3
  have z1 := rsameS_ok (s := (N.1, N.2.1, N.2.2.1, N.2.2.2.1)) (by dsimp only; omega)
  have z2 := rsameS_ok (s := (S.1, S.2.1, S.2.2.1, S.2.2.2.1)) (by dsimp only; omega)
  have z3 := rsameS_ok (s := (H.1, H.2.1, H.2.2.1, H.2.2.2.1)) (by dsimp only; omega)
  have z4 := rsameS_ok (s := s) (by omega)
  have z4' : F_ref24_SameSender mx (s.1, s.2.1, s.2.2.1, s.2.2.2, s.1, s.2.1, s.2.2.1, s.2.2.2) = some true := z4
  have z5 := rsameM_ok (S.2.2.2.2.1, S.2.2.2.2.2.1, S.2.2.2.2.2.2.1, S.2.2.2.2.2.2.2.1)
  have z6 := rsameMs_ok (l := H.2.2.2.2.1) (by omega)
  have z7 := rsameMs_ok (l := A.1) (by omega)
  dsimp only at z1 z2 z3 z5
  have e1 : iter mx (F_law24_NumbersSends.l65530 mx) ((0 : Int), S.2.2.2.2.2.2.2.1) = some () := bump F_law24_NumbersSends.l65530 (fun k l hk hl => by
    simp only [F_law24_NumbersSends.l65530, ltd hk, lez, Bool.and_self, cond_true, Int.toNat_natCast, blt_t hk]
    rw [inc64 (by omega)]) (fun l => by simp only [F_law24_NumbersSends.l65530, nltd, cond_false]) _ (by omega)
  simp only [htw, hn1, hn2, hS1, hS2, hh1, hh2, ha1, ha2, Option.bind_some, z1, z2, z3, z4', z5, z6, z7, Bool.not_true, cond_false, bne_self_eq_false, hc1, hc2, e1, wild1 S (by omega) l2, wild2 A (by omega) ha4, wild3 H (by omega) hh5, cond_true]
theorem pure (p : (tupT (insL F_law24_NumbersSends.sig.pars)).den) (h : wfIns F_law24_NumbersSends.sig.pars p) : F_law24_NumbersSends mx p = some true := by
  obtain ⟨s1, s2, s3, s4, e, n, cs, v1, v2, v3, v4, v5, v6, m⟩ := p
  have hi := h.2.2.2.2.1.2.2.1
  have hc := h.2.2.2.1.1
  refine main (s1, s2, s3, s4) e n cs (v1, v2, v3, v4, v5, v6) m ⟨h.1.2.2.2.1.2, fun r hr => ⟨fun x hx => wfu8 ((h.1.2.2.2.1.1 r hr).1 x hx), (h.1.2.2.2.1.1 r hr).2⟩⟩ (fun c hcm => ?_) hc.2 (fun k hk => ?_) (fun k hk => ?_) hi.2 (wfu8 h.2.2.2.2.2.1.1) (fun x hx => wfu8 (h.2.2.2.2.2.1.2.2.2.1.1 x hx))
  · have hx := hc.1 c hcm
    exact ⟨wfu32 hx.2.2.1.2.2.1, (wfu64 hx.2.2.1.2.2.2.2).1, (wfu64 hx.2.2.1.2.2.2.2).2⟩
  · have := hi.1 k hk
    exact ⟨this.2.1.2, this.2.2.1.2⟩
  · have := hi.1 k hk
    exact ⟨wfu32 this.2.2.2.1, wfu64 this.2.2.2.2.2⟩
end Go.Proofs.Ytmkfifilpkhfoaa.numbersSends
