/- The plain law of NumbersRise. -/
import Derived.Test.YtmkfifilpkhfoaaKS
import Derived.Test.YtmkfifilpkhfoaaKNc
namespace Go.Proofs.Ytmkfifilpkhfoaa.numbersRise
open Go.Abs
set_option maxRecDepth 100000
theorem one_ok : F_law24_one mx () = some (0, [1], [], 0, 0, false) := by kernel_rfl
theorem okI_one : okI (0, [1], [], 0, 0, false) := by decide
/-- Where a sender stands that has sent records. -/
def Sent (e n0 : Int) (took : List (List Int)) (s : Snd) : Prop := s = (e, n0 + (took.length : Int), 0, lastR took) ∧ ∀ r ∈ took, isCh r ∧ bytesI r ∧ r.length ≤ 65536
theorem Sent.wf {e n0 : Int} {took : List (List Int)} {s : Snd} (h : Sent e n0 took s) (hl : took.length ≤ 1000) : wfS s := by
  obtain ⟨rfl, h⟩ := h
  refine ⟨by have := lastR_len took; dsimp only; omega, fun r hr => ?_⟩
  obtain ⟨_, h2, h3⟩ := h r (List.mem_of_mem_drop hr)
  exact ⟨h2, by omega⟩
theorem Sent.ok {e n0 : Int} {took : List (List Int)} {s : Snd} (h : Sent e n0 took s) (he : inN e) (hn : inN n0) (hl : n0 + (took.length : Int) ≤ 2147483647) : okN s := by
  obtain ⟨rfl, h⟩ := h
  have := lastR_len took
  obtain ⟨n1, n2⟩ := hn
  refine ⟨he, ⟨by dsimp only; omega, hl⟩, ⟨Int.le_refl 0, by dsimp only; omega⟩, ⟨by dsimp only; omega, by dsimp only; omega⟩, fun r hr => (h r (List.mem_of_mem_drop hr)).1⟩
theorem lastR_snoc (l : List (List Int)) (r : List Int) : lastR (lastR l ++ [r]) = lastR (l ++ [r]) := by
  have h1 := lastR_len l
  have h2 : (lastR l ++ [r]).length = (lastR l).length + 1 := by simp
  have h3 : (l ++ [r]).length = l.length + 1 := by simp
  unfold lastR at h1 h2 ⊢
  rw [h2, h3, h1]
  by_cases h : l.length ≤ 31
  · rw [show l.length - 32 = 0 by omega, show min l.length 32 + 1 - 32 = 0 by omega, show l.length + 1 - 32 = 0 by omega]; rfl
  · rw [show l.length + 1 - 32 = (l.length - 32) + 1 by omega, List.drop_append_of_le_length (by rw [List.length_drop]; omega), List.drop_append_of_le_length (by omega), List.drop_drop]
    congr 2; omega
abbrev LS := List (List Int) × Int × Int × Int × Int × List (List Int)
theorem loop_ok {e n0 : Int} (he : inN e) (hn : inN n0) (a2 : List (List Chg)) (h60 : a2.length ≤ 60) (hw : ∀ cs ∈ a2, cs.length ≤ 140737488351232 ∧ ∀ c ∈ cs, wfC c ∧ bytesC c) :
    ∃ r, iter mx (F_law24_NumbersRise.l1018 mx e n0 a2 true) (([] : List (List Int)), (0 : Int), e, n0, (0 : Int), ([] : List (List Int))) = some r ∧
      (r = .inl true ∨ ∃ took s, r = .inr (took, s) ∧ Sent e n0 took s ∧ took.length ≤ 60 ∧ n0 + (took.length : Int) ≤ 2147483647) := by
  refine iter_inv (f := F_law24_NumbersRise.l1018 mx e n0 a2 true) (fun st => ∃ (i : Nat) (took : List (List Int)) (s : Snd), st = (took, (i : Int), s) ∧ i ≤ a2.length ∧ took.length ≤ i ∧ Sent e n0 took s ∧ n0 + (took.length : Int) ≤ 2147483647) (fun st => a2.length - st.2.1.toNat)
    (fun r => r = .inl true ∨ ∃ took s, r = .inr (took, s) ∧ Sent e n0 took s ∧ took.length ≤ 60 ∧ n0 + (took.length : Int) ≤ 2147483647) _
    ⟨0, [], (e, n0, 0, []), rfl, Nat.zero_le _, Nat.le_refl _, ⟨by simp [lastR], fun r hr => by cases hr⟩, by simpa using hn.2⟩ (lt_N0 (by dsimp only; omega)) (fun st ⟨i, took, s, es, hi, ht, hS, hN⟩ => ?_)
  subst es
  by_cases hil : i < a2.length
  case neg =>
    have : i = a2.length := by omega
    subst this
    exact .inr ⟨.inr (took, s), by simp only [F_law24_NumbersRise.l1018, nltd, cond_false], .inr ⟨took, s, rfl, hS, by omega, hN⟩⟩
  obtain ⟨hcl, hcw⟩ := hw _ (getD_lt (l := a2) (d := []) hil)
  obtain ⟨b, hb, _⟩ := heavy_some (a2.getD i []) (by omega)
  have hi1 : IntKind.i64.wrap ((i : Int) + 1) = ((i + 1 : Nat) : Int) := inc64 (by omega)
  cases b with
  | true =>
    refine .inr ⟨.inl true, ?_, .inl rfl⟩
    simp only [F_law24_NumbersRise.l1018, ltd hil, lez, Bool.and_self, cond_true, Int.toNat_natCast, hb, Option.bind_some]
  | false =>
    have hwf := hS.wf (by omega)
    have hokS := hS.ok he hn hN
    rcases send_ok hwf (cs := a2.getD i []) (fun c hc => (hcw c hc).1) with ⟨⟨er, h1, h2⟩, _⟩ | ⟨⟨_, h1, h2⟩, h3⟩
    · refine .inl ⟨(took, ((i + 1 : Nat) : Int), s), ?_, ⟨i + 1, took, s, rfl, hil, by omega, hS, hN⟩, by dsimp only; omega⟩
      simp only [F_law24_NumbersRise.l1018, ltd hil, lez, Bool.and_self, cond_true, Int.toNat_natCast, hb, Option.bind_some, cond_false, h2, bne_iff_ne.2 h1, hi1]
    · have hcs := changes_ok (cs := a2.getD i []) (fun c hc => (hcw c hc).1)
      have hcb := chBytes_bytes h1 hcw
      have hcl := (chErr_zero.1 h1).2.2
      obtain ⟨rfl, hS2⟩ := hS
      dsimp only at h2 h3
      have hS' : Sent e n0 (took ++ [chBytes (a2.getD i [])]) (e, n0 + (took.length : Int) + 1, 0, lastR (lastR took ++ [chBytes (a2.getD i [])])) := by
        refine ⟨?_, fun r hr => ?_⟩
        · rw [lastR_snoc, List.length_append, List.length_singleton]
          congr 2; omega
        · rcases List.mem_append.1 hr with hr | hr
          · exact hS2 r hr
          · rw [List.mem_singleton] at hr; subst hr
            exact ⟨⟨_, h1, rfl, hcw⟩, hcb, hcl⟩
      have hN' : n0 + ((took ++ [chBytes (a2.getD i [])]).length : Int) ≤ 2147483647 := by rw [List.length_append, List.length_singleton]; omega
      have hck := (checkN_ok (hS'.wf (by rw [List.length_append, List.length_singleton]; omega))).1 (hS'.ok he hn hN')
      obtain ⟨x, hx⟩ := nwrite_ok (m := (1, e, n0 + (took.length : Int) + 1, chBytes (a2.getD i []))) ⟨(by decide : (0 : Int) ≤ 1), (by decide : (1 : Int) ≤ 255)⟩ hcb (by dsimp only; omega)
        ⟨he, ⟨by have := hn.1; dsimp only; omega, by dsimp only; omega⟩, .inl ⟨rfl, by have := hn.1; dsimp only; omega, ⟨_, h1, rfl, hcw⟩⟩⟩
      have c1 : Nat.ble (took.length + 1) 4294967296 = true := ble_t (by omega)
      have w1 : IntKind.i64.wrap (n0 + ((took.length + 1 : Nat) : Int)) = n0 + (took.length : Int) + 1 := by have := hn.1; rw [w64 (by omega) (by omega)]; omega
      have hlr : ((lastR (lastR took ++ [chBytes (a2.getD i [])])).length : Int) = mnI 32 (((took.length + 1 : Nat)) : Int) := by
        rw [lastR_snoc, lastR_len, List.length_append, List.length_singleton]; unfold mnI; split <;> omega
      refine .inl ⟨(took ++ [chBytes (a2.getD i [])], ((i + 1 : Nat) : Int), (e, n0 + (took.length : Int) + 1, 0, lastR (lastR took ++ [chBytes (a2.getD i [])]))), ?_, ⟨i + 1, _, _, rfl, hil, by rw [List.length_append, List.length_singleton]; omega, hS', hN'⟩, by dsimp only; omega⟩
      simp only [F_law24_NumbersRise.l1018, ltd hil, lez, Bool.and_self, cond_true, Int.toNat_natCast, hb, Option.bind_some, cond_false, h3, bne_self_eq_false, hcs, h1, if_pos, hx, List.length_singleton, c1, List.length_append, w1, beq_self_eq_true, Bool.not_true, hck, hlr, hi1]
theorem lastR_getD (l : List (List Int)) (x : Nat) : (lastR l).getD x [] = l.getD (l.length - 32 + x) [] := by
  unfold lastR
  rw [List.getD_eq_getElem?_getD, List.getElem?_drop, List.getD_eq_getElem?_getD]
theorem tail_ok (n0 : Int) (hn : inN n0) (took : List (List Int)) (ht : took.length ≤ 60) (s : Snd) (e : Int) (hs : s = (e, n0 + (took.length : Int), 0, lastR took)) (hN : n0 + (took.length : Int) ≤ 2147483647) (k : Int) (hk0 : 0 ≤ k) (hk : k ≤ n0 + (took.length : Int)) (a : Int) (x1 : Int) :
    iter mx (F_law24_NumbersRise.l524282 mx n0 (took, s) (behindL (e, n0 + (took.length : Int), a, lastR took) k, x1) (mxI k (n0 + (took.length : Int) - ((lastR took).length : Int)))) (0 : Int) = some (.inr ()) := by
  have hlr := lastR_len took
  obtain ⟨n1, n2⟩ := hn
  obtain ⟨L, hL⟩ : ∃ L, L = mxI k (n0 + (took.length : Int) - ((lastR took).length : Int)) := ⟨_, rfl⟩
  have hb : k ≤ L ∧ n0 + (took.length : Int) - ((lastR took).length : Int) ≤ L ∧ L ≤ n0 + (took.length : Int) := by rw [hL]; unfold mxI; split <;> omega
  have hlow : lowN (e, n0 + (took.length : Int), a, lastR took) k = L := hL.symm
  have hbl : (behindL (e, n0 + (took.length : Int), a, lastR took) k).length = (n0 + (took.length : Int) - L).toNat := by unfold behindL; rw [List.length_map, List.length_range, hlow]
  have hget : ∀ i, i < (behindL (e, n0 + (took.length : Int), a, lastR took) k).length → (behindL (e, n0 + (took.length : Int), a, lastR took) k).getD i M0 = msgN (e, n0 + (took.length : Int), a, lastR took) (L + 1 + (i : Int)) := fun i hi => by
    rw [getD_some hi]; unfold behindL; simp [hlow]
  rw [← hL]
  generalize hB : behindL (e, n0 + (took.length : Int), a, lastR took) k = B at hbl hget
  have := iter_count (f := F_law24_NumbersRise.l524282 mx n0 (took, s) (B, x1) L) (fun i => (i : Int)) B.length (r := .inr ()) (lt_N0 (by omega)) (fun i hi => by
    have hg := hget i hi
    have w1 : IntKind.i64.wrap (L + 1) = L + 1 := w64 (by omega) (by omega)
    have w2 : IntKind.i64.wrap (L + 1 + (i : Int)) = L + 1 + (i : Int) := w64 (by omega) (by omega)
    have w3 : IntKind.i64.wrap (L - n0) = L - n0 := w64 (by omega) (by omega)
    obtain ⟨j, hj⟩ := Int.eq_ofNat_of_zero_le (show 0 ≤ L - n0 + (i : Int) by omega)
    have w4 : IntKind.i64.wrap (L - n0 + (i : Int)) = (j : Int) := by rw [w64 (by omega) (by omega)]; exact hj
    have hjl : j < took.length := by omega
    have hbody : (B.getD i M0).2.2.2 = took.getD j [] := by
      rw [hg]
      show (lastR took).getD (((lastR took).length : Int) - 1 - (n0 + (took.length : Int) - (L + 1 + (i : Int)))).toNat [] = took.getD j []
      obtain ⟨x, hx⟩ : ∃ x, x = (((lastR took).length : Int) - 1 - (n0 + (took.length : Int) - (L + 1 + (i : Int)))).toNat := ⟨_, rfl⟩
      rw [← hx]
      have hxl : x < (lastR took).length := by omega
      rw [lastR_getD]
      congr 1
      omega
    have hnum : (B.getD i M0).2.2.1 = L + 1 + (i : Int) := by rw [hg]; rfl
    simp only [F_law24_NumbersRise.l524282, ltd hi, lez, Bool.and_self, cond_true, Int.toNat_natCast, blt_t hi, hnum, w1, w2, bne_self_eq_false, cond_false, w3, w4, ltd hjl, blt_t hjl, hbody, beq_self_eq_true, Bool.not_true]
    rw [inc64 (by omega)]) (by simp only [F_law24_NumbersRise.l524282, nltd, cond_false])
  exact this
theorem main (e n0 : Int) (a2 : List (List Chg)) (hw : ∀ cs ∈ a2, cs.length ≤ 140737488351232 ∧ ∀ c ∈ cs, wfC c ∧ bytesC c) (k : Int) : F_law24_NumbersRise mx (e, n0, a2, k) = some true := by
  simp only [F_law24_NumbersRise, alive_ok, Option.bind_some, Bool.not_true, cond_false, newN_ok]
  by_cases h1 : inN e ∧ inN n0
  case neg => rw [if_neg h1]; rfl
  rw [if_pos h1]
  obtain ⟨he, hn⟩ := h1
  simp only [bne_self_eq_false, cond_false]
  by_cases h2 : 60 < a2.length
  · rw [decide_eq_true (show (60 : Int) < (a2.length : Int) by omega)]; rfl
  rw [decide_eq_false (show ¬ (60 : Int) < (a2.length : Int) by omega)]
  obtain ⟨r, hr, hQ⟩ := loop_ok he hn a2 (by omega) hw
  simp only [cond_false, hr, Option.bind_some]
  rcases hQ with rfl | ⟨took, s, rfl, hS, ht, hN⟩
  · rfl
  have hwf := hS.wf (by omega)
  have hok := hS.ok he hn hN
  have hh := hear_ok (v := ((0 : Int), ([1] : List Int), ([] : List Kept), (0 : Int), (0 : Int), false)) (m := (2, e, k, [])) hwf (fun k hk => by cases hk) (fun k hk => by cases hk) ⟨(by decide : (0 : Int) ≤ 2), (by decide : (2 : Int) ≤ 255)⟩ (fun x hx => by cases hx)
  simp only [one_ok, Option.bind_some]
  rcases hh with ⟨_, _, hm, hh⟩ | ⟨hno, hh⟩
  case inr =>
    have hk : ¬ inN k := fun h => hno ⟨hok, okI_one, he, h, .inr (.inl ⟨rfl, rfl⟩)⟩
    rw [hh]
    simp only [Option.bind_some]
    unfold inN at hk
    by_cases g : k < 0
    · rw [decide_eq_true g]; rfl
    · rw [decide_eq_false g, decide_eq_true (show (2147483647 : Int) < k by omega)]; rfl
  rw [hh]
  have hkN : inN k := hm.2.1
  obtain ⟨k0, k1⟩ := hkN

  obtain ⟨hs, hS2⟩ := id hS
  have hlr := lastR_len took
  obtain ⟨n1, n2⟩ := id hn
  -- what was acknowledged
  obtain ⟨A, hA, hA2⟩ : ∃ A, hearS s (0, [1], [], 0, 0, false) (2, e, k, []) = (e, n0 + (took.length : Int), A, lastR took, [], 0) ∧ A = if k ≤ n0 + (took.length : Int) then k else 0 := by
    subst hs
    unfold hearS
    rw [if_pos rfl]
    by_cases g : k ≤ n0 + (took.length : Int)
    · rw [if_pos (show e = e ∧ k ≤ n0 + (took.length : Int) from ⟨rfl, g⟩)]
      refine ⟨mxI 0 k, rfl, ?_⟩
      rw [if_pos g]; unfold mxI; split <;> omega
    · rw [if_neg (show ¬ (e = e ∧ k ≤ n0 + (took.length : Int)) from fun hh => g hh.2)]
      exact ⟨0, rfl, by rw [if_neg g]⟩
  rw [hA]
  have hAb : 0 ≤ A ∧ A ≤ n0 + (took.length : Int) := by rw [hA2]; split <;> omega
  have hs4 : F_law24_NumbersRise.s4094 mx k (took, s) = some A := by
    subst hs
    simp only [F_law24_NumbersRise.s4094, hA2]
    by_cases g : k ≤ n0 + (took.length : Int)
    · rw [decide_eq_true g, if_pos g]; rfl
    · rw [decide_eq_false g, if_neg g]; rfl
  have hag := again_ok (s := (e, n0 + (took.length : Int), A, lastR took)) (by subst hs; exact ⟨hwf.1, hwf.2⟩) (by
    subst hs
    exact ⟨hok.1, hok.2.1, hAb, hok.2.2.2⟩)
  have hlow : lowN (e, n0 + (took.length : Int), A, lastR took) A = mxI A (n0 + (took.length : Int) - ((lastR took).length : Int)) := rfl
  have hmb : 0 ≤ mxI A (n0 + (took.length : Int) - ((lastR took).length : Int)) ∧ mxI A (n0 + (took.length : Int) - ((lastR took).length : Int)) ≤ n0 + (took.length : Int) := by unfold mxI; split <;> omega
  have hbl : ((behindL (e, n0 + (took.length : Int), A, lastR took) A).length : Int) = n0 + (took.length : Int) - mxI A (n0 + (took.length : Int) - ((lastR took).length : Int)) := by
    unfold behindL; rw [List.length_map, List.length_range, hlow]
    dsimp only
    omega
  have hmn : mnI 32 (took.length : Int) = ((lastR took).length : Int) := by rw [hlr]; unfold mnI; split <;> omega
  have w1 : IntKind.i64.wrap (n0 + (took.length : Int) - ((lastR took).length : Int)) = n0 + (took.length : Int) - ((lastR took).length : Int) := w64 (by omega) (by omega)
  have w2 : IntKind.i64.wrap (n0 + (took.length : Int) - mxI A (n0 + (took.length : Int) - ((lastR took).length : Int))) = n0 + (took.length : Int) - mxI A (n0 + (took.length : Int) - ((lastR took).length : Int)) := w64 (by omega) (by omega)
  have htl := tail_ok n0 hn took ht s e hs hN A hAb.1 hAb.2 A 0
  simp only [Option.bind_some, bne_self_eq_false, cond_false, hs4, hag]
  subst hs
  simp only [hmn, w1, w2, hbl, bne_self_eq_false, cond_false, htl, Option.bind_some]
theorem pure (q : Int × Int × (List (List (Int × Int × ((List Int) × (List Int) × Int × Int × Int) × (List Int) × Int × Int × Bool))) × Int) (h : wfIns F_law24_NumbersRise.sig.pars q) : F_law24_NumbersRise mx q = some true := by
  obtain ⟨e, n0, a2, k⟩ := q
  refine main e n0 a2 (fun cs hcs => ?_) k
  have hc := h.2.2.1.1.1 cs hcs
  refine ⟨hc.2, fun c hcm => ?_⟩
  have hx := hc.1 c hcm
  exact ⟨⟨wfu32 hx.2.2.1.2.2.1, (wfu64 hx.2.2.1.2.2.2.2).1, (wfu64 hx.2.2.1.2.2.2.2).2⟩, fun y hy => ⟨(hx.2.2.1.1.1 y hy).1, by have := (hx.2.2.1.1.1 y hy).2; omega⟩, fun y hy => ⟨(hx.2.2.1.2.1.1 y hy).1, by have := (hx.2.2.1.2.1.1 y hy).2; omega⟩, fun y hy => ⟨(hx.2.2.2.1.1 y hy).1, by have := (hx.2.2.2.1.1 y hy).2; omega⟩⟩
end Go.Proofs.Ytmkfifilpkhfoaa.numbersRise
