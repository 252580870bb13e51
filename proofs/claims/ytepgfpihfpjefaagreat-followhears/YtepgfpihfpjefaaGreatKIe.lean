/- What changes do to an image. -/
import Derived.Test.YtepgfpihfpjefaaGreatKId
namespace Go.Proofs.YtepgfpihfpjefaaGreat
open Go.Abs
set_option maxRecDepth 100000

def applyL : Img → List Chg → Int ⊕ Img
  | v, [] => .inr v
  | v, c :: cs => match oneS v c with
    | .inl e => .inl e
    | .inr w => applyL w cs
def zeroI (e : Int) : Int × List Int × List Kept × Int × Int × Bool × Int := (0, [], [], 0, 0, false, e)
def withE (w : Img) : Int × List Int × List Kept × Int × Int × Bool × Int := (w.1, w.2.1, w.2.2.1, w.2.2.2.1, w.2.2.2.2.1, w.2.2.2.2.2, 0)
def resI : Int ⊕ Img → Int × List Int × List Kept × Int × Int × Bool × Int
  | .inl e => zeroI e
  | .inr w => withE w
def applyS (v : Img) (cs : List Chg) : Int × List Int × List Kept × Int × Int × Bool × Int :=
  if okI v then (if chErr cs = 0 then resI (applyL v cs) else zeroI (chErr cs)) else zeroI 8
theorem one_err {v : Img} {c : Chg} {e : Int} (h : oneS v c = .inl e) : e = 2 ∨ e = 9 := by
  unfold oneS at h
  repeat' split at h
  all_goals (cases h <;> simp)
theorem apply_err : ∀ {cs : List Chg} {v : Img} {e : Int}, applyL v cs = .inl e → e = 2 ∨ e = 9
  | [], _, _, h => by cases h
  | c :: cs, v, e, h => by
    rw [applyL] at h
    cases ho : oneS v c with
    | inl e2 => rw [ho] at h; cases h; exact one_err ho
    | inr w => rw [ho] at h; exact apply_err h
theorem applyL_app : ∀ (a b : List Chg) (v : Img), applyL v (a ++ b) = match applyL v a with | .inl e => .inl e | .inr w => applyL w b
  | [], _, _ => rfl
  | c :: a, b, v => by
    rw [List.cons_append, applyL, applyL]
    cases oneS v c with
    | inl e => rfl
    | inr w => exact applyL_app a b w

theorem leftL_mem {c : Chg} {l : List Kept} {k : Kept} : k ∈ leftL c l ↔ k ∈ l ∧ touch c k = false := by
  unfold leftL; rw [List.mem_filter]; simp
theorem leftL_sub (c : Chg) (l : List Kept) : (leftL c l).Sublist l := List.filter_sublist
theorem okI_left {v : Img} (h : okI v) (c : Chg) : okI (v.1, v.2.1, leftL c v.2.2.1, v.2.2.2) := by
  obtain ⟨h1, h2, h3, h4, h5, h6, h7⟩ := h
  exact ⟨h1, h2, Nat.le_trans (leftL_sub c _).length_le h3, h4, h5, fun k hk => h6 k (leftL_mem.1 hk).1, ((leftL_sub c _).map nm).nodup h7⟩
theorem one_okI {v : Img} (h : okI v) {c : Chg} (hc : chOk c) {w : Img} (ho : oneS v c = .inr w) : okI w := by
  have hl := okI_left h c
  obtain ⟨h1, h2, h3, h4, h5, h6, h7⟩ := h
  obtain ⟨l1, l2, l3, l4, l5, l6, l7⟩ := id hl
  obtain ⟨⟨t1, t2⟩, hc⟩ := hc
  unfold oneS at ho
  by_cases g0 : c.1 ≠ 4 ∧ c.1 ≠ 6 ∧ c.1 ≠ 7 ∧ (v.2.1.length : Int) ≤ c.2.1
  · rw [if_pos g0] at ho; cases ho
  rw [if_neg g0] at ho
  by_cases k1 : c.1 = 1
  · rw [if_pos k1] at ho
    have hc : ((1 ≤ c.2.2.1.1.length ∧ c.2.2.1.1.length ≤ 32) ∧ c.2.2.1.2.1.length ≤ 512 ∧ (0 ≤ c.2.2.1.2.2.2.1 ∧ c.2.2.1.2.2.2.1 ≤ 1099511627776)) := by
      rcases hc with h | h | h | h | h | h | h
      · exact h.2.1
      all_goals (exfalso; have := h.1; omega)
    by_cases g1 : 256 < 8 + c.2.2.1.1.length + c.2.2.1.2.1.length
    · rw [if_pos g1] at ho; cases ho
    rw [if_neg g1] at ho
    by_cases g2 : dueB c.2.2.1 v.1 = true
    · rw [if_pos g2] at ho; cases ho; exact hl
    rw [if_neg g2] at ho
    by_cases g3 : (leftL c v.2.2.1).length = 1024
    · rw [if_pos g3] at ho; cases ho
    rw [if_neg g3] at ho
    cases ho
    refine ⟨l1, l2, ?_, l4, l5, ?_, ?_⟩
    · dsimp only at l3 ⊢; rw [List.length_append, List.length_singleton]; omega
    · intro k hk
      rcases List.mem_append.1 hk with hk | hk
      · exact l6 k hk
      · rw [List.mem_singleton] at hk
        subst hk
        refine ⟨t1, ?_, ⟨hc.1.1, hc.1.2, by dsimp only; omega, hc.2.2.1, hc.2.2.2⟩, Bool.eq_false_iff.2 g2⟩
        have : ¬ (v.2.1.length : Int) ≤ c.2.1 := fun hh => g0 ⟨by omega, by omega, by omega, hh⟩
        dsimp only; omega
    · dsimp only at l7 ⊢
      rw [List.map_append, List.map_singleton]
      refine List.nodup_append.2 ⟨l7, by simp, fun a ha b hb => ?_⟩
      rw [List.mem_singleton] at hb
      subst hb
      obtain ⟨k, hk, rfl⟩ := List.mem_map.1 ha
      have ht := (leftL_mem.1 hk).2
      unfold touch at ht
      rw [if_pos k1] at ht
      exact of_decide_eq_false ht
  rw [if_neg k1] at ho
  by_cases k4 : c.1 = 4
  · rw [if_pos k4] at ho
    have hc : 0 ≤ c.2.2.2.2.2.1 ∧ c.2.2.2.2.2.1 ≤ 1099511627776 := by
      rcases hc with h | h | h | h | h | h | h
      · exfalso; have := h.1; omega
      · exfalso; have := h.1; omega
      · exfalso; have := h.1; omega
      · exact h.2.1
      all_goals (exfalso; have := h.1; omega)
    by_cases g1 : c.2.2.2.2.2.1 < v.1
    · rw [if_pos g1] at ho; cases ho
    rw [if_neg g1] at ho
    cases ho
    refine ⟨hc, l2, l3, l4, l5, fun k hk => ?_, l7⟩
    obtain ⟨a1, a2, a3, a4⟩ := l6 k hk
    refine ⟨a1, a2, a3, ?_⟩
    have ht := (leftL_mem.1 hk).2
    unfold touch at ht
    rw [if_neg k1, if_neg (by omega), if_neg (by omega), if_pos k4] at ht
    exact ht
  rw [if_neg k4] at ho
  by_cases k5 : c.1 = 5
  · rw [if_pos k5] at ho
    have hc : 0 ≤ c.2.2.2.2.2.1 ∧ c.2.2.2.2.2.1 ≤ 16 := by
      rcases hc with h | h | h | h | h | h | h
      · exfalso; have := h.1; omega
      · exfalso; have := h.1; omega
      · exfalso; have := h.1; omega
      · exfalso; have := h.1; omega
      · exact h.2.1
      all_goals (exfalso; have := h.1; omega)
    cases ho
    refine ⟨h1, ⟨by dsimp only; rw [List.length_set]; exact h2.1, by dsimp only; rw [List.length_set]; exact h2.2.1, fun x hx => ?_⟩, h3, h4, h5, fun k hk => ?_, h7⟩
    · rcases List.mem_or_eq_of_mem_set hx with hx | hx
      · exact h2.2.2 x hx
      · rw [hx]; exact hc
    · obtain ⟨a1, a2, a3, a4⟩ := h6 k hk
      exact ⟨a1, by dsimp only; rw [List.length_set]; exact a2, a3, a4⟩
  rw [if_neg k5] at ho
  by_cases k6 : c.1 = 6
  · rw [if_pos k6] at ho
    have hc : 0 ≤ c.2.2.2.2.2.1 ∧ c.2.2.2.2.2.1 ≤ 2147483647 := by
      rcases hc with h | h | h | h | h | h | h
      · exfalso; have := h.1; omega
      · exfalso; have := h.1; omega
      · exfalso; have := h.1; omega
      · exfalso; have := h.1; omega
      · exfalso; have := h.1; omega
      · exact h.2.1
      · exfalso; have := h.1; omega
    by_cases g1 : c.2.2.2.2.2.1 < v.2.2.2.1
    · rw [if_pos g1] at ho; cases ho
    rw [if_neg g1] at ho
    cases ho
    exact ⟨h1, h2, h3, hc, h5, h6, h7⟩
  rw [if_neg k6] at ho
  by_cases k7 : c.1 = 7
  · rw [if_pos k7] at ho
    have hc : 0 ≤ c.2.2.2.2.2.1 ∧ c.2.2.2.2.2.1 ≤ 2147483647 := by
      rcases hc with h | h | h | h | h | h | h
      · exfalso; have := h.1; omega
      · exfalso; have := h.1; omega
      · exfalso; have := h.1; omega
      · exfalso; have := h.1; omega
      · exfalso; have := h.1; omega
      · exfalso; have := h.1; omega
      · exact h.2.1
    cases ho
    exact ⟨h1, h2, h3, h4, hc, h6, h7⟩
  rw [if_neg k7] at ho
  cases ho
  exact hl
theorem apply_okI : ∀ {cs : List Chg} {v w : Img}, okI v → (∀ c ∈ cs, chOk c) → applyL v cs = .inr w → okI w
  | [], _, _, h, _, e => by cases e; exact h
  | c :: cs, v, w, h, hc, e => by
    rw [applyL] at e
    cases ho : oneS v c with
    | inl e2 => rw [ho] at e; cases e
    | inr u => rw [ho] at e; exact apply_okI (one_okI h (hc c (by simp)) ho) (fun x hx => hc x (by simp [hx])) e

/-! ### the walk -/
theorem loop_ok (cs : List Chg) (hlen : cs.length ≤ 4096) : ∀ (rest : List Chg) (i : Nat) (s : Cor) (fuel : Nat), cs.drop i = rest → i ≤ cs.length → (∀ c ∈ rest, chOk c) → InvC s → s.2.2.1.length ≤ 1024 + i → rest.length < fuel →
    match applyL (imgOf s) rest with
    | .inl e => iterN (F_image_Apply.l250 mx cs (cs.length : Int)) fuel ((i : Int), s) = some (.inl (e, 0, 0, 0, false))
    | .inr w => ∃ s', iterN (F_image_Apply.l250 mx cs (cs.length : Int)) fuel ((i : Int), s) = some (.inr s') ∧ imgOf s' = w ∧ InvC s' ∧ s'.2.2.1.length ≤ 100000
  | [], i, s, fuel, hd, hi, _, hs, hl, hf => by
    obtain ⟨f, rfl⟩ : ∃ f, fuel = f + 1 := ⟨fuel - 1, by omega⟩
    have : i = cs.length := by have := congrArg List.length hd; rw [List.length_drop, List.length_nil] at this; omega
    subst this
    refine ⟨s, iterN_fin ?_, rfl, hs, by omega⟩
    simp only [F_image_Apply.l250, nltd, cond_false]
  | c :: rest, i, s, fuel, hd, hi, hc, hs, hl, hf => by
    obtain ⟨f, rfl⟩ : ∃ f, fuel = f + 1 := ⟨fuel - 1, by omega⟩
    have hil : i < cs.length := by
      have := congrArg List.length hd
      rw [List.length_drop, List.length_cons] at this; omega
    have hci : cs.getD i C0 = c := by
      rw [getD_some hil]
      have := List.drop_eq_getElem_cons hil
      rw [hd] at this
      exact (List.cons.inj this).1.symm
    have hd' : cs.drop (i + 1) = rest := by
      have := List.drop_eq_getElem_cons hil
      rw [hd] at this
      exact (List.cons.inj this).2.symm
    obtain ⟨code, s', e1, e2⟩ := one_ok hs (by omega) (hc c (by simp)) (i : Int)
    rw [applyL]
    cases ho : oneS (imgOf s) c with
    | inl e =>
      rw [ho] at e2
      obtain ⟨rfl, hne⟩ := e2
      refine iterN_fin ?_
      simp only [F_image_Apply.l250, ltd hil, lez, Bool.and_self, cond_true, Int.toNat_natCast]
      rw [show cs.getD i (0, 0, ([], [], 0, 0, 0), [], 0, 0, false) = c from hci, e1]
      simp only [Option.bind_some, bne_int, decide_eq_false hne, Bool.not_false, cond_true]
    | inr w =>
      rw [ho] at e2
      obtain ⟨rfl, h1, h2, h3, h4⟩ := e2
      have hst : F_image_Apply.l250 mx cs (cs.length : Int) ((i : Int), s) = some (.next (((i + 1 : Nat) : Int), s')) := by
        simp only [F_image_Apply.l250, ltd hil, lez, Bool.and_self, cond_true, Int.toNat_natCast]
        rw [show cs.getD i (0, 0, ([], [], 0, 0, 0), [], 0, 0, false) = c from hci, e1]
        simp only [Option.bind_some, bne_self_eq_false, cond_false]
        rw [inc64 (by omega)]
      rw [iterN_next hst]
      have ih := loop_ok cs hlen rest (i + 1) s' f hd' (by omega) (fun x hx => hc x (by simp [hx])) h2 (by omega) (by rw [List.length_cons] at hf; omega)
      rw [h1] at ih
      exact ih
theorem alive_app' : ∀ {l : List Kept} {g : List Bool}, g.length = l.length → ∀ (k : Kept) (b : Bool), alive (l ++ [k]) (g ++ [b]) = alive l g ++ (if b = true then [] else [k])
  | [], [], _, k, b => by cases b <;> simp [alive]
  | a :: l, c :: g, h, k, b => by
    have := alive_app' (l := l) (g := g) (by simpa using h) k b
    simp only [List.cons_append, alive, this]
    split <;> rfl
  | [], _ :: _, h, _, _ => by simp at h
  | _ :: _, [], h, _, _ => by simp at h
theorem close_ok {s : Cor} (h : InvC s) (hl : s.2.2.1.length ≤ 100000) : iter mx (F_image_Apply.i38l58 mx s (s.2.2.1.length : Int)) (([] : List Kept), (0 : Int)) = some (alive s.2.2.1 s.2.2.2.2.2.2.1) := by
  obtain ⟨t, q, l, e, n, b, g, m, cn⟩ := s
  have hlen : g.length = l.length := h.len
  dsimp only at hl ⊢
  have := iter_count (f := F_image_Apply.i38l58 mx (t, q, l, e, n, b, g, m, cn) (l.length : Int)) (fun i => (alive (l.take i) (g.take i), (i : Int))) l.length (r := alive l g) (lt_N0 (by omega)) (fun i hi => by
    have hig : i < g.length := by omega
    have ha := alive_app' (l := l.take i) (g := g.take i) (by rw [List.length_take, List.length_take, hlen]) (l.getD i K0) (g.getD i false)
    rw [← take_succ' hi K0, ← take_succ' hig false] at ha
    have hal := alive_len (l := l.take i) (g := g.take i)
    rw [List.length_take] at hal
    have c1 : Nat.ble ((alive (l.take i) (g.take i)).length + 1) 4294967296 = true := ble_t (by omega)
    simp only [F_image_Apply.i38l58, F_image_Apply.i38s466, ltd hi, cond_true, Option.bind_some, lez, Bool.and_self, Int.toNat_natCast, blt_t hi, ltd hig, blt_t hig, List.length_singleton, c1, ha]
    rw [inc64 (by omega)]
    cases g.getD i false with
    | true => simp
    | false => rfl) (by simp only [F_image_Apply.i38l58, F_image_Apply.i38s466, nltd, cond_false, Option.bind_some, List.take_length]; rw [← hlen, List.take_length])
  exact this
theorem apply_ok {v : Img} (hb : ∀ k ∈ v.2.2.1, k.2.1.length ≤ 140737488351232 ∧ k.2.2.1.length ≤ 140737488351232) {cs : List Chg} (hw : ∀ c ∈ cs, wfC c) :
    F_image_Apply mx (v.1, v.2.1, v.2.2.1, v.2.2.2.1, v.2.2.2.2.1, v.2.2.2.2.2, cs) = some (applyS v cs) := by
  have hck := check_ok (v := v) hb
  obtain ⟨t, q, l, e, n, b⟩ := v
  dsimp only at hck ⊢
  simp only [F_image_Apply, hck, Option.bind_some]
  unfold applyS
  by_cases h1 : okI (t, q, l, e, n, b)
  case neg => rw [if_neg h1, if_neg h1]; rfl
  rw [if_pos h1, if_pos h1]
  simp only [bne_self_eq_false, cond_false, changes_ok hw, Option.bind_some, bne_int]
  by_cases h2 : chErr cs = 0
  case neg => simp only [if_neg h2, decide_eq_false h2]; rfl
  simp only [if_pos h2]
  rw [h2]
  simp only [decide_true, Bool.not_true, cond_false]
  obtain ⟨h3, h4, h5⟩ := chErr_zero.1 h2
  have hq : q.length ≤ 4 := h1.2.1.2.1
  have hl : l.length ≤ 1024 := h1.2.2.1
  have c1 : Nat.ble q.length 4294967296 = true := ble_t (by omega)
  have c2 : Nat.ble l.length 4294967296 = true := ble_t (by omega)
  simp only [C_slices_Clone_int, c1, C_slices_Clone_Kept, c2, cond_true, Option.bind_some, lez, Int.le_refl, decide_true, Bool.and_self, decide_eq_true (show (l.length : Int) ≤ 4294967296 by omega), places_ok (l := l) (by omega), Int.toNat_natCast]
  have hinv : InvC (t, q, l, e, n, b, List.replicate l.length false, plc l l.length, (l.length : Int)) := inv_new h1.2.2.2.2.2.2
  have hloop := loop_ok cs h3 cs 0 (t, q, l, e, n, b, List.replicate l.length false, plc l l.length, (l.length : Int)) N0 (by simp) (by omega) h4 hinv (by dsimp only; omega) (by unfold N0; omega)
  have himg : imgOf (t, q, l, e, n, b, List.replicate l.length false, plc l l.length, (l.length : Int)) = (t, q, l, e, n, b) := by simp only [imgOf, alive_all]
  rw [himg] at hloop
  cases ha : applyL (t, q, l, e, n, b) cs with
  | inl err =>
    rw [ha] at hloop
    dsimp only at hloop
    have hloop : iter mx (F_image_Apply.l250 mx cs (cs.length : Int)) ((0 : Int), t, q, l, e, n, b, List.replicate l.length false, plc l l.length, (l.length : Int)) = _ := hloop
    rw [hloop]; rfl
  | inr w =>
    rw [ha] at hloop
    obtain ⟨s', h6, h7, h8, h9⟩ := hloop
    have h6 : iter mx (F_image_Apply.l250 mx cs (cs.length : Int)) ((0 : Int), t, q, l, e, n, b, List.replicate l.length false, plc l l.length, (l.length : Int)) = _ := h6
    rw [h6]
    simp only [Option.bind_some, close_ok h8 h9]
    rw [← h7]
    rfl
end Go.Proofs.YtepgfpihfpjefaaGreat
