/- The plain law of FollowPrefix. -/
import Derived.Test.YtepgfpihfpjefaaKFo
namespace Go.Proofs.Ytepgfpihfpjefaa.followPrefix
open Go.Abs
set_option maxRecDepth 100000
theorem alive_ok : F_law25_alive mx () = some true := by kernel_rfl
abbrev V0 : Img := (0, ([], ([], (0, (0, false)))))
theorem one_mem {v w : Img} {c : Chg} (ho : oneS v c = .inr w) : ∀ k ∈ w.2.2.1, k ∈ v.2.2.1 ∨ k = (c.2.1, c.2.2.1) := by
  unfold oneS at ho
  repeat' split at ho
  all_goals (first | (cases ho; intro k hk; exact .inl (leftL_mem.1 hk).1) | (cases ho; intro k hk; exact .inl hk) | (cases ho; intro k hk; exact (List.mem_append.1 hk).elim (fun h => .inl (leftL_mem.1 h).1) (fun h => .inr (List.mem_singleton.1 h))) | cases ho)
theorem apply_mem {P : Kept → Prop} : ∀ {cs : List Chg} {v w : Img}, (∀ k ∈ v.2.2.1, P k) → (∀ c ∈ cs, P (c.2.1, c.2.2.1)) → applyL v cs = .inr w → ∀ k ∈ w.2.2.1, P k
  | [], _, _, h, _, e => by cases e; exact h
  | c :: cs, v, w, h, hc, e => by
    rw [applyL] at e
    cases ho : oneS v c with
    | inl e2 => rw [ho] at e; cases e
    | inr u =>
      rw [ho] at e
      refine apply_mem (cs := cs) (fun k hk => ?_) (fun x hx => hc x (by simp [hx])) e
      rcases one_mem ho k hk with hk | rfl
      · exact h k hk
      · exact hc c (by simp)
def MsgOk (e : Int) (imgs : List Img) (m : Msg) : Prop := bytesI m.2.2.2 ∧ mayM m ∧ m.2.1 = e ∧ ∃ k : Nat, k < imgs.length ∧ m.2.2.1 = (k : Int) ∧
  ((m.1 = 1 ∧ 1 ≤ k ∧ ∀ cs w, IsCh m.2.2.2 cs → applyL (imgs.getD (k - 1) V0) cs = .inr w → imgs.getD k V0 = (w.1, w.2.1, w.2.2.1, w.2.2.2.1, (k : Int), w.2.2.2.2.2)) ∨ (m.1 = 4 ∧ writeS (imgs.getD k V0) = (m.2.2.2, 0)))
def ImgOk (e : Int) (k : Nat) (v : Img) : Prop := okI v ∧ wfIm v ∧ v.2.2.2.1 = e ∧ v.2.2.2.2.1 = (k : Int) ∧ v.2.2.2.2.2 = false
structure Hist (e : Int) (v0 : Img) (imgs : List Img) (msgs : List Msg) (s : Snd) : Prop where
  len : 1 ≤ imgs.length
  se : s.1 = e
  sn : s.2.1 = (imgs.length : Int) - 1
  ok : okN s
  wf : wfS s
  img : ∀ k, k < imgs.length → ImgOk e k (imgs.getD k V0)
  msg : ∀ m ∈ msgs, MsgOk e imgs m
  fst : imgs.getD 0 V0 = v0
theorem getD_app {imgs : List Img} {v : Img} {k : Nat} (h : k < imgs.length) : (imgs ++ [v]).getD k V0 = imgs.getD k V0 := by
  rw [getD_some (by rw [List.length_append]; omega), getD_some h, List.getElem_append_left h]
theorem getD_new (imgs : List Img) (v : Img) : (imgs ++ [v]).getD imgs.length V0 = v := by rw [getD_some (by simp)]; simp
theorem MsgOk.app {e : Int} {imgs : List Img} {m : Msg} (h : MsgOk e imgs m) (v : Img) : MsgOk e (imgs ++ [v]) m := by
  obtain ⟨h1, h2, h3, k, h4, h5, h6⟩ := h
  refine ⟨h1, h2, h3, k, by rw [List.length_append]; omega, h5, ?_⟩
  rcases h6 with ⟨a, b, c⟩ | ⟨a, b⟩
  · refine .inl ⟨a, b, fun cs w hc hw => ?_⟩
    rw [getD_app (by omega)] at hw ⊢
    exact c cs w hc hw
  · exact .inr ⟨a, by rw [getD_app h4]; exact b⟩
theorem termed_ok {cs : List Chg} (hl : cs.length ≤ 1000000) : ∃ B, F_law25_termed mx cs = some B ∧ (B = false → plainC cs) := by
  have hstep : ∀ i, i < cs.length → F_law25_termed.l26 mx cs (i : Int) = some (bif decide ((cs.getD i C0).1 ≠ 6 ∧ (cs.getD i C0).1 ≠ 7) then .next ((i + 1 : Nat) : Int) else .fin (.inl true)) := fun i hi => by
    simp only [F_law25_termed.l26, ltd hi, lez, Bool.and_self, cond_true, Int.toNat_natCast, ieq]
    rw [inc64 (by omega)]
    by_cases h6 : (cs.getD i C0).1 = 6
    · rw [decide_eq_true h6, decide_eq_false (show ¬ ((cs.getD i C0).1 ≠ 6 ∧ (cs.getD i C0).1 ≠ 7) from fun h => h.1 h6)]; rfl
    · rw [decide_eq_false h6]
      by_cases h7 : (cs.getD i C0).1 = 7
      · rw [decide_eq_true h7, decide_eq_false (show ¬ ((cs.getD i C0).1 ≠ 6 ∧ (cs.getD i C0).1 ≠ 7) from fun h => h.2 h7)]; rfl
      · rw [decide_eq_false h7, decide_eq_true (show (cs.getD i C0).1 ≠ 6 ∧ (cs.getD i C0).1 ≠ 7 from ⟨h6, h7⟩)]; rfl
  rcases iter_scan (f := F_law25_termed.l26 mx cs) (fun i => (i : Int)) cs.length (fun i => (cs.getD i C0).1 ≠ 6 ∧ (cs.getD i C0).1 ≠ 7) (lt_N0 (by omega)) (fun _ => .inl true) (.inr ())
    (fun i hi hp _ => by rw [hstep i hi, decide_eq_true hp]; rfl)
    (fun i hi hp _ => by rw [hstep i hi, decide_eq_false hp]; rfl)
    (fun _ => by simp only [F_law25_termed.l26, nltd, cond_false]) with ⟨h, e⟩ | ⟨i, hi, hp, _, e⟩
  · have e : iter mx (F_law25_termed.l26 mx cs) (0 : Int) = _ := e
    simp only [F_law25_termed, e, Option.bind_some]
    refine ⟨false, rfl, fun _ c hc => ?_⟩
    obtain ⟨j, hj, rfl⟩ := List.mem_iff_getElem.1 hc
    have := h j hj
    rwa [getD_some hj] at this
  · have e : iter mx (F_law25_termed.l26 mx cs) (0 : Int) = _ := e
    simp only [F_law25_termed, e, Option.bind_some]
    exact ⟨true, rfl, fun h => (by cases h)⟩
/-- One act more. -/
theorem hist_step {e : Int} {v0 : Img} (he : inN e) {imgs : List Img} {msgs : List Msg} {s : Snd} (h : Hist e v0 imgs msgs s) {cs : List Chg} (hw : ∀ c ∈ cs, wfC c ∧ bytesC c) (hp : plainC cs) (h1 : chErr cs = 0) (h2 : s.2.1 ≠ 2147483647) {w : Img}
    (ha : applyL (imgs.getD (imgs.length - 1) V0) cs = .inr w) :
    Hist e v0 (imgs ++ [(w.1, w.2.1, w.2.2.1, w.2.2.2.1, (imgs.length : Int), w.2.2.2.2.2)]) (msgs ++ [(1, s.1, s.2.1 + 1, chBytes cs)]) (s.1, s.2.1 + 1, s.2.2.1, lastR (s.2.2.2 ++ [chBytes cs])) := by
  obtain ⟨o1, o2, ⟨o3, o4⟩, ⟨o5, o6⟩, o7⟩ := id h.ok
  obtain ⟨i1, i2, i3, i4, i5⟩ := h.img (imgs.length - 1) (by have := h.len; omega)
  have hlen := h.len
  have hsn := h.sn
  have hcb := chBytes_bytes h1 hw
  have hcl := (chErr_zero.1 h1).2.2
  have hch : isCh (chBytes cs) := ⟨cs, h1, rfl, hw⟩
  have hpl := apply_plain hp ha
  have hokw := apply_okI i1 (chErr_zero.1 h1).2.1 ha
  have e1 : w.2.2.2.1 = e := by rw [hpl]; exact i3
  have e3 : w.2.2.2.2.2 = false := by rw [hpl]; exact i5
  obtain ⟨n1, n2⟩ := id o2
  have hlr := lastR_len (s.2.2.2 ++ [chBytes cs])
  rw [List.length_append, List.length_singleton] at hlr
  have hmem : ∀ r ∈ lastR (s.2.2.2 ++ [chBytes cs]), isCh r ∧ bytesI r ∧ r.length ≤ 140737488351232 := fun r hr => by
    rcases List.mem_append.1 (List.mem_of_mem_drop hr) with hr | hr
    · exact ⟨o7 r hr, h.wf.2 r hr⟩
    · rw [List.mem_singleton] at hr; subst hr; exact ⟨hch, hcb, by omega⟩
  refine ⟨by rw [List.length_append]; omega, h.se, by rw [List.length_append, List.length_singleton]; dsimp only; omega, ⟨o1, ⟨by dsimp only; omega, by dsimp only; omega⟩, ⟨o3, by dsimp only; omega⟩, ⟨by dsimp only; omega, by dsimp only; omega⟩, fun r hr => (hmem r hr).1⟩,
    ⟨by dsimp only; omega, fun r hr => (hmem r hr).2⟩, fun k hk => ?_, fun m hm => ?_, by rw [getD_app (by omega)]; exact h.fst⟩
  · rw [List.length_append, List.length_singleton] at hk
    by_cases hkl : k < imgs.length
    · rw [getD_app hkl]; exact h.img k hkl
    · have : k = imgs.length := by omega
      subst this
      rw [getD_new]
      obtain ⟨g1, g2, g3, g4, g5, g6, g7⟩ := hokw
      have hokn : okI (w.1, w.2.1, w.2.2.1, w.2.2.2.1, (imgs.length : Int), w.2.2.2.2.2) := ⟨g1, g2, g3, g4, ⟨by dsimp only; omega, by dsimp only; omega⟩, g6, g7⟩
      refine ⟨hokn, ⟨fun k hk => ⟨okI_len hokn k hk, ?_⟩, fun k hk => ?_⟩, e1, rfl, e3⟩
      · exact apply_mem (P := fun k => bytesI k.2.1 ∧ bytesI k.2.2.1) (fun k hk => (i2.1 k hk).2) (fun c hc => ⟨(hw c hc).2.1, (hw c hc).2.2.1⟩) ha k hk
      · exact apply_mem (P := wfK) (fun k hk => i2.2 k hk) (fun c hc => ⟨(hw c hc).1.1, (hw c hc).1.2⟩) ha k hk
  · rcases List.mem_append.1 hm with hm | hm
    · exact (h.msg m hm).app _
    · rw [List.mem_singleton] at hm
      subst hm
      refine ⟨hcb, ⟨o1, ⟨by dsimp only; omega, by dsimp only; omega⟩, .inl ⟨rfl, by dsimp only; omega, hch⟩⟩, h.se, imgs.length, by simp, by dsimp only; omega, .inl ⟨rfl, hlen, fun cs' w' hc' hw' => ?_⟩⟩
      have : cs' = cs := isCh_inj hcb hc' ⟨h1, rfl, hw⟩
      subst this
      rw [getD_app (by omega), ha] at hw'
      cases hw'
      rw [getD_new]
theorem hist_img {e : Int} {v0 : Img} {imgs : List Img} {msgs : List Msg} {s : Snd} (h : Hist e v0 imgs msgs s) {l : List Msg} (hl : ∀ m ∈ l, m = (4, s.1, s.2.1, (writeS (imgs.getD (imgs.length - 1) V0)).1) ∧ (writeS (imgs.getD (imgs.length - 1) V0)).2 = 0) : Hist e v0 imgs (msgs ++ l) s := by
  refine ⟨h.len, h.se, h.sn, h.ok, h.wf, h.img, fun m hm => ?_, h.fst⟩
  rcases List.mem_append.1 hm with hm | hm
  · exact h.msg m hm
  · obtain ⟨rfl, h0⟩ := hl m hm
    obtain ⟨i1, i2, _⟩ := h.img (imgs.length - 1) (by have := h.len; omega)
    have hwr : writeS (imgs.getD (imgs.length - 1) V0) = ((writeS (imgs.getD (imgs.length - 1) V0)).1, 0) := Prod.ext rfl h0
    have hlen := h.len
    have hsn := h.sn
    exact ⟨wr_bytes hwr i2, ⟨h.ok.1, h.ok.2.1, .inr (.inr (.inr ⟨rfl, _, hwr, i2⟩))⟩, h.se, imgs.length - 1, by omega, by dsimp only; omega, .inr ⟨rfl, hwr⟩⟩
theorem acts_loop {e : Int} {v0 : Img} (he : inN e) (a6 : List (List Chg)) (a7 : List Bool) (h24 : a6.length ≤ 24) (hw : ∀ cs ∈ a6, cs.length ≤ 140737488351232 ∧ ∀ c ∈ cs, wfC c ∧ bytesC c) (imgs0 : List Img) (s0 : Snd) (h0 : Hist e v0 imgs0 [] s0) (hl0 : imgs0.length = 1) :
    ∃ r, iter mx (F_law25_FollowPrefix.l8186 mx a6 a7 true) (imgs0, ([] : List Msg), (0 : Int), s0) = some r ∧ (r = .inl true ∨ ∃ imgs msgs s, r = .inr (imgs, msgs) ∧ Hist e v0 imgs msgs s ∧ msgs.length ≤ 1000) := by
  refine iter_inv (f := F_law25_FollowPrefix.l8186 mx a6 a7 true) (fun st => ∃ (i : Nat) (imgs : List Img) (msgs : List Msg) (s : Snd), st = (imgs, msgs, (i : Int), s) ∧ i ≤ a6.length ∧ Hist e v0 imgs msgs s ∧ imgs.length ≤ i + 1 ∧ msgs.length ≤ 40 * i) (fun st => a6.length - st.2.2.1.toNat)
    (fun r => r = .inl true ∨ ∃ imgs msgs s, r = .inr (imgs, msgs) ∧ Hist e v0 imgs msgs s ∧ msgs.length ≤ 1000) _ ⟨0, imgs0, [], s0, rfl, Nat.zero_le _, h0, by omega, by simp⟩ (lt_N0 (by dsimp only; omega)) (fun st ⟨i, imgs, msgs, s, es, hi, hH, hil, hml⟩ => ?_)
  subst es
  by_cases hia : i < a6.length
  case neg =>
    have : i = a6.length := by omega
    subst this
    exact .inr ⟨.inr (imgs, msgs), by simp only [F_law25_FollowPrefix.l8186, nltd, cond_false], .inr ⟨imgs, msgs, s, rfl, hH, by omega⟩⟩
  obtain ⟨hcl, hcw⟩ := hw _ (getD_lt (l := a6) (d := []) hia)
  generalize hcs : a6.getD i [] = cs at hcl hcw
  obtain ⟨b, hb, _⟩ := heavy_some cs (by omega)
  cases b with
  | true =>
    refine .inr ⟨.inl true, ?_, .inl rfl⟩
    simp only [F_law25_FollowPrefix.l8186, ltd hia, lez, Bool.and_self, cond_true, Int.toNat_natCast, hcs, hb, Option.bind_some]
  | false =>
  have hc5 : cs.length ≤ 5000 := by
    obtain ⟨b', hb', hb5⟩ := heavy_some cs (by omega)
    rw [hb] at hb'
    exact hb5 (Option.some.inj hb').symm
  obtain ⟨B, hB, hBp⟩ := termed_ok (cs := cs) (by omega)
  cases B with
  | true =>
    refine .inr ⟨.inl true, ?_, .inl rfl⟩
    simp only [F_law25_FollowPrefix.l8186, ltd hia, lez, Bool.and_self, cond_true, Int.toNat_natCast, hcs, hb, hB, Option.bind_some, cond_false]
  | false =>
  have hp := hBp rfl
  have hlen := hH.len
  have w1 : IntKind.i64.wrap ((imgs.length : Int) - 1) = ((imgs.length - 1 : Nat) : Int) := by rw [w64 (by omega) (by omega)]; omega
  have hk : imgs.length - 1 < imgs.length := by omega
  obtain ⟨i1, i2, i3, i4, i5⟩ := hH.img _ hk
  have hap := apply_ok (okI_len i1) (cs := cs) (fun c hc => (hcw c hc).1)
  have hinc : IntKind.i64.wrap ((i : Int) + 1) = ((i + 1 : Nat) : Int) := inc64 (by omega)
  obtain ⟨x24, hx24⟩ : ∃ x, x = imgs.getD (imgs.length - 1) V0 := ⟨_, rfl⟩
  rw [← hx24] at hap i1 i2 i3 i4 i5
  have skip : ∀ x28 : Int × Int × Int × (List (List Int)) × Int × Int × Int × (List Int) × Int, F_numbers_Send mx (s.1, s.2.1, s.2.2.1, s.2.2.2, cs) = some x28 → F_law25_FollowPrefix.s4191390 mx (applyS x24 cs) x28 = some (.inl ()) →
      F_law25_FollowPrefix.l8186 mx a6 a7 true (imgs, msgs, (i : Int), s) = some (.next (imgs, msgs, ((i + 1 : Nat) : Int), s)) := fun x28 h1 h2 => by
    have hx24' : imgs.getD (imgs.length - 1) (0, ([], ([], (0, (0, false))))) = x24 := hx24.symm
    simp only [F_law25_FollowPrefix.l8186, ltd hia, lez, Bool.and_self, cond_true, Int.toNat_natCast, hcs, hb, hB, Option.bind_some, cond_false, w1, ltd hk, blt_t hk, hx24', hap, h1, h2, hinc]
  have again : ∀ x28 : Int × Int × Int × (List (List Int)) × Int × Int × Int × (List Int) × Int, F_numbers_Send mx (s.1, s.2.1, s.2.2.1, s.2.2.2, cs) = some x28 → F_law25_FollowPrefix.s4191390 mx (applyS x24 cs) x28 = some (.inl ()) →
      (∃ b, F_law25_FollowPrefix.l8186 mx a6 a7 true (imgs, msgs, (i : Int), s) = some (.next b) ∧ (∃ (i : Nat) (imgs : List Img) (msgs : List Msg) (s : Snd), b = (imgs, msgs, (i : Int), s) ∧ i ≤ a6.length ∧ Hist e v0 imgs msgs s ∧ imgs.length ≤ i + 1 ∧ msgs.length ≤ 40 * i) ∧ a6.length - b.2.2.1.toNat < a6.length - (i : Int).toNat) := fun x28 h1 h2 =>
    ⟨_, skip x28 h1 h2, ⟨i + 1, imgs, msgs, s, rfl, hia, hH, by omega, by omega⟩, by dsimp only; omega⟩
  rcases send_ok hH.wf (cs := cs) (fun c hc => (hcw c hc).1) with ⟨⟨er, h1, h2⟩, _⟩ | ⟨⟨_, h1, h2⟩, h3⟩
  · refine .inl (again _ h2 ?_)
    simp only [F_law25_FollowPrefix.s4191390, bne_int, decide_eq_false h1]
    cases decide ((applyS x24 cs).2.2.2.2.2.2 = 0) <;> rfl
  cases hal : applyL x24 cs with
  | inl er =>
    refine .inl (again _ h3 ?_)
    have : (applyS x24 cs).2.2.2.2.2.2 ≠ 0 := fun h => by
      obtain ⟨_, _, w, hw⟩ := applyS_zero.1 h
      rw [hal] at hw; cases hw
    simp only [F_law25_FollowPrefix.s4191390, bne_iff_ne.2 this, cond_true]
  | inr w =>
  have hval := applyS_val i1 h1 hal
  have hS := hist_step he hH hcw hp h1 h2 (by rw [← hx24]; exact hal)
  have hx24' : imgs.getD (imgs.length - 1) (0, ([], ([], (0, (0, false))))) = x24 := hx24.symm
  have s4 : F_law25_FollowPrefix.s4191390 mx (withE w) (s.1, s.2.1 + 1, s.2.2.1, lastR (s.2.2.2 ++ [chBytes cs]), 1, s.1, s.2.1 + 1, chBytes cs, 0) = some (.inr ()) := rfl
  have c1 : Nat.ble (imgs.length + 1) 4294967296 = true := ble_t (by omega)
  have c2 : Nat.ble (msgs.length + 1) 4294967296 = true := ble_t (by omega)
  obtain ⟨B7, hB7⟩ : ∃ B, F_law25_FollowPrefix.s134124542 mx a7 (imgs, msgs, (i : Int), s) = some B := by
    simp only [F_law25_FollowPrefix.s134124542]
    by_cases g : i < a7.length
    · simp only [ltd g, lez, Bool.and_self, cond_true]; exact ⟨_, rfl⟩
    · rw [decide_eq_false (show ¬ (i : Int) < (a7.length : Int) by omega)]; exact ⟨_, rfl⟩
  obtain ⟨e0, e1⟩ := id he
  have hse := hH.se
  have w2 : IntKind.i64.wrap (s.1 + 1) = s.1 + 1 := w64 (by omega) (by omega)
  rw [hval] at hap
  generalize hI : ((w.1, w.2.1, w.2.2.1, w.2.2.2.1, (imgs.length : Int), w.2.2.2.2.2) : Img) = I at hS
  have hIm := hS.img imgs.length (by simp)
  rw [getD_new] at hIm
  have hh := hear_ok (s := (s.1, s.2.1 + 1, s.2.2.1, lastR (s.2.2.2 ++ [chBytes cs]))) (v := I) (m := (3, s.1 + 1, 0, [])) hS.wf (okI_len hIm.1) hIm.2.1.2 ⟨(by decide : (0 : Int) ≤ 3), (by decide : (3 : Int) ≤ 255)⟩ (fun x hx => by cases hx)
  have hst : F_law25_FollowPrefix.l8186 mx a6 a7 true (imgs, msgs, (i : Int), s) = (bif B7 then
      (F_numbers_Hear mx (s.1, s.2.1 + 1, s.2.2.1, lastR (s.2.2.2 ++ [chBytes cs]), I.1, I.2.1, I.2.2.1, I.2.2.2.1, I.2.2.2.2.1, I.2.2.2.2.2, (3 : Int), s.1 + 1, (0 : Int), ([] : List Int))).bind fun x45 =>
        bif x45.2.2.2.2.2 == (0 : Int) then
          bif Nat.ble ((msgs ++ [((1 : Int), s.1, s.2.1 + 1, chBytes cs)]).length + x45.2.2.2.2.1.length) 4294967296 then
            some (.next (imgs ++ [I], ((msgs ++ [((1 : Int), s.1, s.2.1 + 1, chBytes cs)]) ++ x45.2.2.2.2.1), ((i + 1 : Nat) : Int), s.1, s.2.1 + 1, s.2.2.1, lastR (s.2.2.2 ++ [chBytes cs])))
          else none
        else some (.next (imgs ++ [I], msgs ++ [((1 : Int), s.1, s.2.1 + 1, chBytes cs)], ((i + 1 : Nat) : Int), s.1, s.2.1 + 1, s.2.2.1, lastR (s.2.2.2 ++ [chBytes cs])))
      else some (.next (imgs ++ [I], msgs ++ [((1 : Int), s.1, s.2.1 + 1, chBytes cs)], ((i + 1 : Nat) : Int), s.1, s.2.1 + 1, s.2.2.1, lastR (s.2.2.2 ++ [chBytes cs])))) := by
    rw [← hI]
    simp only [F_law25_FollowPrefix.l8186, ltd hia, lez, Bool.and_self, cond_true, Int.toNat_natCast, hcs, hb, hB, Option.bind_some, cond_false, w1, ltd hk, blt_t hk, hx24', hap, h3, s4, List.length_singleton, c1, c2, hB7, hinc, w2]
    rfl
  have plain : ∃ b, some (Step.next (imgs ++ [I], msgs ++ [((1 : Int), s.1, s.2.1 + 1, chBytes cs)], ((i + 1 : Nat) : Int), s.1, s.2.1 + 1, s.2.2.1, lastR (s.2.2.2 ++ [chBytes cs])) : Step _ (Bool ⊕ (List Img × List Msg))) = some (.next b) ∧ (∃ (i : Nat) (imgs : List Img) (msgs : List Msg) (s : Snd), b = (imgs, msgs, (i : Int), s) ∧ i ≤ a6.length ∧ Hist e v0 imgs msgs s ∧ imgs.length ≤ i + 1 ∧ msgs.length ≤ 40 * i) ∧ a6.length - b.2.2.1.toNat < a6.length - (i : Int).toNat :=
    ⟨_, rfl, ⟨i + 1, _, _, _, rfl, hia, hS, by rw [List.length_append, List.length_singleton]; omega, by rw [List.length_append, List.length_singleton]; omega⟩, by dsimp only; omega⟩
  rw [hst]
  cases B7 with
  | false => exact .inl plain
  | true =>
  simp only [cond_true]
  rcases hh with ⟨_, _, hm, hh⟩ | ⟨_, hh⟩
  case inr =>
    have hh : F_numbers_Hear mx (s.1, s.2.1 + 1, s.2.2.1, lastR (s.2.2.2 ++ [chBytes cs]), I.1, I.2.1, I.2.2.1, I.2.2.2.1, I.2.2.2.2.1, I.2.2.2.2.2, (3 : Int), s.1 + 1, (0 : Int), ([] : List Int)) = _ := hh
    rw [hh]; exact .inl plain
  have hh : F_numbers_Hear mx (s.1, s.2.1 + 1, s.2.2.1, lastR (s.2.2.2 ++ [chBytes cs]), I.1, I.2.1, I.2.2.1, I.2.2.2.1, I.2.2.2.2.1, I.2.2.2.2.2, (3 : Int), s.1 + 1, (0 : Int), ([] : List Int)) = _ := hh
  have hE : hearS (s.1, s.2.1 + 1, s.2.2.1, lastR (s.2.2.2 ++ [chBytes cs])) I (3, s.1 + 1, 0, []) = if (writeS I).2 = 0 then (s.1, s.2.1 + 1, s.2.2.1, lastR (s.2.2.2 ++ [chBytes cs]), [(4, s.1, s.2.1 + 1, (writeS I).1)], 0) else (0, 0, 0, [], [], (writeS I).2) := by
    unfold hearS; rw [if_neg (show ¬ (3 : Int) = 2 by decide), if_pos rfl, if_neg (fun hh => by have := hh.1; dsimp only at this; omega)]
  rw [hh, hE]
  by_cases g : (writeS I).2 = 0
  · rw [if_pos g]
    have c3 : Nat.ble ((msgs ++ [((1 : Int), s.1, s.2.1 + 1, chBytes cs)]).length + 1) 4294967296 = true := ble_t (by rw [List.length_append, List.length_singleton]; omega)
    simp only [Option.bind_some, beq_self_eq_true, cond_true, List.length_singleton, c3]
    refine .inl ⟨_, rfl, ⟨i + 1, _, _, _, rfl, hia, hist_img hS (l := [(4, s.1, s.2.1 + 1, (writeS I).1)]) (fun m hm => ?_), by rw [List.length_append, List.length_singleton]; omega, by simp only [List.length_append, List.length_singleton]; omega⟩, by dsimp only; omega⟩
    rw [List.mem_singleton] at hm
    rw [List.length_append, List.length_singleton, Nat.add_sub_cancel, getD_new]
    exact ⟨hm, g⟩
  · rw [if_neg g]
    simp only [Option.bind_some, ieq, decide_eq_false g, cond_false]
    exact .inl plain
theorem hear_hist {e : Int} {v0 : Img} {imgs : List Img} {msgs : List Msg} {s : Snd} (h : Hist e v0 imgs msgs s) {k : Nat} (hk : k < imgs.length) {m : Msg} (hm : m ∈ msgs) :
    ∃ (k' : Nat) (what : Int) (l : List Msg), k ≤ k' ∧ k' < imgs.length ∧ F_follow_Hear mx (e, (k : Int), (imgs.getD k V0).1, (imgs.getD k V0).2.1, (imgs.getD k V0).2.2.1, (imgs.getD k V0).2.2.2.1, (imgs.getD k V0).2.2.2.2.1, (imgs.getD k V0).2.2.2.2.2, m) = some (frOf (e, (k' : Int), imgs.getD k' V0) what l) := by
  obtain ⟨i1, i2, i3, i4, i5⟩ := h.img k hk
  obtain ⟨m1, m2, m3, k2, m4, m5, m6⟩ := h.msg m hm
  have hHi := h.img
  have hsn := h.sn
  have hse := h.se
  obtain ⟨n1, n2⟩ := h.ok.2.1
  have hf : okF (e, (k : Int), imgs.getD k V0) := ⟨by rw [← hse]; exact h.ok.1, ⟨by dsimp only; omega, by dsimp only; omega⟩, i1, i3, i4, i5⟩
  have hkd : 0 ≤ m.1 ∧ m.1 ≤ 255 := by rcases m6 with ⟨a, _⟩ | ⟨a, _⟩ <;> omega
  obtain ⟨r, hr, hH⟩ := fhear_ok (f := (e, (k : Int), imgs.getD k V0)) (m := m) (okI_len i1) hkd m1
  have hr : F_follow_Hear mx (e, (k : Int), (imgs.getD k V0).1, (imgs.getD k V0).2.1, (imgs.getD k V0).2.2.1, (imgs.getD k V0).2.2.2.1, (imgs.getD k V0).2.2.2.2.1, (imgs.getD k V0).2.2.2.2.2, m) = some r := hr
  cases hH with
  | bad h => exact absurd ⟨hf, m2⟩ h
  | elder h he => exfalso; have he : m.2.1 < e := he; omega
  | other h he hk' => exact m6.elim (fun a => absurd a.1 hk'.1) (fun a => absurd a.1 hk'.2)
  | had h he hk' hn => exact ⟨k, _, _, Nat.le_refl _, hk, hr⟩
  | image h he hk' hn v hv hw =>
    rcases m6 with ⟨a, _⟩ | ⟨_, b⟩
    · exfalso; omega
    · obtain ⟨j1, j2, j3, j4, j5⟩ := hHi k2 m4
      have : v = imgs.getD k2 V0 := write_inj hv b m1 hw.2 j2.2
      subst this
      have hk2 : k ≤ k2 := by
        have hn : ¬ (m.2.1 = e ∧ m.2.2.1 ≤ (k : Int)) := hn
        omega
      have hE : withEN (imgs.getD k2 V0) m.2.1 m.2.2.1 = imgs.getD k2 V0 := by unfold withEN; rw [m3, m5, ← j3, ← j4, ← j5]
      rw [hE, m3, m5] at hr
      exact ⟨k2, _, _, hk2, m4, hr⟩
  | gap h he hk' hn => exact ⟨k, _, _, Nat.le_refl _, hk, hr⟩
  | next h he hk' hn cs w hc hp hw =>
    rcases m6 with ⟨_, b1, b2⟩ | ⟨a, _⟩
    · have hn : m.2.2.1 = (k : Int) + 1 := hn
      have : k2 = k + 1 := by omega
      subst this
      have hb := b2 cs w hc hw
      have hE : ((w.1, w.2.1, w.2.2.1, w.2.2.2.1, m.2.2.1, w.2.2.2.2.2) : Img) = imgs.getD (k + 1) V0 := by rw [hb, m5]
      rw [hE, m5] at hr
      exact ⟨k + 1, _, _, by omega, m4, hr⟩
    · exfalso; omega
  | not h he hk' hn hno => exact ⟨k, _, _, Nat.le_refl _, hk, hr⟩
theorem step_ok {e : Int} {v0 : Img} {imgs : List Img} {msgs : List Msg} {s : Snd} (h : Hist e v0 imgs msgs s) (hml : msgs.length ≤ 1000) {k : Nat} (hk : k < imgs.length) (x : Int) :
    ∃ k' : Nat, k ≤ k' ∧ k' < imgs.length ∧ F_law25_step mx (e, (k : Int), (imgs.getD k V0).1, (imgs.getD k V0).2.1, (imgs.getD k V0).2.2.1, (imgs.getD k V0).2.2.2.1, (imgs.getD k V0).2.2.2.2.1, (imgs.getD k V0).2.2.2.2.2, msgs, x) =
      some (e, (k' : Int), (imgs.getD k' V0).1, (imgs.getD k' V0).2.1, (imgs.getD k' V0).2.2.1, (imgs.getD k' V0).2.2.2.1, (imgs.getD k' V0).2.2.2.2.1, (imgs.getD k' V0).2.2.2.2.2, true) := by
  simp only [F_law25_step, ieq]
  by_cases h1 : msgs.length = 0
  · rw [decide_eq_true (show (msgs.length : Int) = 0 by omega)]; exact ⟨k, Nat.le_refl _, hk, rfl⟩
  rw [decide_eq_false (show ¬ (msgs.length : Int) = 0 by omega)]
  by_cases h2 : x < 0
  · rw [decide_eq_true h2]; exact ⟨k, Nat.le_refl _, hk, rfl⟩
  rw [decide_eq_false h2]
  obtain ⟨n, rfl⟩ := Int.eq_ofNat_of_zero_le (show 0 ≤ x by omega)
  have hmod := Nat.mod_lt n (show 0 < msgs.length by omega)
  obtain ⟨k', what, l, q1, q2, q3⟩ := hear_hist h hk (getD_lt (l := msgs) (d := M0) hmod)
  have q3 : F_follow_Hear mx (e, (k : Int), (imgs.getD k V0).1, (imgs.getD k V0).2.1, (imgs.getD k V0).2.2.1, (imgs.getD k V0).2.2.2.1, (imgs.getD k V0).2.2.2.2.1, (imgs.getD k V0).2.2.2.2.2, msgs.getD (n % msgs.length) (0, (0, (0, [])))) = _ := q3
  refine ⟨k', q1, q2, ?_⟩
  simp only [cond_false, cast_tmod, lez, ltd hmod, Bool.and_self, cond_true, Int.toNat_natCast, q3, Option.bind_some]
  rfl
theorem steps_loop {e : Int} {v0 : Img} {imgs : List Img} {msgs : List Msg} {s : Snd} (h : Hist e v0 imgs msgs s) (hml : msgs.length ≤ 1000) (a8 : List Int) (h60 : a8.length ≤ 60) :
    ∃ r, iter mx (F_law25_FollowPrefix.l16378 mx a8 (imgs, msgs)) ((0 : Int), e, (0 : Int), (imgs.getD 0 V0).1, (imgs.getD 0 V0).2.1, (imgs.getD 0 V0).2.2.1, (imgs.getD 0 V0).2.2.2.1, (imgs.getD 0 V0).2.2.2.2.1, (imgs.getD 0 V0).2.2.2.2.2, msgs) = some r ∧ r = .inr () := by
  refine iter_inv (f := F_law25_FollowPrefix.l16378 mx a8 (imgs, msgs)) (fun st => ∃ (i k : Nat), st = ((i : Int), e, (k : Int), (imgs.getD k V0).1, (imgs.getD k V0).2.1, (imgs.getD k V0).2.2.1, (imgs.getD k V0).2.2.2.1, (imgs.getD k V0).2.2.2.2.1, (imgs.getD k V0).2.2.2.2.2, msgs) ∧ i ≤ a8.length ∧ k < imgs.length) (fun st => a8.length - st.1.toNat)
    (fun r => r = .inr ()) _ ⟨0, 0, rfl, Nat.zero_le _, h.len⟩ (lt_N0 (by dsimp only; omega)) (fun st ⟨i, k, es, hi, hk⟩ => ?_)
  subst es
  by_cases hia : i < a8.length
  case neg =>
    have : i = a8.length := by omega
    subst this
    exact .inr ⟨.inr (), by simp only [F_law25_FollowPrefix.l16378, nltd, cond_false], rfl⟩
  obtain ⟨k', q1, q2, q3⟩ := step_ok h hml hk (a8.getD i 0)
  obtain ⟨i1, _⟩ := h.img k' q2
  have hs := same_img (v := imgs.getD k' V0) (w := imgs.getD k' V0) (by have := i1.2.1.2.1; omega) (by have := i1.2.2.1; omega)
  rw [decide_eq_true rfl] at hs
  have hs : F_image_Same mx ((imgs.getD k' V0).1, (imgs.getD k' V0).2.1, (imgs.getD k' V0).2.2.1, (imgs.getD k' V0).2.2.2.1, (imgs.getD k' V0).2.2.2.2.1, (imgs.getD k' V0).2.2.2.2.2, imgs.getD k' (0, ([], ([], (0, (0, false)))))) = some true := hs
  refine .inl ⟨(((i + 1 : Nat) : Int), e, (k' : Int), (imgs.getD k' V0).1, (imgs.getD k' V0).2.1, (imgs.getD k' V0).2.2.1, (imgs.getD k' V0).2.2.2.1, (imgs.getD k' V0).2.2.2.2.1, (imgs.getD k' V0).2.2.2.2.2, msgs), ?_, ⟨i + 1, k', rfl, hia, q2⟩, by dsimp only; omega⟩
  simp only [F_law25_FollowPrefix.l16378, ltd hia, lez, Bool.and_self, cond_true, Int.toNat_natCast, q3, Option.bind_some, Bool.not_true, cond_false, decide_eq_false (show ¬ (k' : Int) < (k : Int) by omega), decide_eq_false (show ¬ (imgs.length : Int) ≤ (k' : Int) by omega), ltd q2, blt_t q2, hs]
  rw [inc64 (by omega)]
theorem main {v : Img} (hvl : v.2.2.1.length ≤ 140737488351232) (hv : wfIm v) (a6 : List (List Chg)) (hw : ∀ cs ∈ a6, cs.length ≤ 140737488351232 ∧ ∀ c ∈ cs, wfC c ∧ bytesC c) (a7 : List Bool) (a8 : List Int) :
    F_law25_FollowPrefix mx (v.1, v.2.1, v.2.2.1, v.2.2.2.1, v.2.2.2.2.1, v.2.2.2.2.2, a6, a7, a8) = some true := by
  obtain ⟨b2, e2, _⟩ := great_some v (by omega)
  have e2 : F_ref21_Great mx (v.1, v.2.1, v.2.2.1, v.2.2.2.1, v.2.2.2.2.1, v.2.2.2.2.2) = some b2 := e2
  have hck := check_ok (v := v) (fun k hk => (hv.1 k hk).1)
  have hck : F_image_Check mx (v.1, v.2.1, v.2.2.1, v.2.2.2.1, v.2.2.2.2.1, v.2.2.2.2.2) = _ := hck
  simp only [F_law25_FollowPrefix, alive_ok, Option.bind_some, Bool.not_true, cond_false, e2]
  cases b2 with
  | true => rfl
  | false =>
  simp only [cond_false]
  by_cases h1 : 100 < v.2.2.1.length
  · rw [decide_eq_true (show (100 : Int) < (v.2.2.1.length : Int) by omega)]; rfl
  rw [decide_eq_false (show ¬ (100 : Int) < (v.2.2.1.length : Int) by omega)]
  by_cases h2 : 24 < a6.length
  · rw [decide_eq_true (show (24 : Int) < (a6.length : Int) by omega)]; rfl
  rw [decide_eq_false (show ¬ (24 : Int) < (a6.length : Int) by omega)]
  by_cases h3 : 60 < a8.length
  · rw [decide_eq_true (show (60 : Int) < (a8.length : Int) by omega)]; rfl
  rw [decide_eq_false (show ¬ (60 : Int) < (a8.length : Int) by omega)]
  simp only [cond_false, newN_ok, Option.bind_some, F_follow_New, hck, inF_ok]
  have i0 : inN 0 := ⟨by decide, by decide⟩
  by_cases hok : okI v
  case neg => rw [if_neg hok]; rfl
  rw [if_pos hok]
  have he : inN v.2.2.2.1 := hok.2.2.2.1
  have htw := ftwin_ok hok v.2.2.2.1 0
  simp only [bne_self_eq_false, cond_false, decide_eq_true i0, Bool.not_true, htw, Option.bind_some, if_pos (show inN v.2.2.2.1 ∧ inN 0 from ⟨he, i0⟩)]
  have hok0 := withEN_ok hok he i0
  have hH : Hist v.2.2.2.1 (withEN v v.2.2.2.1 0) [withEN v v.2.2.2.1 0] [] (v.2.2.2.1, 0, 0, []) := by
    refine ⟨by simp, rfl, rfl, ⟨he, i0, ⟨Int.le_refl 0, Int.le_refl 0⟩, ⟨by simp, by simp⟩, fun r hr => by cases hr⟩, ⟨by simp, fun r hr => by cases hr⟩, fun k hk => ?_, fun m hm => (by cases hm), rfl⟩
    have : k = 0 := by simpa using hk
    subst this
    exact ⟨hok0, hv, rfl, rfl, rfl⟩
  obtain ⟨r, hr, hQ⟩ := acts_loop he a6 a7 (by omega) hw _ _ hH rfl
  have hr : iter mx (F_law25_FollowPrefix.l8186 mx a6 a7 true) ([((withEN v v.2.2.2.1 0).1, (withEN v v.2.2.2.1 0).2.1, (withEN v v.2.2.2.1 0).2.2.1, (withEN v v.2.2.2.1 0).2.2.2.1, (withEN v v.2.2.2.1 0).2.2.2.2.1, (withEN v v.2.2.2.1 0).2.2.2.2.2)], ([] : List Msg), (0 : Int), v.2.2.2.1, (0 : Int), (0 : Int), ([] : List (List Int))) = some r := hr
  rw [hr]
  rcases hQ with rfl | ⟨imgs, msgs, s, rfl, hH2, hml⟩
  · rfl
  obtain ⟨r2, hr2, rfl⟩ := steps_loop hH2 hml a8 (by omega)
  rw [hH2.fst] at hr2
  have hr2 : iter mx (F_law25_FollowPrefix.l16378 mx a8 (imgs, msgs)) ((0 : Int), v.2.2.2.1, (0 : Int), (withEN v v.2.2.2.1 0).1, (withEN v v.2.2.2.1 0).2.1, (withEN v v.2.2.2.1 0).2.2.1, (withEN v v.2.2.2.1 0).2.2.2.1, (withEN v v.2.2.2.1 0).2.2.2.2.1, (withEN v v.2.2.2.1 0).2.2.2.2.2, msgs) = _ := hr2
  simp only [Option.bind_some, hr2]
theorem pure (q : Int × (List Int) × (List (Int × (List Int) × (List Int) × Int × Int × Int)) × Int × Int × Bool × (List (List (Int × Int × ((List Int) × (List Int) × Int × Int × Int) × (List Int) × Int × Int × Bool))) × (List Bool) × (List Int)) (h : wfIns F_law25_FollowPrefix.sig.pars q) : F_law25_FollowPrefix mx q = some true := by
  obtain ⟨t, qs, l, ie, inn, ib, a6, a7, a8⟩ := q
  have hb : ∀ {x : List Int}, Ty.wf .str x → bytesI x := fun hx y hy => ⟨(hx.1 y hy).1, by have := (hx.1 y hy).2; omega⟩
  refine main (v := (t, qs, l, ie, inn, ib)) h.1.2.2.1.2 ⟨fun k hk => ?_, fun k hk => ?_⟩ a6 (fun cs hcs => ?_) a7 a8
  · have := h.1.2.2.1.1 k hk
    exact ⟨⟨this.2.1.2, this.2.2.1.2⟩, hb this.2.1, hb this.2.2.1⟩
  · have := h.1.2.2.1.1 k hk
    exact ⟨wfu32 this.2.2.2.1, wfu64 this.2.2.2.2.2⟩
  · have hc := h.2.1.1.1 cs hcs
    refine ⟨hc.2, fun c hcm => ?_⟩
    have hx := hc.1 c hcm
    exact ⟨⟨wfu32 hx.2.2.1.2.2.1, (wfu64 hx.2.2.1.2.2.2.2).1, (wfu64 hx.2.2.1.2.2.2.2).2⟩, hb hx.2.2.1.1, hb hx.2.2.1.2.1, hb hx.2.2.2.1⟩
end Go.Proofs.Ytepgfpihfpjefaa.followPrefix
