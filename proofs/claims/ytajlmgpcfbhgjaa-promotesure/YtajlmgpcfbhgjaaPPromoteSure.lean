/- The plain law of PromoteSure. -/
import Derived.Test.YtajlmgpcfbhgjaaKPr
namespace Go.Proofs.Ytajlmgpcfbhgjaa.promoteSure
open Go.Abs
set_option maxRecDepth 100000
theorem alive_ok : F_law26_alive mx () = some true := by kernel_rfl
theorem one_mem {v w : Img} {c : Chg} (ho : oneS v c = .inr w) : ∀ k ∈ w.2.2.1, k ∈ v.2.2.1 ∨ k = (c.2.1, c.2.2.1) := by
  unfold oneS at ho
  repeat' split at ho
  all_goals (first | (cases ho; intro k hk; exact .inl (leftL_mem.1 hk).1) | (cases ho; intro k hk; exact .inl hk) | (cases ho; intro k hk; exact (List.mem_append.1 hk).elim (fun h => .inl (leftL_mem.1 h).1) (fun h => .inr (List.mem_singleton.1 h))) | cases ho)
theorem apply_mem {P : Kept → Prop} : ∀ {cs : List Chg} {v w : Img}, (∀ k ∈ v.2.2.1, P k) → (∀ c ∈ cs, P (c.2.1, c.2.2.1)) → applyL v cs = .inr w → ∀ k ∈ w.2.2.1, P k
  | [], _, _, h, _, e => by cases e; exact h
  | c :: cs, v, w, h, hc, e => by
    rw [applyL] at e
    cases ho : oneS v c with
    | inl e2 => rw [ho] at e; cases e
    | inr u =>
      rw [ho] at e
      refine apply_mem (cs := cs) (fun k hk => ?_) (fun x hx => hc x (by simp [hx])) e
      rcases one_mem ho k hk with hk | rfl
      · exact h k hk
      · exact hc c (by simp)
/-- What goes to the follower, what goes to the primary. -/
def DnOk (e : Int) (m : Msg) : Prop := m.2.1 = e ∧ mayM m ∧ bytesI m.2.2.2 ∧ 0 ≤ m.1 ∧ m.1 ≤ 255
def UpOk (e n : Int) (m : Msg) : Prop := m.2.1 = e ∧ mayM m ∧ m.2.2.2 = [] ∧ (m.1 = 2 ∨ m.1 = 3) ∧ m.2.2.1 ≤ n
structure J (e : Int) (dn up : List Msg) (f : Fol) (s : Snd) (v : Img) : Prop where
  jf : okF f
  fe : f.1 = e
  js : okN s
  ws : wfS s
  se : s.1 = e
  jv : okI v
  wv : wfIm v
  jdn : ∀ m ∈ dn, DnOk e m
  jup : ∀ m ∈ up, UpOk e f.2.1 m
  ack : s.2.2.1 ≤ f.2.1
theorem behind_msgs {s : Snd} (h : okN s) (hw : wfS s) {k : Int} (hk : 0 ≤ k) : (behindL s k).length ≤ 32 ∧ ∀ m ∈ behindL s k, DnOk s.1 m := by
  obtain ⟨h1, ⟨h2, h2'⟩, ⟨h3, h4⟩, ⟨h5, h6⟩, h7⟩ := h
  have hlow : s.2.1 - (s.2.2.2.length : Int) ≤ lowN s k ∧ k ≤ lowN s k := by unfold lowN mxI; split <;> omega
  refine ⟨by unfold behindL; rw [List.length_map, List.length_range]; omega, fun m hm => ?_⟩
  unfold behindL at hm
  obtain ⟨i, hi, rfl⟩ := List.mem_map.1 hm
  have hi := List.mem_range.1 hi
  have hj : (((s.2.2.2.length : Int) - 1) - (s.2.1 - (lowN s k + 1 + (i : Int)))).toNat < s.2.2.2.length := by omega
  exact ⟨rfl, ⟨h1, ⟨by show 0 ≤ lowN s k + 1 + (i : Int); omega, by show lowN s k + 1 + (i : Int) ≤ 2147483647; omega⟩, .inl ⟨rfl, by show 0 < lowN s k + 1 + (i : Int); omega, h7 _ (getD_lt hj)⟩⟩, (hw.2 _ (getD_lt hj)).1, (by decide : (0 : Int) ≤ 1), (by decide : (1 : Int) ≤ 255)⟩
abbrev Act := Int × List Chg × Int
abbrev A0 : Act := (0, ([], 0))
abbrev S1 := List Msg × List Msg × Int × Int × Int × List Int × List Kept × Int × Int × Bool × Int × Int × Int × List (List Int) × Img
def stOf (dn up : List Msg) (f : Fol) (s : Snd) (v : Img) : S1 := (dn, up, f.1, f.2.1, f.2.2.1, f.2.2.2.1, f.2.2.2.2.1, f.2.2.2.2.2.1, f.2.2.2.2.2.2.1, f.2.2.2.2.2.2.2, s.1, s.2.1, s.2.2.1, s.2.2.2, v)
theorem send_J {e : Int} {dn up : List Msg} {f : Fol} {s : Snd} {v : Img} (h : J e dn up f s v) {cs : List Chg} (hw : ∀ c ∈ cs, wfC c ∧ bytesC c) (h1 : chErr cs = 0) (h2 : s.2.1 ≠ 2147483647) {w : Img} (hap : applyL v cs = .inr w) :
    J e (dn ++ [(1, s.1, s.2.1 + 1, chBytes cs)]) up f (s.1, s.2.1 + 1, s.2.2.1, lastR (s.2.2.2 ++ [chBytes cs])) w := by
  obtain ⟨o1, o2, ⟨o3, o4⟩, ⟨o5, o6⟩, o7⟩ := id h.js
  have hcb := chBytes_bytes h1 hw
  have hcl := (chErr_zero.1 h1).2.2
  have hch : isCh (chBytes cs) := ⟨cs, h1, rfl, hw⟩
  obtain ⟨n1, n2⟩ := id o2
  have hlr := lastR_len (s.2.2.2 ++ [chBytes cs])
  rw [List.length_append, List.length_singleton] at hlr
  have hmem : ∀ r ∈ lastR (s.2.2.2 ++ [chBytes cs]), isCh r ∧ bytesI r ∧ r.length ≤ 140737488351232 := fun r hr => by
    rcases List.mem_append.1 (List.mem_of_mem_drop hr) with hr | hr
    · exact ⟨o7 r hr, h.ws.2 r hr⟩
    · rw [List.mem_singleton] at hr; subst hr; exact ⟨hch, hcb, by omega⟩
  have hokw := apply_okI h.jv (chErr_zero.1 h1).2.1 hap
  have i2 := h.wv
  refine ⟨h.jf, h.fe, ⟨o1, ⟨by dsimp only; omega, by dsimp only; omega⟩, ⟨o3, by dsimp only; omega⟩, ⟨by dsimp only; omega, by dsimp only; omega⟩, fun r hr => (hmem r hr).1⟩, ⟨by dsimp only; omega, fun r hr => (hmem r hr).2⟩, h.se, hokw, ⟨fun k hk => ⟨okI_len hokw k hk, ?_⟩, fun k hk => ?_⟩, fun m hm => ?_, h.jup, h.ack⟩
  · exact apply_mem (P := fun k => bytesI k.2.1 ∧ bytesI k.2.2.1) (fun k hk => (i2.1 k hk).2) (fun c hc => ⟨(hw c hc).2.1, (hw c hc).2.2.1⟩) hap k hk
  · exact apply_mem (P := wfK) (fun k hk => i2.2 k hk) (fun c hc => ⟨(hw c hc).1.1, (hw c hc).1.2⟩) hap k hk
  · rcases List.mem_append.1 hm with hm | hm
    · exact h.jdn m hm
    · rw [List.mem_singleton] at hm
      subst hm
      exact ⟨h.se, ⟨o1, ⟨by dsimp only; omega, by dsimp only; omega⟩, .inl ⟨rfl, by dsimp only; omega, hch⟩⟩, hcb, (by decide : (0 : Int) ≤ 1), (by decide : (1 : Int) ≤ 255)⟩
theorem hear_J {e : Int} {dn up : List Msg} {f : Fol} {s : Snd} {v : Img} (h : J e dn up f s v) {m : Msg} (hm : m ∈ dn) :
    ∃ (g : Fol) (what : Int) (l : List Msg), F_follow_Hear mx (f.1, f.2.1, f.2.2.1, f.2.2.2.1, f.2.2.2.2.1, f.2.2.2.2.2.1, f.2.2.2.2.2.2.1, f.2.2.2.2.2.2.2, m) = some (frOf g what l) ∧ l.length ≤ 1 ∧ J e dn (up ++ l) g s v := by
  obtain ⟨m1, m2, m3, m4, m5⟩ := h.jdn m hm
  obtain ⟨r, hr, hH⟩ := fhear_ok (f := f) (m := m) (fun k hk => okI_len h.jf.2.2.1 k hk) ⟨m4, m5⟩ m3
  have hfe := h.fe
  rcases heard_ok hH with ⟨er, he, hee⟩ | ⟨g, what, l, rfl, hg, h1, h2, h3, h4, h5⟩
  · exfalso
    cases hH with
    | bad h' => exact h' ⟨h.jf, m2⟩
    | elder h he => omega
    | other h he' hk => have := congrArg (fun z : FR => z.2.2.2.2.2.2.2.2.2.2) he; have this : (0 : Int) = er := this; omega
    | had h he' hk hn => have := congrArg (fun z : FR => z.2.2.2.2.2.2.2.2.2.2) he; have this : (0 : Int) = er := this; omega
    | image h he' hk hn v hv hw => have := congrArg (fun z : FR => z.2.2.2.2.2.2.2.2.2.2) he; have this : (0 : Int) = er := this; omega
    | gap h he' hk hn => have := congrArg (fun z : FR => z.2.2.2.2.2.2.2.2.2.2) he; have this : (0 : Int) = er := this; omega
    | next h he' hk hn cs w hc hp hw => have := congrArg (fun z : FR => z.2.2.2.2.2.2.2.2.2.2) he; have this : (0 : Int) = er := this; omega
    | not h he' hk hn hno => have := congrArg (fun z : FR => z.2.2.2.2.2.2.2.2.2.2) he; have this : (0 : Int) = er := this; omega
  · have hge : g.1 = e := by
      rcases h5 with ⟨_, rfl⟩ | ⟨_, h5, _⟩ | ⟨_, _, v', _, _, rfl⟩
      · exact hfe
      · omega
      · exact m1
    have hgn := h2 (by omega)
    refine ⟨g, what, l, hr, by rcases h3 with rfl | rfl | rfl <;> simp, hg, hge, h.js, h.ws, h.se, h.jv, h.wv, h.jdn, fun x hx => ?_, by have := h.ack; omega⟩
    have hnew : ∀ k : Int, k = 2 ∨ k = 3 → UpOk e g.2.1 (k, g.1, g.2.1, []) := fun k hk => ⟨hge, ⟨hg.1, hg.2.1, hk.elim (fun e => .inr (.inl ⟨e, rfl⟩)) (fun e => .inr (.inr (.inl ⟨e, rfl⟩)))⟩, rfl, hk, Int.le_refl _⟩
    rcases List.mem_append.1 hx with hx | hx
    · obtain ⟨a, b, c, d, k⟩ := h.jup x hx
      exact ⟨a, b, c, d, by omega⟩
    · rcases h3 with rfl | rfl | rfl
      · cases hx
      · rw [List.mem_singleton] at hx; subst hx; exact hnew 2 (.inl rfl)
      · rw [List.mem_singleton] at hx; subst hx; exact hnew 3 (.inr rfl)
/-- What the primary does with what comes. -/
theorem told_J {e : Int} {dn up : List Msg} {f : Fol} {s : Snd} {v : Img} (h : J e dn up f s v) {m : Msg} (hm : m ∈ up) :
    ∃ x : HR, F_numbers_Hear mx (s.1, s.2.1, s.2.2.1, s.2.2.2, v.1, v.2.1, v.2.2.1, v.2.2.2.1, v.2.2.2.2.1, v.2.2.2.2.2, m) = some x ∧
      (x.2.2.2.2.2 = 0 → x.2.2.2.2.1.length ≤ 32 ∧ J e (dn ++ x.2.2.2.2.1) up f (x.1, x.2.1, x.2.2.1, x.2.2.2.1) v) := by
  obtain ⟨m1, m2, m3, m4, m5⟩ := h.jup m hm
  have hh := hear_ok (s := s) (v := v) (m := m) h.ws (okI_len h.jv) h.wv.2 (by omega) (by rw [m3]; intro y hy; cases hy)
  rcases hh with ⟨_, _, _, hh⟩ | ⟨hno, _⟩
  case inr => exact absurd ⟨h.js, h.jv, m2⟩ hno
  refine ⟨_, hh, ?_⟩
  have plain : J e (dn ++ []) up f s v := by rw [List.append_nil]; exact h
  obtain ⟨o1, o2, ⟨o3, o4⟩, ⟨o5, o6⟩, o7⟩ := id h.js
  have hack := h.ack
  unfold hearS
  by_cases g2 : m.1 = 2
  · rw [if_pos g2]
    by_cases g : m.2.1 = s.1 ∧ m.2.2.1 ≤ s.2.1
    · rw [if_pos g]
      intro _
      have hmx : s.2.2.1 ≤ mxI s.2.2.1 m.2.2.1 ∧ mxI s.2.2.1 m.2.2.1 ≤ s.2.1 ∧ mxI s.2.2.1 m.2.2.1 ≤ f.2.1 := by unfold mxI; split <;> omega
      refine ⟨by simp, h.jf, h.fe, ⟨o1, o2, ⟨?_, ?_⟩, ⟨o5, o6⟩, o7⟩, h.ws, h.se, h.jv, h.wv, ?_, h.jup, ?_⟩
      · show 0 ≤ mxI s.2.2.1 m.2.2.1; omega
      · exact hmx.2.1
      · show ∀ x ∈ dn ++ [], DnOk e x; rw [List.append_nil]; exact h.jdn
      · exact hmx.2.2
    · rw [if_neg g]; intro _; exact ⟨by simp, plain⟩
  rw [if_neg g2]
  have g3 : m.1 = 3 := by omega
  rw [if_pos g3]
  by_cases g : m.2.1 = s.1 ∧ m.2.2.1 ≤ s.2.1 ∧ s.2.1 - (s.2.2.2.length : Int) ≤ m.2.2.1
  · rw [if_pos g]
    intro _
    obtain ⟨b1, b2⟩ := behind_msgs h.js h.ws (k := m.2.2.1) m2.2.1.1
    refine ⟨b1, h.jf, h.fe, h.js, h.ws, h.se, h.jv, h.wv, fun x hx => ?_, h.jup, h.ack⟩
    rcases List.mem_append.1 hx with hx | hx
    · exact h.jdn x hx
    · have := b2 x hx; rwa [h.se] at this
  · rw [if_neg g]
    by_cases g4 : (writeS v).2 = 0
    · rw [if_pos g4]
      intro _
      have hw : writeS v = ((writeS v).1, 0) := Prod.ext rfl g4
      refine ⟨by simp, h.jf, h.fe, h.js, h.ws, h.se, h.jv, h.wv, fun x hx => ?_, h.jup, h.ack⟩
      rcases List.mem_append.1 hx with hx | hx
      · exact h.jdn x hx
      · have hx : x = (4, s.1, s.2.1, (writeS v).1) := List.mem_singleton.1 hx
        subst hx
        exact ⟨h.se, ⟨o1, o2, .inr (.inr (.inr ⟨rfl, v, hw, h.wv⟩))⟩, wr_bytes hw h.wv, (by decide : (0 : Int) ≤ 4), (by decide : (4 : Int) ≤ 255)⟩
    · rw [if_neg g4]; intro h0; exact absurd h0 g4
theorem bif3 (a b c : Bool) : (bif a then some a else bif b then some b else some c) = some (a || (b || c)) := by cases a <;> cases b <;> rfl
theorem bif2 (a b : Bool) : (bif a then some a else some b) = some (a || b) := by cases a <;> rfl
theorem act_ok {e : Int} {dn up : List Msg} {f : Fol} {s : Snd} {v : Img} (h : J e dn up f s v) (i : Int) (hdl : dn.length ≤ 100000) (hul : up.length ≤ 100000) {a : Act} (hw : ∀ c ∈ a.2.1, wfC c ∧ bytesC c) (ha : 0 ≤ a.2.2) :
    ∃ x, F_law26_PromoteSure.s1047846 mx (dn, up, i, f.1, f.2.1, f.2.2.1, f.2.2.2.1, f.2.2.2.2.1, f.2.2.2.2.2.1, f.2.2.2.2.2.2.1, f.2.2.2.2.2.2.2, s.1, s.2.1, s.2.2.1, s.2.2.2, v) a = some x ∧
      ((∃ dn' up' f' s' v', x = .inl (stOf dn' up' f' s' v') ∧ J e dn' up' f' s' v' ∧ dn'.length ≤ dn.length + 32 ∧ up'.length ≤ up.length + 1) ∨ x = .inr (.inl (dn, up))) := by
  have hA := again_ok h.ws h.js
  have hS := send_ok h.ws (cs := a.2.1) (fun c hc => (hw c hc).1)
  have hAp := apply_ok (okI_len h.jv) (cs := a.2.1) (fun c hc => (hw c hc).1)
  have same : ∃ dn' up' f' s' v', (.inl (stOf dn up f s v) : S1 ⊕ (List Msg × List Msg) ⊕ Bool) = .inl (stOf dn' up' f' s' v') ∧ J e dn' up' f' s' v' ∧ dn'.length ≤ dn.length + 32 ∧ up'.length ≤ up.length + 1 := ⟨dn, up, f, s, v, rfl, h, by omega, by omega⟩
  obtain ⟨ak, acs, aat⟩ := a
  dsimp only at hw ha hS hAp
  obtain ⟨n, rfl⟩ := Int.eq_ofNat_of_zero_le ha
  simp only [F_law26_PromoteSure.s1047846, F_law26_PromoteSure.s8382772, F_law26_PromoteSure.s33531094, F_law26_PromoteSure.s134124382, bif3, bif2, Option.bind_some]
  generalize ((ak.tmod 9 == 0) || ((ak.tmod 9 == 1) || (ak.tmod 9 == 2))) = B1
  generalize ((ak.tmod 9 == 3) || ((ak.tmod 9 == 4) || (ak.tmod 9 == 5))) = B2
  generalize ((ak.tmod 9 == 6) || (ak.tmod 9 == 7)) = B3
  cases B1 with
  | true =>
    simp only [cond_true, hAp, Option.bind_some]
    rcases hS with ⟨⟨er, h1, h2⟩, _⟩ | ⟨⟨_, h1, h2⟩, h3⟩
    · have : F_law26_PromoteSure.s134124374 mx (dn, up, i, f.1, f.2.1, f.2.2.1, f.2.2.2.1, f.2.2.2.2.1, f.2.2.2.2.2.1, f.2.2.2.2.2.2.1, f.2.2.2.2.2.2.2, s.1, s.2.1, s.2.2.1, s.2.2.2, v) (applyS v acs) (0, 0, 0, [], 0, 0, 0, [], er) = some false := by
        simp only [F_law26_PromoteSure.s134124374, ieq, decide_eq_false h1]
        cases decide ((applyS v acs).2.2.2.2.2.2 = 0) <;> rfl
      simp only [h2, Option.bind_some, this, cond_false]
      exact ⟨_, rfl, .inl same⟩
    · rw [h3]
      simp only [Option.bind_some]
      obtain ⟨B, hB, hBt⟩ : ∃ B, F_law26_PromoteSure.s134124374 mx (dn, up, i, f.1, f.2.1, f.2.2.1, f.2.2.2.1, f.2.2.2.2.1, f.2.2.2.2.2.1, f.2.2.2.2.2.2.1, f.2.2.2.2.2.2.2, s.1, s.2.1, s.2.2.1, s.2.2.2, v) (applyS v acs) (s.1, s.2.1 + 1, s.2.2.1, lastR (s.2.2.2 ++ [chBytes acs]), 1, s.1, s.2.1 + 1, chBytes acs, 0) = some B ∧ (B = true → (applyS v acs).2.2.2.2.2.2 = 0) := by
        simp only [F_law26_PromoteSure.s134124374, ieq]
        by_cases g : (applyS v acs).2.2.2.2.2.2 = 0
        · rw [decide_eq_true g]
          simp only [cond_true, decide_true]
          by_cases g2 : (applyS v acs).2.2.2.1 = v.2.2.2.1
          · rw [decide_eq_true g2]; exact ⟨_, rfl, fun _ => g⟩
          · rw [decide_eq_false g2]; exact ⟨_, rfl, fun _ => g⟩
        · rw [decide_eq_false g]; exact ⟨false, rfl, fun h => by cases h⟩
      rw [hB]
      cases B with
      | false => exact ⟨_, rfl, .inl same⟩
      | true =>
        obtain ⟨_, _, w, hap⟩ := applyS_zero.1 (hBt rfl)
        rw [applyS_val h.jv h1 hap]
        have c1 : Nat.ble (dn.length + 1) 4294967296 = true := ble_t (by omega)
        simp only [Option.bind_some, cond_true, List.length_singleton, c1]
        exact ⟨_, rfl, .inl ⟨_, up, f, _, w, rfl, send_J h hw h1 h2 hap, by rw [List.length_append, List.length_singleton]; omega, by omega⟩⟩
  | false =>
  cases B2 with
  | true =>
    simp only [cond_true, cond_false, ieq]
    by_cases g : dn.length = 0
    · rw [decide_eq_true (show (dn.length : Int) = 0 by omega)]; exact ⟨_, rfl, .inr rfl⟩
    rw [decide_eq_false (show ¬ (dn.length : Int) = 0 by omega)]
    have hmod := Nat.mod_lt n (show 0 < dn.length by omega)
    obtain ⟨g', what, l, hh, hl, hJ⟩ := hear_J h (getD_lt (l := dn) (d := M0) hmod)
    have hh : F_follow_Hear mx (f.1, f.2.1, f.2.2.1, f.2.2.2.1, f.2.2.2.2.1, f.2.2.2.2.2.1, f.2.2.2.2.2.2.1, f.2.2.2.2.2.2.2, dn.getD (n % dn.length) (0, (0, (0, [])))) = _ := hh
    have c1 : Nat.ble (up.length + l.length) 4294967296 = true := ble_t (by omega)
    simp only [cond_false, cast_tmod, lez, ltd hmod, Bool.and_self, cond_true, Int.toNat_natCast, blt_t hmod, hh, Option.bind_some, frOf, bne_self_eq_false, c1]
    exact ⟨_, rfl, .inl ⟨dn, up ++ l, g', s, v, rfl, hJ, by omega, by rw [List.length_append]; omega⟩⟩
  | false =>
  cases B3 with
  | true =>
    simp only [cond_true, cond_false, ieq]
    by_cases g : up.length = 0
    · rw [decide_eq_true (show (up.length : Int) = 0 by omega)]; exact ⟨_, rfl, .inr rfl⟩
    rw [decide_eq_false (show ¬ (up.length : Int) = 0 by omega)]
    have hmod := Nat.mod_lt n (show 0 < up.length by omega)
    obtain ⟨x, hh, hx⟩ := told_J h (getD_lt (l := up) (d := M0) hmod)
    have hh : F_numbers_Hear mx (s.1, s.2.1, s.2.2.1, s.2.2.2, v.1, v.2.1, v.2.2.1, v.2.2.2.1, v.2.2.2.2.1, v.2.2.2.2.2, up.getD (n % up.length) (0, (0, (0, [])))) = _ := hh
    simp only [cond_false, cast_tmod, lez, ltd hmod, Bool.and_self, cond_true, Int.toNat_natCast, blt_t hmod, hh, Option.bind_some]
    by_cases g0 : x.2.2.2.2.2 = 0
    · obtain ⟨h1, h2⟩ := hx g0
      have c1 : Nat.ble (dn.length + x.2.2.2.2.1.length) 4294967296 = true := ble_t (by omega)
      simp only [decide_eq_true g0, cond_true, c1]
      exact ⟨_, rfl, .inl ⟨dn ++ x.2.2.2.2.1, up, f, (x.1, x.2.1, x.2.2.1, x.2.2.2.1), v, rfl, h2, by rw [List.length_append]; omega, by omega⟩⟩
    · rw [decide_eq_false g0]; exact ⟨_, rfl, .inl same⟩
  | false =>
    obtain ⟨b1, b2⟩ := behind_msgs h.js h.ws (k := s.2.2.1) h.js.2.2.1.1
    have hA : F_numbers_Again mx (s.1, s.2.1, s.2.2.1, s.2.2.2) = _ := hA
    have c1 : Nat.ble (dn.length + (behindL s s.2.2.1).length) 4294967296 = true := ble_t (by omega)
    simp only [cond_false, hA, Option.bind_some, bne_self_eq_false, c1, cond_true]
    refine ⟨_, rfl, .inl ⟨dn ++ behindL s s.2.2.1, up, f, s, v, rfl, ⟨h.jf, h.fe, h.js, h.ws, h.se, h.jv, h.wv, fun x hx => ?_, h.jup, h.ack⟩, by rw [List.length_append]; omega, by omega⟩⟩
    rcases List.mem_append.1 hx with hx | hx
    · exact h.jdn x hx
    · have := b2 x hx; rwa [h.se] at this
theorem loop_ok {e : Int} (a6 : List Act) (h60 : a6.length ≤ 60) (hw : ∀ a ∈ a6, a.2.1.length ≤ 140737488351232 ∧ ∀ c ∈ a.2.1, wfC c ∧ bytesC c) {f : Fol} {s : Snd} {v : Img} (h0 : J e [] [] f s v) :
    ∃ r, iter mx (F_law26_PromoteSure.l8186 mx a6 true) (([] : List Msg), ([] : List Msg), (0 : Int), f.1, f.2.1, f.2.2.1, f.2.2.2.1, f.2.2.2.2.1, f.2.2.2.2.2.1, f.2.2.2.2.2.2.1, f.2.2.2.2.2.2.2, s.1, s.2.1, s.2.2.1, s.2.2.2, v) = some r ∧ (r = .inl true ∨ r = .inr ()) := by
  refine iter_inv (f := F_law26_PromoteSure.l8186 mx a6 true) (fun st => ∃ (i : Nat) (dn up : List Msg) (f : Fol) (s : Snd) (v : Img), st = (dn, up, (i : Int), f.1, f.2.1, f.2.2.1, f.2.2.2.1, f.2.2.2.2.1, f.2.2.2.2.2.1, f.2.2.2.2.2.2.1, f.2.2.2.2.2.2.2, s.1, s.2.1, s.2.2.1, s.2.2.2, v) ∧ i ≤ a6.length ∧ J e dn up f s v ∧ dn.length ≤ 32 * i ∧ up.length ≤ i)
    (fun st => a6.length - st.2.2.1.toNat) (fun r => r = .inl true ∨ r = .inr ()) _ ⟨0, [], [], f, s, v, rfl, Nat.zero_le _, h0, by simp, by simp⟩ (lt_N0 (by dsimp only; omega)) (fun st ⟨i, dn, up, f, s, v, es, hi, hJ, hdl, hul⟩ => ?_)
  subst es
  by_cases hia : i < a6.length
  case neg =>
    have : i = a6.length := by omega
    subst this
    exact .inr ⟨.inr (), by simp only [F_law26_PromoteSure.l8186, nltd, cond_false], .inr rfl⟩
  obtain ⟨hcl, hcw⟩ := hw _ (getD_lt (l := a6) (d := A0) hia)
  generalize ha : a6.getD i A0 = a at hcl hcw
  have ha : a6.getD i (0, ([], 0)) = a := ha
  obtain ⟨b, hb, _⟩ := heavy_some a.2.1 (by omega)
  have hinc : IntKind.i64.wrap ((i : Int) + 1) = ((i + 1 : Nat) : Int) := inc64 (by omega)
  cases b with
  | true =>
    refine .inr ⟨.inl true, ?_, .inl rfl⟩
    simp only [F_law26_PromoteSure.l8186, ltd hia, lez, Bool.and_self, cond_true, Int.toNat_natCast, ha, hb, Option.bind_some]
  | false =>
  by_cases hat : a.2.2 < 0
  · refine .inr ⟨.inl true, ?_, .inl rfl⟩
    simp only [F_law26_PromoteSure.l8186, ltd hia, lez, Bool.and_self, cond_true, Int.toNat_natCast, ha, hb, Option.bind_some, cond_false, decide_eq_true hat]
  obtain ⟨x, hx, hxx⟩ := act_ok hJ (i : Int) (by omega) (by omega) hcw (show 0 ≤ a.2.2 by omega)
  left
  rcases hxx with ⟨dn', up', f', s', v', rfl, hJ', hd', hu'⟩ | rfl
  · have hps := (psure_ok hJ'.ws (f'.2.1 + 1)).1 hJ'.js
    have hfn := hJ'.jf.2.1
    unfold inN at hfn
    have hw1 : IntKind.i64.wrap (f'.2.1 + 1) = f'.2.1 + 1 := w64 (by omega) (by omega)
    have hack := hJ'.ack
    refine ⟨(dn', up', ((i + 1 : Nat) : Int), f'.1, f'.2.1, f'.2.2.1, f'.2.2.2.1, f'.2.2.2.2.1, f'.2.2.2.2.2.1, f'.2.2.2.2.2.2.1, f'.2.2.2.2.2.2.2, s'.1, s'.2.1, s'.2.2.1, s'.2.2.2, v'), ?_, ⟨i + 1, dn', up', f', s', v', rfl, hia, hJ', by omega, by omega⟩, by dsimp only; omega⟩
    simp only [F_law26_PromoteSure.l8186, ltd hia, lez, Bool.and_self, cond_true, Int.toNat_natCast, ha, hb, Option.bind_some, cond_false, decide_eq_false hat, hx, stOf, hw1, hps, decide_eq_false (show ¬ f'.2.1 + 1 ≤ s'.2.2.1 by omega), decide_eq_false (show ¬ f'.2.1 < s'.2.2.1 by omega), hinc]
    split <;> rfl
  · refine ⟨(dn, up, ((i + 1 : Nat) : Int), f.1, f.2.1, f.2.2.1, f.2.2.2.1, f.2.2.2.2.1, f.2.2.2.2.2.1, f.2.2.2.2.2.2.1, f.2.2.2.2.2.2.2, s.1, s.2.1, s.2.2.1, s.2.2.2, v), ?_, ⟨i + 1, dn, up, f, s, v, rfl, hia, hJ, by omega, by omega⟩, by dsimp only; omega⟩
    simp only [F_law26_PromoteSure.l8186, ltd hia, lez, Bool.and_self, cond_true, Int.toNat_natCast, ha, hb, Option.bind_some, cond_false, decide_eq_false hat, hx, hinc]
theorem main {v : Img} (hvl : v.2.2.1.length ≤ 140737488351232) (hv : wfIm v) (a6 : List Act) (hw : ∀ a ∈ a6, a.2.1.length ≤ 140737488351232 ∧ ∀ c ∈ a.2.1, wfC c ∧ bytesC c) :
    F_law26_PromoteSure mx (v.1, v.2.1, v.2.2.1, v.2.2.2.1, v.2.2.2.2.1, v.2.2.2.2.2, a6) = some true := by
  obtain ⟨b2, e2, _⟩ := great_some v (by omega)
  have e2 : F_ref21_Great mx (v.1, v.2.1, v.2.2.1, v.2.2.2.1, v.2.2.2.2.1, v.2.2.2.2.2) = some b2 := e2
  have hfn := fnew_ok (v := v) (fun k hk => (hv.1 k hk).1) 0
  simp only [F_law26_PromoteSure, alive_ok, Option.bind_some, Bool.not_true, cond_false, e2]
  cases b2 with
  | true => rfl
  | false =>
  simp only [cond_false]
  by_cases h1 : 100 < v.2.2.1.length
  · rw [decide_eq_true (show (100 : Int) < (v.2.2.1.length : Int) by omega)]; rfl
  rw [decide_eq_false (show ¬ (100 : Int) < (v.2.2.1.length : Int) by omega)]
  by_cases h2 : 60 < a6.length
  · rw [decide_eq_true (show (60 : Int) < (a6.length : Int) by omega)]; rfl
  rw [decide_eq_false (show ¬ (60 : Int) < (a6.length : Int) by omega)]
  simp only [cond_false, newN_ok, Option.bind_some, hfn]
  have i0 : inN 0 := ⟨by decide, by decide⟩
  by_cases hok : okI v
  case neg => rw [if_neg hok]; rfl
  rw [if_pos hok, if_pos i0]
  have he : inN v.2.2.2.1 := hok.2.2.2.1
  rw [if_pos (show inN v.2.2.2.1 ∧ inN 0 from ⟨he, i0⟩)]
  have hok0 : okI (v.1, v.2.1, v.2.2.1, v.2.2.2.1, 0, false) := turned_ok hok he i0 false
  obtain ⟨r, hr, hQ⟩ := loop_ok (e := v.2.2.2.1) a6 (by omega) hw (f := (v.2.2.2.1, 0, v.1, v.2.1, v.2.2.1, v.2.2.2.1, 0, false)) (s := (v.2.2.2.1, 0, 0, [])) (v := (v.1, v.2.1, v.2.2.1, v.2.2.2.1, 0, false))
    ⟨⟨he, i0, hok0, rfl, rfl, rfl⟩, rfl, newOk he i0, newWf _ _ _, rfl, hok0, hv, fun m hm => (by cases hm), fun m hm => (by cases hm), Int.le_refl 0⟩
  simp only [bne_self_eq_false, cond_false]
  dsimp only at hr
  rw [hr]
  rcases hQ with rfl | rfl <;> rfl
theorem pure (q : Int × (List Int) × (List (Int × (List Int) × (List Int) × Int × Int × Int)) × Int × Int × Bool × (List (Int × (List (Int × Int × ((List Int) × (List Int) × Int × Int × Int) × (List Int) × Int × Int × Bool)) × Int))) (h : wfIns F_law26_PromoteSure.sig.pars q) : F_law26_PromoteSure mx q = some true := by
  obtain ⟨t, qs, l, ie, inn, ib, a6⟩ := q
  have hb : ∀ {x : List Int}, Ty.wf .str x → bytesI x := fun hx y hy => ⟨(hx.1 y hy).1, by have := (hx.1 y hy).2; omega⟩
  refine main (v := (t, qs, l, ie, inn, ib)) h.1.2.2.1.2 ⟨fun k hk => ?_, fun k hk => ?_⟩ a6 (fun a ha => ?_)
  · have := h.1.2.2.1.1 k hk
    exact ⟨⟨this.2.1.2, this.2.2.1.2⟩, hb this.2.1, hb this.2.2.1⟩
  · have := h.1.2.2.1.1 k hk
    exact ⟨wfu32 this.2.2.2.1, wfu64 this.2.2.2.2.2⟩
  · have hc := (h.2.1.1.1 a ha).2.1
    refine ⟨hc.2, fun c hcm => ?_⟩
    have hx := hc.1 c hcm
    exact ⟨⟨wfu32 hx.2.2.1.2.2.1, (wfu64 hx.2.2.1.2.2.2.2).1, (wfu64 hx.2.2.1.2.2.2.2).2⟩, hb hx.2.2.1.1, hb hx.2.2.1.2.1, hb hx.2.2.2.1⟩
end Go.Proofs.Ytajlmgpcfbhgjaa.promoteSure
