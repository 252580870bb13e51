/- A disk that is opened again: what is kept. -/
import Derived.Test.YtpfjjbpoikgocaaKRq
namespace Go.Proofs.Ytpfjjbpoikgocaa
open Go.Abs
set_option maxRecDepth 100000
inductive KeepR (d : List Int) (g a : Int) (v : Img) (cs : List Chg) : List Put × Int → Prop
  | app (h : (appS d g a v cs).2 ≠ 9) : KeepR d g a v cs (appS d g a v cs)
  | full (h : (appS d g a v cs).2 = 9) (h2 : (swpS d g a v).2 ≠ 0) : KeepR d g a v cs ([], (swpS d g a v).2)
  | over (h : (appS d g a v cs).2 = 9) (h2 : (swpS d g a v).2 = 0) (h3 : (appS (wr d (swpS d g a v).1) (genS d g a) (1 - a) v cs).2 ≠ 0) : KeepR d g a v cs ([], (appS (wr d (swpS d g a v).1) (genS d g a) (1 - a) v cs).2)
  | both (h : (appS d g a v cs).2 = 9) (h2 : (swpS d g a v).2 = 0) (h3 : (appS (wr d (swpS d g a v).1) (genS d g a) (1 - a) v cs).2 = 0) :
      KeepR d g a v cs ((swpS d g a v).1 ++ (appS (wr d (swpS d g a v).1) (genS d g a) (1 - a) v cs).1, 0)
theorem St.okv {d : List Int} {g a : Int} {v : Img} (h : St d g a v) : okI v ∧ wfIm v := recsImg_ok h.rc
theorem rkeep_ok {d : List Int} (hb : bytesL d) {cs : List Chg} (hw : ∀ c ∈ cs, wfC c ∧ bytesC c) :
    (∃ g a v, St d g a v ∧ ∃ r, F_reopen_Keep mx (d, cs) = some r ∧ KeepR d g a v cs r) ∨ ((¬ ∃ g a v, St d g a v) ∧ ∃ e, (e = 20 ∨ e = 230) ∧ F_reopen_Keep mx (d, cs) = some ([], e)) := by
  rw [keep_eq]
  rcases openK_ok hb _ _ with ⟨g, a, v, h, e⟩ | h
  case inr => exact .inr h
  refine .inl ⟨g, a, v, h, ?_⟩
  rw [e]
  have ha := sappend_ok hb h (cs := cs) (fun c hc => (hw c hc).1)
  have hs := sswap_ok hb h (okI_len h.okv.1) h.okv.2.2 ((logA d g a).1, (logA d g a).2.1, (logA d g a).2.2.1, (logA d g a).2.2.2, v)
  dsimp only at ha hs ⊢
  simp only [ha, Option.bind_some, hs]
  by_cases g1 : (appS d g a v cs).2 = 9
  case neg => rw [bne_iff_ne.2 g1, cond_true]; exact ⟨_, rfl, .app g1⟩
  simp only [g1, bne_self_eq_false, cond_false]
  by_cases g2 : (swpS d g a v).2 = 0
  case neg => rw [bne_iff_ne.2 g2, cond_true]; exact ⟨_, rfl, .full g1 g2⟩
  obtain ⟨p, hp⟩ : ∃ p, swpS d g a v = (p, 0) := ⟨_, Prod.ext rfl g2⟩
  obtain ⟨hP, hp1, _, _, hSt, _⟩ := swp_torn hb h h.okv.2 hp
  have hdo := do_ok h.ok hP.ok (by have := hP.len; omega) (Nat.le_refl p.length)
  have hpw := hP.wr hb p.length
  rw [List.take_length] at hdo hpw
  have hov := KeepR.over (v := v) (cs := cs) g1 g2
  have hbo := KeepR.both (v := v) (cs := cs) g1 g2
  rw [hp] at hov hbo ⊢
  dsimp only at hov hbo ⊢
  simp only [bne_self_eq_false, cond_false, hdo, Option.bind_some]
  rcases rappend_ok hpw.1 (cs := cs) (fun c hc => (hw c hc).1) with ⟨g', a', v', h', e'⟩ | ⟨hno, _⟩
  case inr => exact absurd ⟨_, _, _, hSt⟩ hno
  obtain ⟨rfl, rfl, rfl⟩ := St.uniq hpw.1 hSt h'
  rw [e']
  simp only [Option.bind_some]
  by_cases g3 : (appS (wr d p) (genS d g a) (1 - a) v cs).2 = 0
  case neg => rw [bne_iff_ne.2 g3, cond_true]; exact ⟨_, rfl, hov g3⟩
  rw [g3]
  obtain ⟨q, hq⟩ : ∃ q, appS (wr d p) (genS d g a) (1 - a) v cs = (q, 0) := ⟨_, Prod.ext rfl g3⟩
  obtain ⟨hQ, _⟩ := app_torn hpw.1 hSt hw hq
  have hbo := hbo g3
  rw [hq] at hbo ⊢
  dsimp only at hbo ⊢
  have c1 : Nat.ble (p.length + q.length) 4294967296 = true := ble_t (by have := hP.len; have := hQ.len; omega)
  simp only [bne_self_eq_false, cond_false, c1, cond_true]
  exact ⟨_, rfl, hbo⟩
theorem keep_torn {d : List Int} (hb : bytesL d) {g a : Int} {v : Img} (h : St d g a v) {cs : List Chg} (hw : ∀ c ∈ cs, wfC c ∧ bytesC c) {p : List Put} (hk : ∃ r, r = (p, 0) ∧ KeepR d g a v cs r) :
    Puts d p ∧ chErr cs = 0 ∧ ∃ w, applyL v cs = .inr w ∧ ∀ t, t ≤ p.length → ∃ g' a', St (wr d (p.take t)) g' a' (if t = p.length then w else v) := by
  obtain ⟨r, hr, hk⟩ := hk
  cases hk with
  | app h9 =>
    obtain ⟨a1, a2, w, a3, a4⟩ := app_torn hb h hw hr
    exact ⟨a1, a2, w, a3, fun t ht => ⟨g, a, (a4 t ht).1⟩⟩
  | full h9 h2 => exact absurd (congrArg Prod.snd hr) h2
  | over h9 h2 h3 => exact absurd (congrArg Prod.snd hr) h3
  | both h9 h2 h3 =>
    have hp : p = (swpS d g a v).1 ++ (appS (wr d (swpS d g a v).1) (genS d g a) (1 - a) v cs).1 := (congrArg Prod.fst hr).symm
    obtain ⟨s, hs⟩ : ∃ s, swpS d g a v = (s, 0) := ⟨_, Prod.ext rfl h2⟩
    obtain ⟨hP, hp1, _, hpart, hSt, _⟩ := swp_torn hb h h.okv.2 hs
    have hpw := hP.wr hb s.length
    rw [List.take_length] at hpw
    rw [hs] at h3 hp
    dsimp only at h3 hp
    obtain ⟨q, hq⟩ : ∃ q, appS (wr d s) (genS d g a) (1 - a) v cs = (q, 0) := ⟨_, Prod.ext rfl h3⟩
    obtain ⟨b1, b2, w, b3, b4⟩ := app_torn hpw.1 hSt hw hq
    rw [hq] at hp
    dsimp only at hp
    subst hp
    refine ⟨⟨fun x hx => ?_, fun x hx => (List.mem_append.1 hx).elim (hP.by_ x) (b1.by_ x), ?_⟩, b2, w, b3, fun t ht => ?_⟩
    · rcases List.mem_append.1 hx with hx | hx
      · exact hP.ok x hx
      · rw [← putErr_len hpw.2]; exact b1.ok x hx
    · rw [List.length_append]
      have hl1 : s.length ≤ 5000 := by
        have := congrArg (fun z : List Put × Int => z.1.length) hs
        unfold swpS at this
        have hl := writeS_len v
        dsimp only at this
        split at this
        · simp at this; omega
        split at this
        · simp at this; omega
        split at this
        · simp at this; omega
        · rw [List.length_append, putsAt_len, frame_len, List.length_singleton] at this
          have := parts_le hl; omega
      have := b1.len
      have hl2 : q.length ≤ 5000 := by
        have he := congrArg (fun z : List Put × Int => z.1.length) hq
        have hcl := (chErr_zero.1 b2).2.2
        unfold appS nextS at he
        dsimp only at he
        repeat' split at he
        all_goals first
          | (simp at he; omega)
          | (rw [putsAt_len, frame_len] at he; have := parts_le hcl; omega)
          | (rw [putsAt_len] at he; simp at he; omega)
      omega
    · rw [List.length_append] at ht ⊢
      by_cases hts : t < s.length
      · rw [List.take_append_of_le_length (by omega), if_neg (by omega)]
        exact ⟨g, a, (hpart t hts).1⟩
      · have e1 : (s ++ q).take t = s ++ q.take (t - s.length) := by rw [List.take_append, List.take_of_length_le (by omega)]
        have e2 : wr d (s ++ q.take (t - s.length)) = wr (wr d s) (q.take (t - s.length)) := by unfold wr; rw [List.foldl_append]
        rw [e1, e2]
        have := (b4 (t - s.length) (by omega)).1
        refine ⟨_, _, (?_ : St _ (genS d g a) (1 - a) _)⟩
        by_cases hte : t = s.length + q.length
        · rw [if_pos hte]; rwa [if_pos (by omega)] at this
        · rw [if_neg hte]; rwa [if_neg (by omega)] at this
theorem open_st {d : List Int} (hb : bytesL d) {g a : Int} {v : Img} (h : St d g a v) : F_reopen_Open mx d = some (v.1, v.2.1, v.2.2.1, v.2.2.2.1, v.2.2.2.2.1, v.2.2.2.2.2, (((logA d g a).1.length : Int) - 1), 0) := by
  rcases ropen_ok hb with ⟨g', a', v', h', e⟩ | ⟨hno, _⟩
  · obtain ⟨rfl, rfl, rfl⟩ := St.uniq hb h h'
    exact e
  · exact absurd ⟨_, _, _, h⟩ hno
theorem same_self {v : Img} (h : okI v) : F_image_Same mx (v.1, v.2.1, v.2.2.1, v.2.2.2.1, v.2.2.2.2.1, v.2.2.2.2.2, v.1, v.2.1, v.2.2.1, v.2.2.2.1, v.2.2.2.2.1, v.2.2.2.2.2) = some true := by
  have hs := same_img (v := v) (w := v) (by have := h.2.1.2.1; omega) (by have := h.2.2.1; omega)
  rw [decide_eq_true rfl] at hs
  exact hs
theorem rheavy_ok {d : List Int} {v : Img} (hl : v.2.2.1.length ≤ 140737488351232) {cs : List Chg} (hc : cs.length ≤ 140737488351232) : ∃ b, F_law23_heavy mx (d, v.1, v.2.1, v.2.2.1, v.2.2.2.1, v.2.2.2.2.1, v.2.2.2.2.2, cs) = some b ∧ (b = false → cs.length ≤ 300 ∧ v.2.2.1.length ≤ 200) := by
  obtain ⟨b1, e1, _⟩ := great_some v (by omega)
  obtain ⟨b2, e2, _⟩ := heavy_some cs (by omega)
  have e1 : F_ref21_Great mx (v.1, v.2.1, v.2.2.1, v.2.2.2.1, v.2.2.2.2.1, v.2.2.2.2.2) = some b1 := e1
  simp only [F_law23_heavy, e1, e2, Option.bind_some]
  cases decide ((40000 : Int) < (d.length : Int)) with
  | true => exact ⟨true, rfl, fun h => by cases h⟩
  | false =>
  cases b1 with
  | true => exact ⟨true, rfl, fun h => by cases h⟩
  | false =>
  by_cases h1 : 200 < v.2.2.1.length
  · rw [decide_eq_true (show (200 : Int) < (v.2.2.1.length : Int) by omega)]; exact ⟨true, rfl, fun h => by cases h⟩
  rw [decide_eq_false (show ¬ (200 : Int) < (v.2.2.1.length : Int) by omega)]
  cases b2 with
  | true => exact ⟨true, rfl, fun h => by cases h⟩
  | false =>
  by_cases h2 : 300 < cs.length
  · rw [decide_eq_true (show (300 : Int) < (cs.length : Int) by omega)]; exact ⟨true, rfl, fun h => by cases h⟩
  · rw [decide_eq_false (show ¬ (300 : Int) < (cs.length : Int) by omega)]; exact ⟨false, rfl, fun _ => by omega⟩
end Go.Proofs.Ytpfjjbpoikgocaa
