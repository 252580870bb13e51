/- What is written is bytes. -/
import Derived.Test.YtmkfifilpkhfoaaKNa
namespace Go.Proofs.Ytmkfifilpkhfoaa
open Go.Abs
set_option maxRecDepth 100000
theorem sm_bytes_of {cs : List Chg} (h : ∀ c ∈ cs, chOk c ∧ wfC c ∧ bytesC c) : bytesI (putsB cs) := by
  have app : ∀ {a b : List Int}, bytesI a → bytesI b → bytesI (a ++ b) := fun ha hb x hx => (List.mem_append.1 hx).elim (ha x) (hb x)
  have one : ∀ {y : Int}, 0 ≤ y → y ≤ 255 → bytesI [y] := fun h1 h2 x hx => by rw [List.mem_singleton] at hx; subst hx; exact ⟨h1, h2⟩
  have tx : ∀ {s : List Int}, bytesI s → s.length ≤ 1000000 → bytesI (txt s) := fun hs hl => app (sm_bytes (by omega)) hs
  induction cs with
  | nil => intro x hx; cases hx
  | cons c cs ih =>
    refine app ?_ (ih fun x hx => h x (by simp [hx]))
    obtain ⟨⟨⟨t1, t2⟩, hc⟩, ⟨⟨w1, w2⟩, w3, w4⟩, b1, b2, b3⟩ := h c (by simp)
    have ht : bytesI (sm c.2.1.toNat) := sm_bytes (by omega)
    unfold putB
    rcases hc with h | h | h | h | h | h | h
    · obtain ⟨k, ⟨⟨h1, h2⟩, h3, h4, h5⟩, _⟩ := h
      rw [if_pos k]
      exact app (app (app (app (one (by decide) (by decide)) ht) (app (tx b1 (by omega)) (tx b2 (by omega)))) (app (sm_bytes (by omega)) (sm_bytes (by omega)))) (sm_bytes (by omega))
    · obtain ⟨k, ⟨⟨h1, h2⟩, h3⟩, _⟩ := h
      rw [if_neg (by omega), if_pos k]
      exact app (app (app (one (by decide) (by decide)) ht) (tx b3 (by omega))) (one (by omega) (by omega))
    · rw [if_neg (by omega), if_neg (by omega), if_pos h.1]
      exact app (one (by decide) (by decide)) ht
    · obtain ⟨k, ⟨h1, h2⟩, _⟩ := h
      rw [if_neg (by omega), if_neg (by omega), if_neg (by omega), if_neg (by omega), if_neg (by omega)]
      exact app (one (by omega) (by omega)) (sm_bytes (by omega))
    · obtain ⟨k, ⟨h1, h2⟩, _⟩ := h
      rw [if_neg (by omega), if_neg (by omega), if_neg (by omega), if_pos k]
      exact app (app (one (by decide) (by decide)) ht) (sm_bytes (by omega))
    · obtain ⟨k, ⟨h1, h2⟩, _⟩ := h
      rw [if_neg (by omega), if_neg (by omega), if_neg (by omega), if_neg (by omega), if_pos k]
      refine app (app (one (by decide) (by decide)) (sm_bytes (by omega))) ?_
      cases c.2.2.2.2.2.2 <;> exact one (by decide) (by decide)
    · obtain ⟨k, ⟨h1, h2⟩, _⟩ := h
      rw [if_neg (by omega), if_neg (by omega), if_neg (by omega), if_neg (by omega), if_neg (by omega)]
      exact app (one (by omega) (by omega)) (sm_bytes (by omega))
theorem chBytes_bytes {cs : List Chg} (h0 : chErr cs = 0) (h : ∀ c ∈ cs, wfC c ∧ bytesC c) : bytesI (chBytes cs) := by
  obtain ⟨h1, h2, h3⟩ := chErr_zero.1 h0
  have := sm_bytes_of (cs := cs) fun c hc => ⟨h2 c hc, h c hc⟩
  intro x hx
  rcases List.mem_append.1 hx with hx | hx
  · exact sm_bytes (n := cs.length) (by omega) x hx
  · exact this x hx
theorem app_byF {a b : List Int} (ha : bytesI a) (hb : bytesI b) : bytesI (a ++ b) := fun x hx => (List.mem_append.1 hx).elim (ha x) (hb x)
theorem imgB_byF {v : Img} (h : okI v) (hw : ∀ k ∈ v.2.2.1, wfK k) (hb : ∀ k ∈ v.2.2.1, bytesI k.2.1 ∧ bytesI k.2.2.1) : bytesI (imgB v) := by
  obtain ⟨⟨t1, t2⟩, ⟨q1, q2, q3⟩, l1, ⟨e1, e2⟩, ⟨n1, n2⟩, hk, _⟩ := id h
  have hn : ∀ {l : List Int}, (∀ x ∈ l, 0 ≤ x ∧ x ≤ 16) → bytesI (numsB l) := fun {l} => by
    induction l with
    | nil => intro _ x hx; cases hx
    | cons y l ih => intro hl; exact app_byF (sm_bytes (by have := (hl y (by simp)).2; omega)) (ih fun x hx => hl x (by simp [hx]))
  have htx : ∀ {s : List Int}, bytesI s → s.length ≤ 1000000 → bytesI (txt s) := fun hs hl => app_byF (sm_bytes (by omega)) hs
  have hks : ∀ {l : List Kept}, (∀ k ∈ l, keptOk v.1 v.2.1.length k ∧ wfK k ∧ bytesI k.2.1 ∧ bytesI k.2.2.1) → bytesI (keptsB l) := fun {l} => by
    induction l with
    | nil => intro _ x hx; cases hx
    | cons y l ih =>
      intro hl
      obtain ⟨⟨a1, a2, ⟨a3, a4, a5, a6, a7⟩, a8⟩, ⟨b1, b2⟩, b3, b4⟩ := hl y (by simp)
      exact app_byF (app_byF (app_byF (app_byF (app_byF (sm_bytes (by omega)) (htx b3 (by omega))) (htx b4 (by omega))) (app_byF (sm_bytes (by have := b1.2; omega)) (sm_bytes (by omega)))) (sm_bytes (by have := b2.2; omega))) (ih fun x hx => hl x (by simp [hx]))
  refine app_byF (app_byF (app_byF (app_byF (app_byF (app_byF (sm_bytes (by omega)) (sm_bytes (by omega))) (hn q3)) (app_byF (sm_bytes (by omega)) (sm_bytes (by omega)))) ?_) (sm_bytes (by omega))) (hks fun k hk' => ⟨hk k hk', hw k hk', hb k hk'⟩)
  intro x hx
  rw [List.mem_singleton] at hx
  subst hx
  cases v.2.2.2.2.2 <;> exact ⟨by decide, by decide⟩
theorem wr_bytes {v : Img} {b : List Int} (h : writeS v = (b, 0)) (hw : wfIm v) : bytesI b := by
  obtain ⟨h1, h2, _⟩ := writeS_ok h
  rw [← h2]
  exact imgB_byF h1 hw.2 (fun k hk => (hw.1 k hk).2)
end Go.Proofs.Ytmkfifilpkhfoaa
