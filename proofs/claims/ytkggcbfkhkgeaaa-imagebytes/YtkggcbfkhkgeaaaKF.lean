/- An image's own changes. -/
import Derived.Test.YtkggcbfkhkgeaaaKIg
import Derived.Test.YtkggcbfkhkgeaaaKIu
namespace Go.Proofs.Ytkggcbfkhkgeaaa
open Go.Abs
set_option maxRecDepth 100000
abbrev I0 : Itm := ([], [], 0, 0, 0)
def qCh (q : List Int) (i : Nat) : Chg := (5, (i : Int), I0, [], 0, q.getD i 0, false)
def iCh (k : Kept) : Chg := (1, k.1, k.2, [], 0, 0, false)
def qsCh (q : List Int) (n : Nat) : List Chg := (List.range n).map (qCh q)
def fromL (v : Img) : List Chg := ([(4, 0, I0, [], 0, v.1, false)] ++ qsCh v.2.1 v.2.1.length ++ v.2.2.1.map iCh) ++ [(7, 0, I0, [], 0, v.2.2.2.2.1, false), (6, 0, I0, [], 0, v.2.2.2.1, v.2.2.2.2.2)]
def fromS (v : Img) : List Chg × Int := if okI v then (fromL v, 0) else ([], 8)
theorem qsCh_succ (q : List Int) (n : Nat) : qsCh q (n + 1) = qsCh q n ++ [qCh q n] := by simp [qsCh, List.range_succ]
theorem qsCh_len (q : List Int) (n : Nat) : (qsCh q n).length = n := by simp [qsCh]
theorem fromL_len (v : Img) : (fromL v).length = v.2.1.length + v.2.2.1.length + 3 := by
  unfold fromL; simp only [List.length_append, qsCh_len, List.length_map, List.length_cons, List.length_nil]; omega
theorem from_ok {v : Img} (hb : ∀ k ∈ v.2.2.1, k.2.1.length ≤ 140737488351232 ∧ k.2.2.1.length ≤ 140737488351232) : F_image_From mx (v.1, v.2.1, v.2.2.1, v.2.2.2.1, v.2.2.2.2.1, v.2.2.2.2.2) = some (fromS v) := by
  have hck := check_ok (v := v) hb
  obtain ⟨t, q, l, e, n, b⟩ := v
  dsimp only at hck ⊢
  simp only [F_image_From, hck, Option.bind_some, fromS, bne_int]
  by_cases h1 : okI (t, q, l, e, n, b)
  case neg => simp only [if_neg h1]; rfl
  simp only [if_pos h1, decide_true, Bool.not_true, cond_false]
  have hq : q.length ≤ 4 := h1.2.1.2.1
  have hl : l.length ≤ 1024 := h1.2.2.1
  have g1 := iter_count (f := F_image_From.l122 mx q (q.length : Int)) (fun i => ([(4, 0, I0, [], 0, t, false)] ++ qsCh q i, (i : Int))) q.length (r := [(4, 0, I0, [], 0, t, false)] ++ qsCh q q.length) (lt_N0 (by omega)) (fun i hi => by
    have c1 : Nat.ble (([((4 : Int), (0 : Int), I0, ([] : List Int), (0 : Int), t, false)] ++ qsCh q i).length + 1) 4294967296 = true := ble_t (by rw [List.length_append, qsCh_len]; simp; omega)
    simp only [F_image_From.l122, ltd hi, lez, Bool.and_self, cond_true, Int.toNat_natCast, List.length_singleton, c1]
    rw [inc64 (by omega), qsCh_succ, ← List.append_assoc]; rfl) (by simp only [F_image_From.l122, nltd, cond_false])
  have g1 : iter mx (F_image_From.l122 mx q (q.length : Int)) ([((4 : Int), (0 : Int), (([] : List Int), ([] : List Int), (0 : Int), (0 : Int), (0 : Int)), ([] : List Int), (0 : Int), t, false)], (0 : Int)) = _ := g1
  have g2 := iter_count (f := F_image_From.l250 mx l (l.length : Int)) (fun i => (([(4, 0, I0, [], 0, t, false)] ++ qsCh q q.length) ++ (l.take i).map iCh, (i : Int))) l.length (r := ([(4, 0, I0, [], 0, t, false)] ++ qsCh q q.length) ++ l.map iCh) (lt_N0 (by omega)) (fun i hi => by
    have c1 : Nat.ble (([((4 : Int), (0 : Int), I0, ([] : List Int), (0 : Int), t, false)] ++ qsCh q q.length ++ (l.take i).map iCh).length + 1) 4294967296 = true := ble_t (by simp only [List.length_append, qsCh_len, List.length_map, List.length_take, List.length_singleton]; omega)
    simp only [F_image_From.l250, ltd hi, lez, Bool.and_self, cond_true, Int.toNat_natCast, List.length_singleton, c1]
    rw [inc64 (by omega), take_succ' hi K0, List.map_append, List.append_assoc]; rfl) (by simp only [F_image_From.l250, nltd, cond_false, List.take_length])
  rw [show ([((4 : Int), (0 : Int), I0, ([] : List Int), (0 : Int), t, false)] ++ qsCh q q.length) ++ (l.take 0).map iCh = [((4 : Int), (0 : Int), I0, ([] : List Int), (0 : Int), t, false)] ++ qsCh q q.length by simp] at g2
  have g2 : iter mx (F_image_From.l250 mx l (l.length : Int)) ([((4 : Int), (0 : Int), I0, ([] : List Int), (0 : Int), t, false)] ++ qsCh q q.length, (0 : Int)) = _ := g2
  have c2 : Nat.ble (([((4 : Int), (0 : Int), I0, ([] : List Int), (0 : Int), t, false)] ++ qsCh q q.length ++ l.map iCh).length + 2) 4294967296 = true := ble_t (by simp only [List.length_append, qsCh_len, List.length_map, List.length_singleton]; omega)
  simp only [g1, g2, Option.bind_some, List.length_cons, List.length_nil, Nat.zero_add, Nat.reduceAdd, c2, cond_true]
  rfl

/-! ### they make it -/
theorem fromL_ok {v : Img} (h : okI v) : (fromL v).length ≤ 4096 ∧ ∀ c ∈ fromL v, chOk c := by
  obtain ⟨t, q, l, e, n, b⟩ := v
  obtain ⟨⟨t1, t2⟩, ⟨q1, q2, q3⟩, l1, ⟨e1, e2⟩, ⟨n1, n2⟩, hk, _⟩ := id h
  dsimp only at t1 t2 q1 q2 q3 l1 e1 e2 n1 n2 hk
  refine ⟨by rw [fromL_len]; dsimp only; omega, fun c hc => ?_⟩
  have z0 : itm0 I0 := ⟨rfl, rfl, rfl, rfl, rfl⟩
  unfold fromL at hc
  simp only [List.mem_append, List.mem_singleton, List.mem_cons, List.not_mem_nil, or_false, List.mem_map, qsCh, List.mem_range] at hc
  rcases hc with ((rfl | ⟨i, hi, rfl⟩) | ⟨k, hk', rfl⟩) | rfl | rfl
  · exact ⟨⟨Int.le_refl 0, (by decide : (0 : Int) < 4)⟩, .inr (.inr (.inr (.inl ⟨rfl, ⟨t1, t2⟩, rfl, z0, rfl, rfl, rfl⟩)))⟩
  · exact ⟨⟨by unfold qCh; dsimp only; omega, by unfold qCh; dsimp only; omega⟩, .inr (.inr (.inr (.inr (.inl ⟨rfl, q3 _ (getD_lt hi), z0, rfl, rfl, rfl⟩))))⟩
  · obtain ⟨a1, a2, ⟨a3, a4, a5, a6, a7⟩, a8⟩ := hk k hk'
    exact ⟨⟨a1, by unfold iCh; dsimp only; omega⟩, .inl ⟨rfl, ⟨⟨a3, a4⟩, by unfold iCh; dsimp only; omega, a6, a7⟩, rfl, rfl, rfl, rfl⟩⟩
  · exact ⟨⟨Int.le_refl 0, (by decide : (0 : Int) < 4)⟩, .inr (.inr (.inr (.inr (.inr (.inr ⟨rfl, ⟨n1, n2⟩, rfl, z0, rfl, rfl, rfl⟩)))))⟩
  · exact ⟨⟨Int.le_refl 0, (by decide : (0 : Int) < 4)⟩, .inr (.inr (.inr (.inr (.inr (.inl ⟨rfl, ⟨e1, e2⟩, rfl, z0, rfl, rfl⟩)))))⟩
theorem set_zero {q : List Int} {i : Nat} (hi : i < q.length) : (q.take i ++ List.replicate (q.length - i) 0).set i (q.getD i 0) = q.take (i + 1) ++ List.replicate (q.length - (i + 1)) 0 := by
  have h1 : (q.take i).length = i := by rw [List.length_take]; omega
  rw [List.set_append_right _ _ (by omega), h1, Nat.sub_self, show q.length - i = (q.length - (i + 1)) + 1 by omega, List.replicate_succ, List.set_cons_zero, take_succ' hi 0, List.append_assoc]
  rfl
theorem quotas_apply (t : Int) (q : List Int) (l : List Kept) (e n : Int) (b : Bool) : ∀ i, i ≤ q.length → applyL (t, List.replicate q.length 0, l, e, n, b) (qsCh q i) = .inr (t, q.take i ++ List.replicate (q.length - i) 0, l, e, n, b)
  | 0, _ => by simp [qsCh, applyL]
  | i + 1, hi => by
    rw [qsCh_succ, applyL_app, quotas_apply t q l e n b i (by omega)]
    show applyL (t, q.take i ++ List.replicate (q.length - i) 0, l, e, n, b) [qCh q i] = _
    have hlen : (q.take i ++ List.replicate (q.length - i) (0 : Int)).length = q.length := by rw [List.length_append, List.length_take, List.length_replicate]; omega
    have ho : oneS (t, q.take i ++ List.replicate (q.length - i) 0, l, e, n, b) (qCh q i) = .inr (t, q.take (i + 1) ++ List.replicate (q.length - (i + 1)) 0, l, e, n, b) := by
      unfold oneS qCh
      dsimp only
      rw [hlen, if_neg (fun hh => by have := hh.2.2.2; omega), if_neg (by decide), if_neg (by decide), if_pos rfl, Int.toNat_natCast, set_zero (by omega)]
    rw [applyL, ho]; rfl
theorem items_apply {v : Img} (h : okI v) : ∀ i, i ≤ v.2.2.1.length → applyL (v.1, v.2.1, [], v.2.2.2) ((v.2.2.1.take i).map iCh) = .inr (v.1, v.2.1, v.2.2.1.take i, v.2.2.2)
  | 0, _ => by simp [applyL]
  | i + 1, hi => by
    rw [take_succ' (l := v.2.2.1) (k := i) (by omega) K0, List.map_append, applyL_app, items_apply h i (by omega)]
    show applyL (v.1, v.2.1, v.2.2.1.take i, v.2.2.2) [iCh (v.2.2.1.getD i K0)] = _
    obtain ⟨a1, a2, ⟨a3, a4, a5, a6, a7⟩, a8⟩ := h.2.2.2.2.2.1 _ (getD_lt (d := K0) (show i < v.2.2.1.length by omega))
    have hle := h.2.2.1
    have hlf : leftL (iCh (v.2.2.1.getD i K0)) (v.2.2.1.take i) = v.2.2.1.take i := by
      refine List.filter_eq_self.2 fun k hk => ?_
      have : touch (iCh (v.2.2.1.getD i K0)) k = false := by
        unfold touch iCh
        rw [if_pos rfl]
        refine decide_eq_false fun hn => ?_
        have hn : nm k = nm (v.2.2.1.getD i K0) := hn
        have hnd := h.2.2.2.2.2.2
        obtain ⟨j, hj, rfl⟩ := List.mem_iff_getElem.1 hk
        rw [List.length_take] at hj
        rw [List.getElem_take, getD_some (show i < v.2.2.1.length by omega)] at hn
        have : (v.2.2.1.map nm)[j]'(by rw [List.length_map]; omega) = (v.2.2.1.map nm)[i]'(by rw [List.length_map]; omega) := by rw [List.getElem_map, List.getElem_map, hn]
        have := (List.getElem_inj hnd).1 this
        omega
      rw [this]; rfl
    have ho : oneS (v.1, v.2.1, v.2.2.1.take i, v.2.2.2) (iCh (v.2.2.1.getD i K0)) = .inr (v.1, v.2.1, v.2.2.1.take i ++ [v.2.2.1.getD i K0], v.2.2.2) := by
      unfold oneS
      rw [if_neg (fun hh => by have := hh.2.2.2; unfold iCh at this; dsimp only at this; omega), if_pos (show (iCh (v.2.2.1.getD i K0)).1 = 1 from rfl), if_neg (show ¬ 256 < 8 + (iCh (v.2.2.1.getD i K0)).2.2.1.1.length + (iCh (v.2.2.1.getD i K0)).2.2.1.2.1.length by unfold iCh; dsimp only; omega),
        if_neg (show ¬ dueB (iCh (v.2.2.1.getD i K0)).2.2.1 v.1 = true by unfold iCh; dsimp only; rw [a8]; decide)]
      dsimp only
      rw [hlf, if_neg (by rw [List.length_take]; omega)]
      rfl
    rw [applyL, ho]; rfl
theorem from_apply {v : Img} (h : okI v) : applyL (0, List.replicate v.2.1.length 0, [], 0, 0, false) (fromL v) = .inr v := by
  obtain ⟨⟨t1, t2⟩, ⟨q1, q2, q3⟩, l1, ⟨e1, e2⟩, ⟨n1, n2⟩, hk, _⟩ := id h
  unfold fromL
  have s1 : applyL (0, List.replicate v.2.1.length 0, [], 0, 0, false) [(4, 0, I0, [], 0, v.1, false)] = .inr (v.1, List.replicate v.2.1.length 0, [], 0, 0, false) := by
    have ho : oneS (0, List.replicate v.2.1.length 0, [], 0, 0, false) (4, 0, I0, [], 0, v.1, false) = .inr (v.1, List.replicate v.2.1.length 0, [], 0, 0, false) := by
      unfold oneS
      dsimp only
      rw [if_neg (fun hh => hh.1 rfl), if_neg (by decide), if_pos rfl, if_neg (by omega)]; rfl
    rw [applyL, ho]; rfl
  have s2 := quotas_apply v.1 v.2.1 [] 0 0 false v.2.1.length (Nat.le_refl _)
  rw [List.take_length, Nat.sub_self, List.replicate_zero, List.append_nil] at s2
  have s3 : applyL (v.1, v.2.1, [], 0, 0, false) (v.2.2.1.map iCh) = .inr (v.1, v.2.1, v.2.2.1, 0, 0, false) := by
    have hok : okI (v.1, v.2.1, v.2.2.1, 0, 0, false) := ⟨⟨t1, t2⟩, ⟨q1, q2, q3⟩, l1, ⟨Int.le_refl 0, (by decide : (0 : Int) ≤ 2147483647)⟩, ⟨Int.le_refl 0, (by decide : (0 : Int) ≤ 2147483647)⟩, hk, h.2.2.2.2.2.2⟩
    have := items_apply hok v.2.2.1.length (Nat.le_refl _)
    dsimp only at this
    rw [List.take_length] at this
    exact this
  have s4 : applyL (v.1, v.2.1, v.2.2.1, 0, 0, false) [(7, 0, I0, [], 0, v.2.2.2.2.1, false), (6, 0, I0, [], 0, v.2.2.2.1, v.2.2.2.2.2)] = .inr v := by
    have h7 : oneS (v.1, v.2.1, v.2.2.1, 0, 0, false) (7, 0, I0, [], 0, v.2.2.2.2.1, false) = .inr (v.1, v.2.1, v.2.2.1, 0, v.2.2.2.2.1, false) := by
      unfold oneS
      dsimp only
      rw [if_neg (fun hh => hh.2.2.1 rfl), if_neg (by decide), if_neg (by decide), if_neg (by decide), if_neg (by decide), if_pos rfl]
    have h6 : oneS (v.1, v.2.1, v.2.2.1, 0, v.2.2.2.2.1, false) (6, 0, I0, [], 0, v.2.2.2.1, v.2.2.2.2.2) = .inr (v.1, v.2.1, v.2.2.1, v.2.2.2.1, v.2.2.2.2.1, v.2.2.2.2.2) := by
      unfold oneS
      dsimp only
      rw [if_neg (fun hh => hh.2.1 rfl), if_neg (by decide), if_neg (by decide), if_neg (by decide), if_pos rfl, if_neg (by omega)]
    rw [applyL, h7]
    dsimp only
    rw [applyL, h6]; rfl
  rw [applyL_app, applyL_app, applyL_app, s1]
  dsimp only
  rw [s2]
  dsimp only
  rw [s3]
  exact s4
theorem wfK_of {k : Kept} (h : Ty.wf (.pr (.int .i64) (.pr .str (.pr .str (.pr (.int .u32) (.pr (.int .i64) (.int .u64)))))) k) : wfK k := ⟨wfu32 h.2.2.2.1, wfu64 h.2.2.2.2.2⟩
theorem bytes_of {l : List Int} (h : Ty.wf .str l) : bytesI l := fun x hx => ⟨(h.1 x hx).1, by have := (h.1 x hx).2; omega⟩
theorem bytes8_of {l : List Int} (h : Ty.wf (.sl (.int .u8)) l) : bytesI l := fun x hx => wfu8 (h.1 x hx)
theorem app_bytes {a b : List Int} (ha : bytesI a) (hb : bytesI b) : bytesI (a ++ b) := fun x hx => (List.mem_append.1 hx).elim (ha x) (hb x)
theorem imgB_bytes {v : Img} (h : okI v) (hw : ∀ k ∈ v.2.2.1, wfK k) (hb : ∀ k ∈ v.2.2.1, bytesI k.2.1 ∧ bytesI k.2.2.1) : bytesI (imgB v) := by
  obtain ⟨⟨t1, t2⟩, ⟨q1, q2, q3⟩, l1, ⟨e1, e2⟩, ⟨n1, n2⟩, hk, _⟩ := id h
  have hn : ∀ {l : List Int}, (∀ x ∈ l, 0 ≤ x ∧ x ≤ 16) → bytesI (numsB l) := fun {l} => by
    induction l with
    | nil => intro _ x hx; cases hx
    | cons y l ih => intro hl; exact app_bytes (sm_bytes (by have := (hl y (by simp)).2; omega)) (ih fun x hx => hl x (by simp [hx]))
  have htx : ∀ {s : List Int}, bytesI s → s.length ≤ 1000000 → bytesI (txt s) := fun hs hl => app_bytes (sm_bytes (by omega)) hs
  have hks : ∀ {l : List Kept}, (∀ k ∈ l, keptOk v.1 v.2.1.length k ∧ wfK k ∧ bytesI k.2.1 ∧ bytesI k.2.2.1) → bytesI (keptsB l) := fun {l} => by
    induction l with
    | nil => intro _ x hx; cases hx
    | cons y l ih =>
      intro hl
      obtain ⟨⟨a1, a2, ⟨a3, a4, a5, a6, a7⟩, a8⟩, ⟨b1, b2⟩, b3, b4⟩ := hl y (by simp)
      exact app_bytes (app_bytes (app_bytes (app_bytes (app_bytes (sm_bytes (by omega)) (htx b3 (by omega))) (htx b4 (by omega))) (app_bytes (sm_bytes (by have := b1.2; omega)) (sm_bytes (by omega)))) (sm_bytes (by have := b2.2; omega))) (ih fun x hx => hl x (by simp [hx]))
  refine app_bytes (app_bytes (app_bytes (app_bytes (app_bytes (app_bytes (sm_bytes (by omega)) (sm_bytes (by omega))) (hn q3)) (app_bytes (sm_bytes (by omega)) (sm_bytes (by omega)))) ?_) (sm_bytes (by omega))) (hks fun k hk' => ⟨hk k hk', hw k hk', hb k hk'⟩)
  intro x hx
  rw [List.mem_singleton] at hx
  subst hx
  cases v.2.2.2.2.2 <;> exact ⟨by decide, by decide⟩
end Go.Proofs.Ytkggcbfkhkgeaaa
