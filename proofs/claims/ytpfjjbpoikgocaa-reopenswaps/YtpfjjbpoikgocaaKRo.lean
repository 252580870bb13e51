/- A disk that is opened again: what stands on it. -/
import Derived.Test.YtpfjjbpoikgocaaKJe
import Derived.Test.YtpfjjbpoikgocaaKNa
namespace Go.Proofs.Ytpfjjbpoikgocaa
open Go.Abs
set_option maxRecDepth 100000
theorem half_ok {n : Nat} (h : 1 ≤ n) (h2 : n ≤ 1000000) : F_reopen_half mx (n : Int) = some (((n - 1) / 2 : Nat) : Int) := by
  simp only [F_reopen_half]
  rw [w64 (n := (n : Int) - 1) (by omega) (by omega), show (n : Int) - 1 = ((n - 1 : Nat) : Int) by omega, show (2 : Int) = ((2 : Nat) : Int) from rfl, cast_tdiv, w64 (by omega) (by omega)]
def firstB (g a : Int) : List Int := le4 g ++ (a :: List.replicate 59 0)
theorem firstB_len (g a : Int) : (firstB g a).length = 64 := by simp [firstB, le4]
theorem firstB_bytes {g a : Int} (ha : isByte a) : bytesL (firstB g a) := by
  refine bytes_app (le4_bytes g) fun x hx => ?_
  rcases List.mem_cons.1 hx with rfl | hx
  · exact ha
  · rw [(List.mem_replicate.1 hx).2]; exact ⟨by decide, by decide⟩
theorem first_ok {g a : Int} (hg : isU32 g) (ha : isByte a) : F_reopen_first mx (g, a) = some (0, firstB g a) := by
  have st : ∀ (i : Nat) (l : List Int), i ≤ 3 → i < l.length → F_reopen_first.l58 mx g ((i : Int), l) = some (.next (((i + 1 : Nat) : Int), l.set i (bAt g i))) := fun i l hi hl => by
    have h1 : decide ((i : Int) < 4) = true := decide_eq_true (by omega)
    have h2 : IntKind.i64.wrap ((8 : Int) * (i : Int)) = ((8 * i : Nat) : Int) := by rw [w64 (by omega) (by omega)]; omega
    have h3 := put_byte hg.1 hi
    rw [h2] at h3
    simp only [F_reopen_first.l58, h1, cond_true, h2, decide_eq_false (show ¬ ((8 * i : Nat) : Int) < 0 by omega), cond_false, lez, ltd hl, Bool.and_self, Int.toNat_natCast, blt_t hl, h3]
    rw [inc64 (by omega)]
  obtain ⟨N, hN⟩ : ∃ N, N0 = N + 5 := ⟨N0 - 5, by unfold N0; omega⟩
  have key : iter mx (F_reopen_first.l58 mx g) ((0 : Int), (List.replicate 64 0)) = some (bAt g 0 :: bAt g 1 :: bAt g 2 :: bAt g 3 :: List.replicate 60 0) := by
    rw [show iter mx (F_reopen_first.l58 mx g) ((0 : Int), (List.replicate 64 0)) = iterN (F_reopen_first.l58 mx g) N0 ((0 : Int), (List.replicate 64 0)) from rfl, hN]
    have h0 := st 0 (List.replicate 64 0) (by decide) (by simp)
    have h1 := st 1 ((List.replicate 64 0).set 0 (bAt g 0)) (by decide) (by simp)
    have h2 := st 2 (((List.replicate 64 0).set 0 (bAt g 0)).set 1 (bAt g 1)) (by decide) (by simp)
    have h3 := st 3 ((((List.replicate 64 0).set 0 (bAt g 0)).set 1 (bAt g 1)).set 2 (bAt g 2)) (by decide) (by simp)
    exact (iterN_next h0).trans ((iterN_next h1).trans ((iterN_next h2).trans ((iterN_next h3).trans (iterN_fin rfl))))
  simp only [F_reopen_first, key, Option.bind_some]
  have h4 : IntKind.u8.wrap a = a := wu8 ha.1 ha.2
  rw [h4]
  rfl
theorem rputs_ok {l : List Blk} {f : Nat} (more : List Put) (hl : l.length ≤ 1000000) (hm : more.length ≤ 1000000) (hf : f ≤ 1000000) : F_reopen_puts mx (l, (f : Int), more) = some (putsAt l f ++ more) := by
  have := iter_count (f := F_reopen_puts.l58 mx l (f : Int) (l.length : Int)) (fun i => ((putsAt l f).take i, (i : Int))) l.length (r := putsAt l f) (lt_N0 (by omega)) (fun i hi => by
    have e1 : IntKind.i64.wrap ((f : Int) + (i : Int)) = ((f + i : Nat) : Int) := by rw [w64 (by omega) (by omega)]; omega
    have hp := putsAt_len l f
    have c1 : Nat.ble (((putsAt l f).take i).length + 1) 4294967296 = true := ble_t (by rw [List.length_take]; omega)
    simp only [F_reopen_puts.l58, ltd hi, lez, Bool.and_self, cond_true, Int.toNat_natCast, e1, List.length_singleton, c1]
    rw [inc64 (by omega), take_succ' (l := putsAt l f) (by omega) (0, []), putsAt_get hi])
    (by
      have : (putsAt l f).take l.length = putsAt l f := by rw [← putsAt_len l f, List.take_length]
      simp only [F_reopen_puts.l58, nltd, cond_false, this])
  have this : iter mx (F_reopen_puts.l58 mx l (f : Int) (l.length : Int)) (([] : List (Int × List Int)), (0 : Int)) = _ := this
  have c1 : Nat.ble ((putsAt l f).length + more.length) 4294967296 = true := ble_t (by rw [putsAt_len]; omega)
  simp only [F_reopen_puts, this, Option.bind_some, c1, cond_true]
/-! ### What the records tell -/
theorem one_mem {v w : Img} {c : Chg} (ho : oneS v c = .inr w) : ∀ k ∈ w.2.2.1, k ∈ v.2.2.1 ∨ k = (c.2.1, c.2.2.1) := by
  unfold oneS at ho
  repeat' split at ho
  all_goals (first | (cases ho; intro k hk; exact .inl (leftL_mem.1 hk).1) | (cases ho; intro k hk; exact .inl hk) | (cases ho; intro k hk; exact (List.mem_append.1 hk).elim (fun h => .inl (leftL_mem.1 h).1) (fun h => .inr (List.mem_singleton.1 h))) | cases ho)
theorem apply_mem {P : Kept → Prop} : ∀ {cs : List Chg} {v w : Img}, (∀ k ∈ v.2.2.1, P k) → (∀ c ∈ cs, P (c.2.1, c.2.2.1)) → applyL v cs = .inr w → ∀ k ∈ w.2.2.1, P k
  | [], _, _, h, _, e => by cases e; exact h
  | c :: cs, v, w, h, hc, e => by
    rw [applyL] at e
    cases ho : oneS v c with
    | inl e2 => rw [ho] at e; cases e
    | inr u =>
      rw [ho] at e
      refine apply_mem (cs := cs) (fun k hk => ?_) (fun x hx => hc x (by simp [hx])) e
      rcases one_mem ho k hk with hk | rfl
      · exact h k hk
      · exact hc c (by simp)
theorem apply_wf {cs : List Chg} {v w : Img} (hv : okI v) (hwv : wfIm v) (h0 : chErr cs = 0) (hw : ∀ c ∈ cs, wfC c ∧ bytesC c) (ha : applyL v cs = .inr w) : okI w ∧ wfIm w := by
  have hok := apply_okI hv (chErr_zero.1 h0).2.1 ha
  refine ⟨hok, fun k hk => ⟨okI_len hok k hk, ?_⟩, fun k hk => ?_⟩
  · exact apply_mem (P := fun k => bytesI k.2.1 ∧ bytesI k.2.2.1) (fun k hk => (hwv.1 k hk).2) (fun c hc => ⟨(hw c hc).2.1, (hw c hc).2.2.1⟩) ha k hk
  · exact apply_mem (P := wfK) (fun k hk => hwv.2 k hk) (fun c hc => ⟨(hw c hc).1.1, (hw c hc).1.2⟩) ha k hk
inductive Recs : Img → List (List Int) → Img → Prop
  | nil (v : Img) : Recs v [] v
  | cons {v w u : Img} {r : List Int} {rs : List (List Int)} {cs : List Chg} (hc : IsCh r cs) (ha : applyL v cs = .inr w) (h : Recs w rs u) : Recs v (r :: rs) u
theorem Recs.uniq {v w w' : Img} {rs : List (List Int)} (hb : ∀ r ∈ rs, bytesI r) (h : Recs v rs w) (h' : Recs v rs w') : w = w' := by
  induction h with
  | nil v => cases h'; rfl
  | cons hc ha h ih =>
    cases h' with
    | cons hc' ha' h' =>
      have := isCh_inj (hb _ (by simp)) hc hc'
      subst this
      rw [ha] at ha'
      cases ha'
      exact ih (fun r hr => hb r (by simp [hr])) h'
theorem Recs.snoc {v w u : Img} {rs : List (List Int)} (h : Recs v rs w) {r : List Int} {cs : List Chg} (hc : IsCh r cs) (ha : applyL w cs = .inr u) : Recs v (rs ++ [r]) u := by
  induction h with
  | nil v => exact .cons hc ha (.nil _)
  | cons hc' ha' h ih => exact .cons hc' ha' (ih ha)
theorem Recs.ok {v w : Img} {rs : List (List Int)} (h : Recs v rs w) : okI v → wfIm v → okI w ∧ wfIm w := by
  induction h with
  | nil v => exact fun a b => ⟨a, b⟩
  | cons hc ha h ih => exact fun a b => have := apply_wf a b hc.1 hc.2.2 ha; ih this.1 this.2
def recsImg (rs : List (List Int)) (v : Img) : Prop := ∃ r0 rest v0, rs = r0 :: rest ∧ writeS v0 = (r0, 0) ∧ wfIm v0 ∧ Recs v0 rest v
theorem recsImg_uniq {rs : List (List Int)} (hb : ∀ r ∈ rs, bytesI r) {v w : Img} (h : recsImg rs v) (h' : recsImg rs w) : v = w := by
  obtain ⟨r0, rest, v0, rfl, a2, a3, a4⟩ := h
  obtain ⟨s0, rest', w0, e, b2, b3, b4⟩ := h'
  cases e
  have := write_inj a2 b2 (hb _ (by simp)) a3.2 b3.2
  subst this
  exact a4.uniq (fun r hr => hb r (by simp [hr])) b4
theorem recsImg_ok {rs : List (List Int)} {v : Img} (h : recsImg rs v) : okI v ∧ wfIm v := by
  obtain ⟨r0, rest, v0, rfl, a2, a3, a4⟩ := h
  exact a4.ok (writeS_ok a2).1 a3
theorem recsImg_snoc {rs : List (List Int)} {v w : Img} (h : recsImg rs v) {r : List Int} {cs : List Chg} (hc : IsCh r cs) (ha : applyL v cs = .inr w) : recsImg (rs ++ [r]) w := by
  obtain ⟨r0, rest, v0, rfl, a2, a3, a4⟩ := h
  exact ⟨r0, rest ++ [r], v0, rfl, a2, a3, a4.snoc hc ha⟩
theorem recs_loop {xs : List (List Int)} (hx : ∀ r ∈ xs, bytesI r) (hl : xs.length ≤ 1000000) (d : List Int) (g a h : Int) (rs : List (List Int)) (bl la gr : Int) :
    ∀ (rest : List (List Int)) (i : Nat) (v : Img) (fuel : Nat), xs.drop i = rest → i ≤ xs.length → okI v → rest.length < fuel →
    (∃ w, Recs v rest w ∧ iterN (F_reopen_store_read.l250 mx xs (xs.length : Int)) fuel ((i : Int), d, g, a, h, rs, bl, la, gr, v) = some (.inr (d, g, a, h, rs, bl, la, gr, w))) ∨
    ((¬ ∃ w, Recs v rest w) ∧ ∃ y, iterN (F_reopen_store_read.l250 mx xs (xs.length : Int)) fuel ((i : Int), d, g, a, h, rs, bl, la, gr, v) = some (.inl y) ∧ y.1 = false)
  | [], i, v, fuel, hd, hi, hv, hf => by
    obtain ⟨f, rfl⟩ : ∃ f, fuel = f + 1 := ⟨fuel - 1, by simp at hf; omega⟩
    have : i = xs.length := by
      have := congrArg List.length hd
      rw [List.length_drop] at this; simp at this; omega
    subst this
    exact .inl ⟨v, .nil v, iterN_fin (by simp only [F_reopen_store_read.l250, nltd, cond_false])⟩
  | r :: rest, i, v, fuel, hd, hi, hv, hf => by
    obtain ⟨f, rfl⟩ : ∃ f, fuel = f + 1 := ⟨fuel - 1, by simp at hf; omega⟩
    have hlt : i < xs.length := by
      have := congrArg List.length hd
      rw [List.length_drop] at this; simp at this; omega
    have hr : xs.getD i [] = r := by
      rw [getD_some hlt]
      have := List.drop_eq_getElem_cons hlt
      rw [hd] at this
      exact (List.cons.inj this).1.symm
    have hd' : xs.drop (i + 1) = rest := by
      have := List.drop_eq_getElem_cons hlt
      rw [hd] at this
      exact (List.cons.inj this).2.symm
    have hrb : bytesI r := by rw [← hr]; exact hx _ (getD_lt hlt)
    obtain ⟨y, h1, h2⟩ := of_tot hrb
    by_cases g1 : y.2 = 0
    case neg =>
      refine .inr ⟨?_, (false, d, g, a, h, rs, bl, la, gr, v), iterN_fin ?_, rfl⟩
      · rintro ⟨w, hw⟩
        cases hw with
        | cons hc ha hw =>
          rw [of_sm hc hrb] at h1
          exact g1 (by rw [← Option.some.inj h1])
      · simp only [F_reopen_store_read.l250, ltd hlt, lez, Bool.and_self, cond_true, Int.toNat_natCast, hr, h1, Option.bind_some, bne_iff_ne.2 g1]
    have hI : IsCh r y.1 := by
      rcases h2 with ⟨_, h2⟩ | ⟨_, h2⟩ | ⟨_, h2⟩
      · rw [h2] at g1; cases g1
      · rw [h2] at g1; cases g1
      · exact h2
    have hap := apply_ok (okI_len hv) (cs := y.1) (fun c hc => (hI.2.2 c hc).1)
    cases hal : applyL v y.1 with
    | inl er =>
      have hne : (applyS v y.1).2.2.2.2.2.2 ≠ 0 := fun h => by
        obtain ⟨_, _, w, hw⟩ := applyS_zero.1 h
        rw [hal] at hw; cases hw
      refine .inr ⟨?_, (false, d, g, a, h, rs, bl, la, gr, (applyS v y.1).1, (applyS v y.1).2.1, (applyS v y.1).2.2.1, (applyS v y.1).2.2.2.1, (applyS v y.1).2.2.2.2.1, (applyS v y.1).2.2.2.2.2.1), iterN_fin ?_, rfl⟩
      · rintro ⟨w, hw⟩
        cases hw with
        | cons hc ha hw =>
          have := isCh_inj hrb hc hI
          subst this
          rw [hal] at ha; cases ha
      · simp only [F_reopen_store_read.l250, ltd hlt, lez, Bool.and_self, cond_true, Int.toNat_natCast, hr, h1, Option.bind_some, g1, bne_self_eq_false, cond_false, hap, bne_iff_ne.2 hne]
    | inr w =>
      rw [applyS_val hv hI.1 hal] at hap
      have hst : F_reopen_store_read.l250 mx xs (xs.length : Int) ((i : Int), d, g, a, h, rs, bl, la, gr, v) = some (.next (((i + 1 : Nat) : Int), d, g, a, h, rs, bl, la, gr, w)) := by
        simp only [F_reopen_store_read.l250, ltd hlt, lez, Bool.and_self, cond_true, Int.toNat_natCast, hr, h1, Option.bind_some, g1, bne_self_eq_false, cond_false, hap, withE]
        rw [inc64 (by omega)]
      rw [iterN_next hst]
      have hokw := apply_okI hv (chErr_zero.1 hI.1).2.1 hal
      rcases recs_loop hx hl d g a h rs bl la gr rest (i + 1) w f hd' hlt hokw (by simp at hf; omega) with ⟨u, h3, h4⟩ | ⟨h3, y', h4, h5⟩
      · exact .inl ⟨u, .cons hI hal h3, h4⟩
      · refine .inr ⟨?_, y', h4, h5⟩
        rintro ⟨u, hu⟩
        cases hu with
        | cons hc ha hw =>
          have := isCh_inj hrb hc hI
          subst this
          rw [hal] at ha; cases ha
          exact h3 ⟨u, hw⟩
/-! ### The areas -/
def halfN (d : List Int) : Nat := (d.length / 64 - 1) / 2
def areaF (d : List Int) (a : Int) : Nat := 1 + a.toNat * halfN d
def areaB (d : List Int) (a : Int) : List Blk := blks d (areaF d a) (halfN d)
def logA (d : List Int) (g a : Int) : List (List Int) × Int × Int × Int := logOf g (areaB d a)
theorem area_in {d : List Int} {a : Int} (ha : a = 0 ∨ a = 1) (h3 : 3 ≤ d.length / 64) : areaF d a + halfN d ≤ d.length / 64 ∧ areaF d a ≤ d.length / 64 ∧ 1 ≤ areaF d a := by
  unfold areaF halfN
  rcases ha with rfl | rfl
  · simp only [show (0 : Int).toNat = 0 from rfl]; omega
  · simp only [show (1 : Int).toNat = 1 from rfl]; omega
theorem areaB_len (d : List Int) (a : Int) : (areaB d a).length = halfN d := blks_len _ _ _
theorem areaB_ok {d : List Int} (hb : bytesL d) {a : Int} (ha : a = 0 ∨ a = 1) (h3 : 3 ≤ d.length / 64) : okBlks (areaB d a) := blks_ok hb (area_in ha h3).1
theorem from_ok {d : List Int} (hd : d.length ≤ 262144) {a : Int} (ha : a = 0 ∨ a = 1) : F_reopen_store_from_r mx ((halfN d : Int), a) = some ((areaF d a : Nat) : Int) := by
  have hh : halfN d ≤ 4096 := by unfold halfN; omega
  simp only [F_reopen_store_from_r]
  unfold areaF
  rcases ha with rfl | rfl
  · simp only [show (0 : Int).toNat = 0 from rfl]
    rw [w64 (n := 0 * (halfN d : Int)) (by omega) (by omega), w64 (by omega) (by omega)]; congr 1 <;> omega
  · simp only [show (1 : Int).toNat = 1 from rfl]
    rw [w64 (n := 1 * (halfN d : Int)) (by omega) (by omega), w64 (by omega) (by omega)]; congr 1 <;> omega
theorem read_area {d : List Int} (hb : bytesL d) (hok : okD d) (h3 : 3 ≤ d.length / 64) {g a : Int} (hg : isU32 g) (hg0 : g ≠ 0) (ha : a = 0 ∨ a = 1) :
    F_journal_Read mx (d, g, ((areaF d a : Nat) : Int), ((halfN d : Nat) : Int)) = some ((logA d g a).1, (logA d g a).2.1, (logA d g a).2.2.1, (logA d g a).2.2.2, 0) := by
  rw [read_ok hb hg]
  obtain ⟨h1, h2, _⟩ := area_in ha h3
  have hA : areaOk d ((areaF d a : Nat) : Int) ((halfN d : Nat) : Int) := ⟨by omega, by omega, by omega, by omega⟩
  unfold readS
  rw [if_pos hok, if_pos hA, if_neg hg0]
  rfl
theorem great_area {d : List Int} (hb : bytesL d) (hok : okD d) (h3 : 3 ≤ d.length / 64) {a : Int} (ha : a = 0 ∨ a = 1) :
    F_journal_Greatest mx (d, ((areaF d a : Nat) : Int), ((halfN d : Nat) : Int)) = some (greatOf (areaB d a), 0) := by
  rw [great_ok hb]
  obtain ⟨h1, h2, _⟩ := area_in ha h3
  have hA : areaOk d ((areaF d a : Nat) : Int) ((halfN d : Nat) : Int) := ⟨by omega, by omega, by omega, by omega⟩
  unfold greatS
  rw [if_pos hok, if_pos hA]
  rfl
theorem sread_ok {d : List Int} (hb : bytesL d) (hok : okD d) (h3 : 3 ≤ d.length / 64) {g a : Int} (hg : isU32 g) (hg0 : g ≠ 0) (ha : a = 0 ∨ a = 1) (rs : List (List Int)) (bl la gr : Int) (v : Img) :
    (∃ w, recsImg (logA d g a).1 w ∧ F_reopen_store_read mx (d, g, a, ((halfN d : Nat) : Int), rs, bl, la, gr, v) = some (true, d, g, a, ((halfN d : Nat) : Int), (logA d g a).1, (logA d g a).2.1, (logA d g a).2.2.1, (logA d g a).2.2.2, w)) ∨
    ((¬ ∃ w, recsImg (logA d g a).1 w) ∧ ∃ y, F_reopen_store_read mx (d, g, a, ((halfN d : Nat) : Int), rs, bl, la, gr, v) = some y ∧ y.1 = false) := by
  have hfr := from_ok (d := d) hok.2.1 ha
  have hrd := read_area hb hok h3 hg hg0 ha
  have hbt := log_bytes (g := g) (areaB_ok hb ha h3)
  have hbt : ∀ r ∈ (logA d g a).1, bytesI r ∧ r.length ≤ 65536 := hbt
  obtain ⟨_, _, _, hL, _⟩ := log_bd (g := g) (areaB_ok hb ha h3) (by rw [areaB_len]; unfold halfN; have := hok.2.1; omega)
  have hL : (logA d g a).1.length ≤ 4096 := hL
  obtain ⟨t, q, l, ie, inn, ib⟩ := v
  simp only [F_reopen_store_read, hfr, Option.bind_some, hrd, bne_self_eq_false, cond_false]
  generalize logA d g a = L at hbt hL ⊢
  obtain ⟨Lr, Lb, Ll, Lg⟩ := L
  dsimp only at hbt hL ⊢
  cases Lr with
  | nil =>
    refine .inr ⟨fun ⟨w, r0, rest, v0, e, _⟩ => (by cases e), _, rfl, rfl⟩
  | cons r0 rest =>
    have hz : (((r0 :: rest).length : Int) == 0) = false := by simp; omega
    have hlt : decide ((0 : Int) < ((r0 :: rest).length : Int)) = true := by simp
    have hbl : Nat.blt 0 (r0 :: rest).length = true := blt_t (by simp)
    have hrb := hbt r0 (by simp)
    simp only [hz, cond_false, hlt, hbl, cond_true, List.getD_cons_zero]
    obtain ⟨y, hy, hyt⟩ := read_tot hrb.1 hrb.2
    rw [hy]
    rcases hyt with rfl | ⟨v0, rfl, hw0, hwr⟩
    · refine .inr ⟨?_, _, rfl, rfl⟩
      rintro ⟨w, s0, rest', v0, e, h1, h2, h3⟩
      cases e
      have h := read_sm h1 hrb.1 h2.2
      rw [hy] at h
      have := congrArg (fun z : Option (Int × List Int × List Kept × Int × Int × Bool × Int) => z.map (·.2.2.2.2.2.2)) h
      cases this
    · have h1 : decide ((1 : Int) ≤ ((r0 :: rest).length : Int)) = true := decide_eq_true (by rw [List.length_cons]; omega)
      have hle : decide (((r0 :: rest).length : Int) ≤ ((r0 :: rest).length : Int)) = true := by simp
      have hdr : ((r0 :: rest).take (((r0 :: rest).length : Int)).toNat).drop 1 = rest := by
        rw [Int.toNat_natCast, List.take_length]; rfl
      simp only [Option.bind_some, withE, bne_self_eq_false, cond_false, h1, hle, Bool.and_self, cond_true, hdr]
      have hrl : rest.length ≤ 4096 := by simp at hL; omega
      rcases recs_loop (xs := rest) (fun r hr => (hbt r (by simp [hr])).1) (by omega) d g a ((halfN d : Nat) : Int) (r0 :: rest) Lb Ll Lg rest 0 v0 N0 rfl (Nat.zero_le _) (writeS_ok hwr).1 (lt_N0 (by omega)) with ⟨w, h3, h4⟩ | ⟨h3, y', h4, h5⟩
      · have h4 : iter mx (F_reopen_store_read.l250 mx rest (rest.length : Int)) ((0 : Int), d, g, a, ((halfN d : Nat) : Int), (r0 :: rest), Lb, Ll, Lg, v0.1, v0.2.1, v0.2.2.1, v0.2.2.2.1, v0.2.2.2.2.1, v0.2.2.2.2.2) = _ := h4
        refine .inl ⟨w, ⟨r0, rest, v0, rfl, hwr, hw0, h3⟩, ?_⟩
        rw [h4]; rfl
      · have h4 : iter mx (F_reopen_store_read.l250 mx rest (rest.length : Int)) ((0 : Int), d, g, a, ((halfN d : Nat) : Int), (r0 :: rest), Lb, Ll, Lg, v0.1, v0.2.1, v0.2.2.1, v0.2.2.2.1, v0.2.2.2.2.1, v0.2.2.2.2.2) = _ := h4
        refine .inr ⟨?_, y', ?_, h5⟩
        · rintro ⟨w, s0, rest', v0', e, k1, k2, k3⟩
          cases e
          have := write_inj hwr k1 hrb.1 hw0.2 k2.2
          subst this
          exact h3 ⟨w, k3⟩
        · rw [h4]; rfl
/-! ### Opening -/
structure St (d : List Int) (g a : Int) (v : Img) : Prop where
  ok : okD d
  n3 : 3 ≤ d.length / 64
  gu : isU32 g
  g0 : g ≠ 0
  ar : a = 0 ∨ a = 1
  b0 : blockOf d 0 = firstB g a
  rc : recsImg (logA d g a).1 v
end Go.Proofs.Ytpfjjbpoikgocaa
