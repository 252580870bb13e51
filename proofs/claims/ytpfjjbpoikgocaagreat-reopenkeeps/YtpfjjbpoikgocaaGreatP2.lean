/- Part 2 of the proof. -/
import Derived.Test.YtpfjjbpoikgocaaGreatP1
import Derived.MapKept
import Derived.Carry
import Derived.WalkSpells
import Derived.Lib.LazyBuf
noncomputable section
namespace Go.Abs
section
variable {P : Program} {R : Type} {F : Fr} {ι : Nat → Value} {ok : Ok} {N : Nat → Prop} {σ : St} {a : Act} {w : World} {o : Oper} {r : R}
theorem Qig (h : Sim F ι ok N σ a w) {nb : Nat} (hN : Qba N nb) {t : TypeId} {l c : Operand} (ho : o.op = .makeSlice t l c) {n : Nat} (hc : QkG l c = some n) {K : AV → St → Option R}
  (hr : Qdo P nb t n σ K = some r) : Jo P o F (span N nb) a w σ K r := by
 obtain ⟨rfl, m, rfl, m1, m2, rfl⟩ := Qml hc
 unfold Qdo at hr
 split at hr
 ·rename_i e u he
  obtain ⟨hu, i, hi, hsz, hpos, hby⟩ := Jz he
  cases hb : VD P e u && Nat.blt 0 m.toNat && Nat.ble m.toNat 65536 with
  | false => rw [hb] at hr; cases hr
  | true =>
   rw [hb] at hr
   simp only [cond_true] at hr
   simp only [Bool.and_eq_true] at hb
   obtain ⟨i', z, hi', hz, hzr⟩ := VV hb.1.1 w ok
   rw [hi] at hi'; cases hi'
   have hzl : z.cells.size = u.sz := by have := RepD.len hzr; simpa using this
   have hbm : (i.bytes : Int) * m ≤ 281474976710656 := by
    have : (i.bytes : Int) * m ≤ 4096 * 65536 := Int.mul_le_mul (by omega) m2 (by omega) (by omega)
    omega
   have hrun := run_make (P := P) w t e i z hu hi hz .i64 .i64 0 m (by omega) (by omega) hbm (by omega)
   have hm : (List.replicate m.toNat z.cells.toList).flatten = (madeCells z.cells (m.toNat * i.size)).toList := by
    rw [hsz, ← hzl, QcJ _ (by omega)]
   have hcells : (madeCells z.cells (m.toNat * i.size)) = ((List.replicate m.toNat z.cells.toList).flatten).toArray := by
    rw [hm]
   have hext : Ext w ok (w.alloc (.cells (madeCells z.cells (m.toNat * i.size)) e)) ok := QcT h.oks _
   have hrep : Reps (RepD (w.alloc (.cells (madeCells z.cells (m.toNat * i.size)) e)) ok u) (List.replicate m.toNat u.zero) ((List.replicate m.toNat z.cells.toList).flatten) :=
    Reps.replicate (RepD.ext hext hzr) m.toNat
   have q1 := h.alloc (id := nb) hN.nb (.cells (madeCells z.cells (m.toNat * i.size)) e) (o := .arr u [] (.cp m.toNat)) (V := .slice (some ⟨w.heap.size, 0, none⟩) 0 m.toNat) rfl
    ⟨w.heap.size, 0, by simp, Nat.zero_le _, by simp [big]; omega, _, e, (0, 0), QaB _ _, .inr rfl, by rw [size_madeCells, hsz]; omega,
     ⟨_, by simpa using hrep, fun j v hj => by rw [Nat.zero_add, hcells]; simpa using hj⟩, fun _ j hj => by have := h.oks _ _ hj; omega, fun hm => by cases hm⟩
   refine Jo.value (av := .val (.one (.own u nb))) (v := .slice (some ⟨w.heap.size, 0, none⟩) 0 m.toNat) ?_ q1 ⟨JE, (JA _ _ _).symm, .inl ⟨_, _, _, rfl⟩⟩ (Zp.set _ _ _) hr Jd
   have e1 : a.eval (.const (.int .i64 0)) = .int .i64 0 := rfl
   have e2 : a.eval (.const (.int .i64 m)) = .int .i64 m := rfl
   simp [execOp, ho, e1, e2, hrun]
 ·cases hr
theorem QeW {x : AV} {q : Nat × Nat × (t : Ty) × List t.den} (h : Qeq σ x = some q) : ∃ e, x = .val (.one (.own e q.1)) ∧ σ.ob q.1 = some (.arr q.2.2.1 q.2.2.2 (.cp q.2.1)) := by
 unfold Qeq at h
 split at h
 ·rename_i e id
  split at h
  ·rename_i t xs c ho
   cases h
   exact ⟨e, rfl, ho⟩
  ·cases h
 ·cases h
theorem Qnx (h : Sim F ι ok N σ a w) {nb : Nat} (hN : Qba N nb) {t : TypeId} {x : Operand} {lo hi mx : Option Operand} (ho : o.op = .slice t x lo hi mx) {q : Nat × Nat × (t : Ty) × List t.den} (hq : Qeq σ (σ.ev x) = some q) {K : AV → St → Option R}
  (hr : aCut P nb t q (bnd σ lo) (bnd σ hi) (bnd σ mx) σ K = some r) : Jo P o F (span N nb) a w σ K r := by
 have hx := h.ev x
 obtain ⟨e0, hxe, hob⟩ := QeW hq
 obtain ⟨id, c, u, xs⟩ := q
 dsimp only at hxe hob
 rw [hxe] at hx
 unfold aCut at hr
 split at hr
 ·rename_i hv hbl hbh hbm
  have Bl := QhG h hbl
  have Bh := QhG h hbh
  have Bm := QhG h hbm
  split at hr
  ·rename_i e' u' he
   obtain ⟨hu, i, hi', hsz, hpos, hby⟩ := Jz he
   dsimp only at hr
   cases hb : u.beq u' && (decide (0 ≤ hv) && decide (hv ≤ (c : Int))) with
   | false => rw [hb] at hr; cases hr
   | true =>
    rw [hb] at hr
    simp only [cond_true] at hr
    simp only [Bool.and_eq_true, decide_eq_true_eq] at hb
    obtain ⟨b0, b1, b2⟩ := hb
    have e1 := Ty.eq_of_beq b0
    subst e1
    obtain ⟨g1, ⟨b, oo, hV, l1, l2, C, T, fz, m1, m2, m3, ⟨us, m4, m5⟩, m6, m7⟩, g3⟩ := h.objs id _ hob
    have hxv : a.eval x = .slice (some ⟨b, oo, none⟩) xs.length c := hx.2.1.trans hV
    have hrun := Qbo (P := P) (w := w) (len := xs.length) (cap := c) true Bl Bh Bm (by simp) l1 (by simp) (by simpa using b1) (by simpa using b2) (by simp)
    have hlen : ((xs ++ List.replicate (c - xs.length) u.zero).take hv.toNat).length = hv.toNat := by simp; omega
    have hk := h.kill id
    have hcap : hv.toNat * u.sz ≤ c * u.sz := Nat.mul_le_mul_right _ (by omega)
    have q1 := hk.newOb (id := nb) hN.nb (o := .arr u ((xs ++ List.replicate (c - xs.length) u.zero).take hv.toNat) .wr) (V := .slice (some ⟨b, oo, none⟩) hv.toNat c)
     (show Qe4 _ _ _ _ _ _ from ⟨some ⟨b, oo, none⟩, c, by rw [hlen], by rw [hlen]; omega, by rw [hlen]; omega, .inr ⟨b, oo, rfl, C, T, fz, m1, m2, m3,
      ⟨us.take (hv.toNat * u.sz), Reps.take (fun x us hr => RepD.len hr) hv.toNat m4, fun j v hj => by
       rw [List.getElem?_take] at hj
       split at hj
       ·exact m5 j v hj
       ·cases hj⟩, m6, fun hm => by cases hm⟩⟩)
     (fun b' hb' => by
      cases hb'
      refine ⟨g3 b (by rw [hV]; rfl), fun i p hp hbi => ?_⟩
      rw [St.ob_kill] at hp
      split at hp
      ·cases hp
      ·rename_i hne
       exact h.apart id i _ p b hob hp hne (by rw [hV]; rfl) hbi)
    refine Jo.value (av := .val (.one (.own u nb))) (v := .slice (some ⟨b, oo, none⟩) hv.toNat c) ?_ q1 ⟨JE, (JA _ _ _).symm, .inl ⟨_, _, _, rfl⟩⟩ ((Zp.kill _ _).trans (Zp.set _ _ _)) hr Jd
    simp only [execOp, ho, Sem.run_bind, QeB hu (by simp), Instr.slice, run_underlying hu, Result.andThen_ok, hxv]
    simp [hrun, ZE hi', VB]
  ·cases hr
 ·cases hr
theorem Qij (h : Sim F ι ok N σ a w) {nb : Nat} (hN : Qba N nb) {c : Call} (ho : o.op = .call c) (hc : c.callee = .builtin .append) {s x : AV} (hargs : evs σ c.args.toList = [s, x]) {q : Nat × Nat × (t : Ty) × List t.den} (hq : Qeq σ s = some q) {K : AV → St → Option R}
  (hr : Qdq P nb c.argTypes.toList q x σ K = some r) : Jo P o F (span N nb) a w σ K r := by
 obtain ⟨ys, yx, hl, e1, e2⟩ := QeT hargs
 have hs := h.ev ys
 have hx := h.ev yx
 rw [e1] at hs
 rw [e2] at hx
 obtain ⟨e0, hse, hob⟩ := QeW hq
 obtain ⟨id, cap, u, xs⟩ := q
 dsimp only at hse hob
 rw [hse] at hs
 have hexec : ∀ w, (execOp a.eval o).run P w = (do let v ← Builtin.append_ c.argTypes o.type #[a.eval ys, a.eval yx]; pure (Next.value v)).run P w := fun w => by
  simp [execOp, ho, resolve, hc, invoke, builtin, hl]
 unfold Qdq at hr
 split at hr
 ·rename_i st xt hat
  split at hr
  ·rename_i e u' he hint
   obtain ⟨hu, i, hi, hsz, hpos, hby⟩ := Jz he
   obtain ⟨dx, hdx, hd⟩ : ∃ dx, P.underlying xt = some dx ∧ ∀ k, dx ≠ .int k := by
    split at hint
    ·cases hint
    ·cases hint
    ·rename_i h1 h2
     cases hu : P.underlying xt with
     | none => exact absurd hu h2
     | some dx => exact ⟨dx, rfl, fun k e => h1 k (by rw [hu, e])⟩
   split at hr
   ·rename_i zs hys
    dsimp only at hr hys
    cases hb : u.beq u' && Nat.ble (List.length xs + List.length zs) cap with
    | false => rw [hb] at hr; cases hr
    | true =>
     rw [hb] at hr
     simp only [cond_true] at hr
     simp only [Bool.and_eq_true] at hb
     have e3 := Ty.eq_of_beq hb.1
     subst e3
     have hroom := Nat.le_of_ble_eq_true hb.2
     obtain ⟨news, n1, n2, n3⟩ := QgF (P := P) h hx hys
     have hnl : news.length = zs.length * u.sz := Reps.len (fun x us hr => RepD.len hr) n1
     obtain ⟨g1, ⟨B, oo, hV, l1, l2, C, T, fz, m1, m2, m3, ⟨us, m4, m5⟩, m6, m7⟩, g3⟩ := h.objs id _ hob
     have hv : a.eval ys = .slice (some ⟨B, oo, none⟩) xs.length cap := hs.2.1.trans hV
     have hul : us.length = cap * u.sz := by
      have := Reps.len (fun x us hr => RepD.len hr) m4
      rw [this]; congr 1; simp; omega
     have hk1 : (xs.length + zs.length) * u.sz ≤ cap * u.sz := Nat.mul_le_mul_right _ hroom
     rw [Nat.add_mul] at hk1
     have hF := g3 B (by rw [hV]; rfl)
     have hno : ∀ i p, (σ.kill id).ob i = some p → blk (ι i) ≠ some B := fun i p hp hbi => by
      rw [St.ob_kill] at hp
      split at hp
      ·cases hp
      ·rename_i hne
       exact h.apart id i _ p B hob hp hne (by rw [hV]; rfl) hbi
     have hst : (storeCells (⟨B, oo + xs.length * u.sz, none⟩ : Addr) news).run P w = .ok () (w.setCells B (oo + xs.length * u.sz) news) :=
      Qe7 (Reps.ones n1) m1 (by omega) (fun j h1 h2 => m2.free j (by omega))
     obtain ⟨c', k1, k2, k3⟩ := Vr B news (oo + xs.length * u.sz) w C T fz m1 (by omega)
     obtain ⟨s1, s2, s3⟩ := Vq B news (oo + xs.length * u.sz) w
     have hget : ∀ j, c'[j]? = if oo + xs.length * u.sz ≤ j ∧ j < oo + xs.length * u.sz + news.length then news[j - (oo + xs.length * u.sz)]? else C[j]? := fun j => by
      rw [← Array.getElem?_toList, k3, Qbj _ _ _ (by simp; omega)]
      simp
     have hlt : B < w.heap.size := by
      rcases Nat.lt_or_ge B w.heap.size with h | h
      ·exact h
      ·rw [Array.getElem?_eq_none h] at m1; cases m1
     have hokc : ∀ j, ok B j → (w.setCells B (oo + xs.length * u.sz) news).cell? ⟨B, j, none⟩ = w.cell? ⟨B, j, none⟩ := fun j hj => absurd hj (m6 rfl j)
     have hext : Ext w ok (w.setCells B (oo + xs.length * u.sz) news) ok := Ext.same fun b j hk => by
      by_cases e : b = B
      ·subst e; exact hokc j hk
      ·exact Zx (QM B _ _ w b e) j
     have h' := (h.kill id).free (w' := w.setCells B (oo + xs.length * u.sz) news) (ok' := ok) hF hno (by rw [JN]; exact hlt) (JN B _ _ w) (fun b hb => QM B _ _ w b hb) s1 s2 s3 hokc (Ok.Le.refl ok) (fun _ _ => Ok.At.refl _ _) (h.pls.heap fun b j hk => QM B _ _ w b fun e => by subst e; exact m6 rfl j (.inr hk))
     have hrun := Qcc (P := P) (w := w) (w' := w.setCells B (oo + xs.length * u.sz) news) (ty := o.type) (base := some ⟨B, oo, none⟩) (sLen := xs.length) (sCap := cap) hat hu hdx hd hi (n3 w rfl).1 (by rw [hsz]; exact (n3 w rfl).2) hroom
      (fun A hA => by cases hA; rw [VB, hsz]; exact hst) (fun hb => by cases hb)
     have t1 : Reps (RepD w ok u) xs (us.take (xs.length * u.sz)) := by
      have := Reps.take (fun x us hr => RepD.len hr) xs.length m4
      simpa using this
     have t2 : Reps (RepD w ok u) (List.replicate (cap - (xs ++ zs).length) u.zero) (us.drop ((xs.length + zs.length) * u.sz)) := by
      have := Reps.drop (fun x us hr => RepD.len hr) (xs.length + zs.length) m4
      rw [List.drop_append, List.drop_eq_nil_of_le (by omega), List.nil_append, show xs.length + zs.length - xs.length = zs.length by omega, List.drop_replicate] at this
      rw [List.length_append, show cap - (xs.length + zs.length) = cap - xs.length - zs.length by omega]
      exact this
     have t3 := Reps.append (Reps.append t1 n1) t2
     have q1 := h'.newOb (id := nb) hN.nb (o := .arr u (xs ++ zs) (.cp cap)) (V := .slice (some ⟨B, oo, none⟩) (xs.length + zs.length) cap)
      ⟨B, oo, by rw [List.length_append], by rw [List.length_append]; exact hroom, l2, c', T, fz, k1, m2, by omega,
       ⟨_, Reps.mono (fun _ _ hr => RepD.ext hext hr) t3, fun j v hj => by
        have hlt1 : (us.take (xs.length * u.sz)).length = xs.length * u.sz := by simp; omega
        rw [hget]
        rw [List.append_assoc, List.getElem?_append, hlt1] at hj
        split at hj
        ·rename_i hj1
         rw [if_neg (by omega)]
         rw [List.getElem?_take, if_pos hj1] at hj
         exact m5 j v hj
        ·rename_i hj1
         rw [List.getElem?_append] at hj
         split at hj
         ·rename_i hj2
          rw [if_pos (by omega), show oo + j - (oo + xs.length * u.sz) = j - xs.length * u.sz by omega]
          exact hj
         ·rename_i hj2
          rw [if_neg (by omega)]
          rw [List.getElem?_drop] at hj
          refine m5 j v ?_
          rw [← hj, Nat.add_mul]
          congr 1; omega⟩, m6, fun hm => by cases hm⟩
      (fun b hb => by cases hb; exact ⟨hF, hno⟩)
     refine Jo.value (av := .val (.one (.own u nb))) (v := .slice (some ⟨B, oo, none⟩) (xs.length + zs.length) cap) ?_ q1 ⟨JE, (JA _ _ _).symm, .inl ⟨_, _, _, rfl⟩⟩ ((Zp.kill _ _).trans (Zp.set _ _ _)) hr Jd
     rw [hexec, hv]
     simp [hrun]
   ·cases hr
  ·cases hr
 ·cases hr
theorem Ql6 (h : Sim F ι ok N σ a w) {nb : Nat} {c : Call} (ho : o.op = .call c) (hc : c.callee = .builtin .copy) {d x : AV} (hargs : evs σ c.args.toList = [d, x]) {K : AV → St → Option R}
  (hr : Qmr P c.argTypes.toList d x σ K = some r) : Jo P o F (span N nb) a w σ K r := by
 obtain ⟨yd, yx, hl, e1, e2⟩ := QeT hargs
 have hd := h.ev yd
 have hx := h.ev yx
 rw [e1] at hd
 rw [e2] at hx
 unfold Qmr at hr
 split at hr
 ·rename_i dt xt t id lo n t' ys0 hat
  split at hr
  ·rename_i e u t0 xs ys he hob hys
   obtain ⟨hu, i, hi, hsz, hpos, hby⟩ := Jz he
   obtain ⟨f1, f2⟩ := Ty.to_some hys
   cases f1
   simp only [cast_eq] at f2
   subst f2
   cases hb : (t.beq u && t0.beq t && Nat.beq u.sz 1) && (Nat.ble (lo + n) (List.length xs) && (Nat.beq (List.length ys0) n && Nat.ble n 4294967296)) with
   | false => rw [hb] at hr; cases hr
   | true =>
    rw [hb] at hr
    simp only [cond_true] at hr
    simp only [Bool.and_eq_true] at hb
    obtain ⟨⟨⟨b1, b2⟩, b3⟩, b4, b5, b6⟩ := hb
    have b1 := Ty.eq_of_beq b1
    have b2 := Ty.eq_of_beq b2
    subst b1; subst b2
    have b3 := Nat.eq_of_beq_eq_true b3
    have b4 := Nat.le_of_ble_eq_true b4
    have b5 := Nat.eq_of_beq_eq_true b5
    have b6 := Nat.le_of_ble_eq_true b6
    split at hr
    case h_2 => cases hr
    rename_i ys hys2
    obtain ⟨f1, f2⟩ := Ty.to_some hys2
    simp only [cast_eq] at f2
    subst f2
    obtain ⟨_, b, oo, len, cap, c', hV, hdv⟩ := hd
    obtain ⟨g1, hO, g3⟩ := h.objs id _ hob
    obtain ⟨A, cap', hV', l1, l2, h3⟩ := hO
    rw [hV] at hV'; cases hV'
    obtain ⟨A2, cap2, hxv, x1, x2, hx3⟩ := hx
    have hxv : a.eval yx = .slice A2 (List.length ys0) cap2 := by simpa using hxv
    have hexec : ∀ w, (execOp a.eval o).run P w = (do let v ← Builtin.copy_ #[dt, xt] o.type #[a.eval yd, a.eval yx]; pure (Next.value v)).run P w := fun w => by
     have : c.argTypes = #[dt, xt] := by apply Array.ext'; simpa using hat
     simp [execOp, ho, resolve, hc, invoke, builtin, hl, this]
    have hsz1 : (P.info? e).map (·.size) = some 1 := by rw [hi]; simp [hsz, b3]
    by_cases hn : n = 0
    ·subst hn
     have hy0 : ys0 = [] := List.eq_nil_of_length_eq_zero b5
     subst hy0
     have hrun := run_copy_none (P := P) w dt xt o.type e (some ⟨b, oo + lo * t0.sz, none⟩) A2 0 c' 0 cap2 hu hsz1 (by simp)
     have hset : List.take lo xs ++ [] ++ List.drop (lo + 0) xs = xs := by simp
     rw [hset] at hr
     have hs : Sim F ι ok N (σ.set id (.arr t0 xs .wr)) a w := h.write (o' := .arr t0 xs .wr) hob (B := b) (by rw [hV]; rfl) rfl (fun _ _ => rfl) rfl rfl rfl (fun _ _ => rfl) (h.objs id _ hob).2.1
     refine Jo.value (av := one (.int .i64) ((0 : Nat) : Int)) (v := .int .i64 0) ?_ hs ⟨rfl, rfl⟩ (Zp.set _ _ _) hr Jh
     rw [hexec, hdv, hxv]
     have hrun' : (Builtin.copy_ #[dt, xt] o.type #[.slice (some ⟨b, oo + lo * t0.sz, none⟩) 0 c', .slice A2 ([] : List t0.den).length cap2]).run P w = .ok (goInt 0) w := hrun
     simp only [Sem.run_bind, hrun', Result.andThen_ok]
     rfl
    ·rcases h3 with ⟨hA, _⟩ | ⟨b', o', hA, C, T, fz, m1, m2, m3, ⟨us, m4, m5⟩, m6, m7⟩
     ·cases hA
     ·cases hA
      rcases hx3 with hx3 | ⟨b2, o2, rfl, vs, v1, v2, v3⟩
      ·subst hx3; exact absurd b5.symm hn
      ·have hul : us.length = List.length xs := by have := Reps.len (fun x us hr => RepD.len hr) m4; rw [b3] at this; omega
       have hvl : vs.length = List.length ys0 := by have := Reps.len (fun x us hr => RepD.len hr) v1; rw [b3] at this; omega
       have hcapm : cap * t0.sz = cap := by rw [b3]; omega
       have hlo : lo * t0.sz = lo := by rw [b3]; omega
       rw [hlo] at hdv
       rw [hcapm] at m2 m3
       have hrun := run_copy_cells (P := P) w dt xt o.type e b (oo + lo) n c' ⟨b2, o2, none⟩ (List.length ys0) cap2 vs hu hsz1 (by rw [hvl, b5]; exact (Nat.min_self n).symm)
        (fun j v hj => by rw [VB]; exact v2 j v hj)
        (fun j hj => by
         have : oo + lo + j < C.size := by omega
         rw [VY m1]; simp [this])
        (fun j hj => by
         have hn := m2.free (oo + lo + j) (by omega)
         simp only [World.frozen?, m1]
         exact Bool.eq_false_iff.2 (fun hh => hn (by simpa using hh)))
        (Reps.ones v1)
       obtain ⟨c2, k1, k2, k3⟩ := Vr b vs (oo + lo) w C T fz m1 (by omega)
       obtain ⟨s1, s2, s3⟩ := Vq b vs (oo + lo) w
       have hext : Ext w ok (w.setCells b (oo + lo) vs) ok := Ext.same fun b' j hk => Zx (QM b _ _ w b' (fun e => by subst e; exact m6 rfl j hk)) j
       have hget : ∀ j, c2[j]? = if oo + lo ≤ j ∧ j < oo + lo + vs.length then vs[j - (oo + lo)]? else C[j]? := fun j => by
        rw [← Array.getElem?_toList, k3, Qbj _ _ _ (by simp; omega)]
        simp
       have t1 := Reps.take (R := fun x us => RepD w ok t0 x us) (fun x us hr => RepD.len hr) lo m4
       have t2 := Reps.drop (R := fun x us => RepD w ok t0 x us) (fun x us hr => RepD.len hr) (lo + n) m4
       rw [b3, Nat.mul_one] at t1 t2
       have t3 := Reps.append (Reps.append t1 v1) t2
       have hlen : (List.take lo xs ++ ys0 ++ List.drop (lo + n) xs).length = List.length xs := by simp; omega
       have hs := h.write (o' := .arr t0 (List.take lo xs ++ ys0 ++ List.drop (lo + n) xs) .wr) hob (B := b) (by rw [hV]; rfl) (JN b _ _ w) (fun b' hb => QM b _ _ w b' hb) s1 s2 s3 (fun j hj => absurd hj (m6 rfl j))
        ⟨_, cap, by rw [hV, hlen], by rw [hlen]; exact l1, by rw [hlen]; exact l2, .inr ⟨b, oo, rfl, c2, T, fz, k1, by rw [hcapm]; exact m2, by rw [hcapm]; omega,
         ⟨_, Reps.mono (fun _ _ hc => RepD.ext hext hc) t3, fun j z hj => by
          have hlt1 : (us.take lo).length = lo := by simp; omega
          rw [hget]
          rw [List.append_assoc, List.getElem?_append, hlt1] at hj
          split at hj
          ·rename_i hj1
           rw [if_neg (by omega)]
           rw [List.getElem?_take, if_pos hj1] at hj
           exact m5 j z hj
          ·rename_i hj1
           rw [List.getElem?_append] at hj
           split at hj
           ·rename_i hj2
            rw [if_pos (by omega), show oo + j - (oo + lo) = j - lo by omega]
            exact hj
           ·rename_i hj2
            rw [if_neg (by omega)]
            rw [List.getElem?_drop] at hj
            refine m5 j z ?_
            rw [← hj]
            congr 1; omega⟩, m6, (fun hm => by cases hm)⟩⟩
       have hret : IntKind.i64.wrap (n : Int) = n := by rw [IntKind.wrap_i64]; omega
       refine Jo.value (av := one (.int .i64) (n : Int)) (v := .int .i64 n) ?_ hs ⟨rfl, hret⟩ (Zp.set _ _ _) hr Jh
       rw [hexec, hdv, hxv]
       rw [b5] at hrun
       simp only [Sem.run_bind]
       rw [b5, hrun]
       simp [goInt, hvl, b5]
  ·cases hr
 ·cases hr
structure QkY (w w' : World) : Prop where
 size : w.heap.size ≤ w'.heap.size
 old : ∀ b, b < w.heap.size → w'.heap[b]? = w.heap[b]?
 os : w'.os = w.os
 tape : w'.tape = w.tape
 output : w'.output = w.output
theorem Sim.grow (h : Sim F ι ok N σ a w) {w' : World} (g : QkY w w') : Sim F ι ok N σ a w' := by
 have hx : Ext w ok w' ok := Ext.same fun b j hk => Zx (g.old b (h.oks b j hk)) j
 refine ⟨fun t => QR.mono hx (fun _ _ => rfl) (fun _ h => h) (h.tms t), fun i p hp => ?_, h.apart, fun b j hk => Nat.lt_of_lt_of_le (h.oks b j hk) g.size, ?_, h.size, h.defs, h.pins, h.pls.heap fun b j hk => g.old b (h.oks b j (.inr hk))⟩
 ·obtain ⟨k1, k2, k3⟩ := h.objs i p hp
  exact ⟨k1, QN.mono hx (fun _ _ => rfl) (fun _ h => h) (fun b hb => ⟨g.old b (k2.lt hb), Ok.At.refl _ _⟩) k2, k3⟩
 ·obtain ⟨k1, k2, k3, k4, k5, k6, k7⟩ := h.keep
  refine ⟨Nat.le_trans k1 g.size, fun b hb hs => by rw [g.old b (by omega)]; exact k2 b hb hs, g.os.trans k3, g.tape.trans k4, g.output.trans k5, fun b j hk => ⟨(k6 b j hk).1, ?_⟩, k7⟩
  rw [(hx.1 b j (k6 b j hk).1).2]; exact (k6 b j hk).2
end
end Go.Abs
namespace Go.Abs
section
variable {P : Program} {R : Type} {F : Fr} {ι : Nat → Value} {ok : Ok} {N : Nat → Prop} {σ : St} {a : Act} {w : World} {o : Oper} {r : R}
theorem Qea {t : TypeId} {u : Ty} (h : Qg2 P t = some u) (x y : u.den) (n : Nat) : eqT P (n + 1) t (ZU u x) (ZU u y) = some (Jx u x y) ∧ QcZ P t = some false ∧ u.sz = 1 ∧ Qar u = false := by
 unfold Qg2 at h
 split at h
 ·rename_i k hu; cases h
  exact ⟨by simp [eqT, hu, ZU, Qcb, Jx], by simp [QcZ, hu], rfl, rfl⟩
 ·rename_i hu; cases h
  exact ⟨by simp [eqT, hu, ZU, Qcb, Jx], by simp [QcZ, hu], rfl, rfl⟩
 ·rename_i hu; cases h
  exact ⟨by simp [eqT, hu, ZU, Qcb, Jx], by simp [QcZ, hu], rfl, rfl⟩
 ·cases h
theorem QqI (n : Nat) : ∀ {fs : List Field} {off : Nat} {k : Ty}, Qgo P off fs = some k → ∀ (x y : k.den) (pre pre' : List Cell), pre.length = off → pre'.length = off →
  eqFs P (eqT P (n + 1)) (pre ++ ZU k x) (pre' ++ ZU k y) fs = some (Jx k x y)
 | [], off, k, h, x, y, pre, pre', _, _ => by simp only [Qgo] at h; cases h; rfl
 | f :: r, off, k, h, x, y, pre, pre', h1, h2 => by
  simp only [Qgo] at h
  split at h
  ·rename_i u b hu hb
   cases hc : Nat.beq f.offset off && !(decide (f.name = "_")) && (P.info? f.type).isSome with
   | false => simp [hc] at h
   | true =>
    simp only [hc, cond_true] at h
    simp only [Bool.and_eq_true, Bool.not_eq_true', decide_eq_false_iff_not] at hc
    obtain ⟨⟨c1, c2⟩, c3⟩ := hc
    have c1 := Nat.eq_of_beq_eq_true c1
    obtain ⟨i, hi⟩ := Option.isSome_iff_exists.1 c3
    obtain ⟨_, ha, hs, _⟩ := Qea hu u.zero u.zero n
    have lone : ∀ z : u.den, ∃ c, ZU u z = [c] := fun z => by
     have := Qgt u z
     rw [hs] at this
     match ZU u z, this with
     | [c], _ => exact ⟨c, rfl⟩
    have nthA : ∀ (p : List Cell) (c : Cell) (q : List Cell), p.length = off → nth (p ++ c :: q) f.offset = some c := fun p c q hp => by
     rw [c1, ← hp]
     clear hp
     induction p with
     | nil => rfl
     | cons d p ih => exact ih
    cases r with
    | nil =>
     simp only [Qgo] at hb
     cases hb
     cases h
     obtain ⟨c, e1⟩ := lone x
     obtain ⟨d, e2⟩ := lone y
     have he := (Qea hu x y n).1
     rw [e1, e2] at he
     simp only [eqFs, c2, decide_false, cond_false, ha, hi, e1, e2, nthA pre c [] h1, nthA pre' d [] h2, he, Bool.and_true]
    | cons g r =>
     cases h
     obtain ⟨c, e1⟩ := lone x.1
     obtain ⟨d, e2⟩ := lone y.1
     have he := (Qea hu x.1 y.1 n).1
     rw [e1, e2] at he
     have ih := QqI n hb x.2 y.2 (pre ++ [c]) (pre' ++ [d]) (by simp [h1]) (by simp [h2])
     have x1 : pre ++ ZU (.pr u b) x = pre ++ c :: ZU b x.2 := by rw [show ZU (.pr u b) x = ZU u x.1 ++ ZU b x.2 from rfl, e1]; rfl
     have y1 : pre' ++ ZU (.pr u b) y = pre' ++ d :: ZU b y.2 := by rw [show ZU (.pr u b) y = ZU u y.1 ++ ZU b y.2 from rfl, e2]; rfl
     rw [x1, y1]
     rw [List.append_assoc, List.append_assoc] at ih
     simp only [List.cons_append, List.nil_append] at ih
     unfold eqFs
     simp only [c2, decide_false, cond_false, ha, hi, nthA pre c _ h1, nthA pre' d _ h2, he, ih]
     rfl
  ·cases h
theorem QqD {kt : TypeId} {ag : Bool} {k : Ty} (h : Qfr P kt = some (ag, k)) (x y : k.den) : eqT P tyD kt (ZU k x) (ZU k y) = some (Jx k x y) ∧ QcZ P kt = some ag := by
 unfold Qfr at h
 split at h
 ·rename_i fs hu
  cases hs : P.stoodInHeld kt with
  | true => simp [hs] at h
  | false =>
   simp only [hs, cond_false] at h
   split at h
   ·rename_i k' hk
    cases h
    refine ⟨?_, by simp [QcZ, hu]⟩
    have := QqI 10 hk x y [] [] rfl rfl
    simp only [tyD, eqT, hu, hs, cond_false]
    exact this
   ·cases h
 ·split at h
  ·rename_i k' hk
   cases h
   exact ⟨(Qea hk x y 11).1, (Qea hk x y 11).2.1⟩
  ·cases h
theorem QnR {kt : TypeId} {ag : Bool} {k : Ty} (h : Qfr P kt = some (ag, k)) {x y : k.den} {u v : Value} (hx : RepE w ok ag k x u) (hy : RepE w ok ag k y v) : (Op.equal kt u v).run P w = .ok (Jx k x y) w := by
  obtain ⟨h1, h2⟩ := QqD h x y
  cases ag with
  | false =>
    have := (QhA (ι := noι0) (N := fun _ => False) tyD h1 (Vz hx) (Vz hy)).2 h2 9988 u v rfl rfl
    exact this
  | true =>
    obtain ⟨vs, rfl, hx⟩ := hx
    obtain ⟨us, rfl, hy⟩ := hy
    exact (QhA (ι := noι0) (N := fun _ => False) tyD h1 (Vz hx) (Vz hy)).1 h2 9988
where noι0 : Nat → Value := fun _ => undef
theorem QcX {t : TypeId} {u : Ty} (h : Qg2 P t = some u) {x : u.den} {v : Value} (hx : RepD w ok u x [v]) (em : Bool) (n : Nat) : (Instr.checkKey em (n + 1) t v).run P w = .ok () w := by
 unfold Qg2 at h
 split at h
 ·rename_i k hu; cases h
  have : v = .int k x := by have := hx.1; simpa using this
  exact MapKept.run_checkKey hu (by rw [this]; rfl) em n
 ·rename_i hu; cases h
  have : v = .bool x := by have : [v] = [.bool x] := hx; simpa using this
  exact MapKept.run_checkKey hu (by rw [this]; trivial) em n
 ·rename_i hu; cases h
  obtain ⟨s, e, _⟩ := hx
  have : v = .string s := by simpa using e
  exact MapKept.run_checkKey hu (by rw [this]; trivial) em n
 ·cases h
theorem Qgy (em : Bool) (n : Nat) (all : List Value) : ∀ {fs : List Field} {off : Nat} {k : Ty}, Qgo P off fs = some k → ∀ (x : k.den) (pre vs : List Value), pre.length = off → RepD w ok k x vs → all = pre ++ vs →
    (forIn fs PUnit.unit fun (f : Field) _ => (do if f.name ≠ "_" then Instr.checkKey em (n + 1) f.type (← part f.type all.toArray f.offset)
                                                  pure (ForInStep.yield PUnit.unit) : Sem (ForInStep PUnit))).run P w = .ok PUnit.unit w
  | [], off, k, h, x, pre, vs, _, _, _ => by simp
  | f :: r, off, k, h, x, pre, vs, h1, hr, e => by
    simp only [Qgo] at h
    split at h
    · rename_i u b hu hb
      cases hc : Nat.beq f.offset off && !(decide (f.name = "_")) && (P.info? f.type).isSome with
      | false => simp [hc] at h
      | true =>
        simp only [hc, cond_true] at h
        simp only [Bool.and_eq_true, Bool.not_eq_true', decide_eq_false_iff_not] at hc
        obtain ⟨⟨c1, c2⟩, c3⟩ := hc
        have c1 := Nat.eq_of_beq_eq_true c1
        obtain ⟨i, hi⟩ := Option.isSome_iff_exists.1 c3
        obtain ⟨_, ha, hs, _⟩ := Qea hu u.zero u.zero n
        have lone : ∀ (z : u.den) (ws : List Value), RepD w ok u z ws → ∃ c, ws = [c] := fun z ws hz => by
          have := RepD.len hz
          rw [hs] at this
          match ws, this with
          | [c], _ => exact ⟨c, rfl⟩
        have prun : ∀ (c : Value) (q : List Value), all = pre ++ c :: q → (part f.type all.toArray f.offset).run P w = .ok c w := fun c q e => by
          simp [part, Qai ha, c1, ← h1, e]
        cases r with
        | nil =>
          cases h
          obtain ⟨c, rfl⟩ := lone x vs hr
          have p1 := prun c [] e
          have p2 := QcX hu hr em n
          simp only [List.forIn_cons, Sem.run_bind, c2, ne_eq, not_false_eq_true, if_true, Result.andThen_ok, p1, p2, Sem.run_pure, List.forIn_nil]
        | cons g r =>
          cases h
          obtain ⟨v1, v2, rfl, r1, r2⟩ := hr
          obtain ⟨c, rfl⟩ := lone x.1 v1 r1
          have p1 := prun c v2 (by simpa using e)
          have p2 := QcX hu r1 em n
          have ih := Qgy em n all hb x.2 (pre ++ [c]) v2 (by simp [h1]) r2 (by simpa using e)
          rw [List.forIn_cons]
          simp only [Sem.run_bind, c2, ne_eq, not_false_eq_true, if_true, Result.andThen_ok, p1, p2, Sem.run_pure]
          simpa only [Sem.run_bind, ne_eq] using ih
    · cases h
theorem QcW {kt : TypeId} {ag : Bool} {k : Ty} (h : Qfr P kt = some (ag, k)) {x : k.den} {v : Value} (hx : RepE w ok ag k x v) (em : Bool) (n : Nat) : (Instr.checkKey em (n + 2) kt v).run P w = .ok () w := by
 unfold Qfr at h
 split at h
 ·rename_i fs hu
  cases hs : P.stoodInHeld kt with
  | true => simp [hs] at h
  | false =>
   simp only [hs, cond_false] at h
   split at h
   ·rename_i k' hk
    cases h
    obtain ⟨vs, rfl, hx⟩ := hx
    unfold Instr.checkKey
    simp only [Sem.run_bind, run_underlying hu, Result.andThen_ok]
    rw [← Array.forIn_toList]
    have := Qgy em n vs hk x [] vs rfl hx rfl
    simp at this ⊢
    simp [this]
   ·cases h
 ·split at h
  ·rename_i k' hk
   cases h
   exact QcX hk hx em (n + 1)
  ·cases h
section
variable {ka va : Bool} {k v : Ty} {kt : TypeId}
def Qft (k v : Ty) (es : List MapEntry) (xs : List (k.den × v.den)) (x : k.den) (i : Nat) (res : Option (Nat × Value)) : Prop :=
 (res = none ∧ mget (Jx k) xs x = none ∧ (∀ y, mset (Jx k) xs x y = xs ++ [(x, y)]) ∧ mdel (Jx k) xs x = xs) ∨
 ∃ j e d, res = some (i + j, e.val) ∧ es[j]? = some e ∧ xs[j]? = some d ∧ Jx k x d.1 = true ∧ mget (Jx k) xs x = some d.2 ∧ (∀ y, mset (Jx k) xs x y = xs.set j (x, y)) ∧ mdel (Jx k) xs x = xs.eraseIdx j
theorem Qft.here {e : MapEntry} {es : List MapEntry} {d : k.den × v.den} {xs : List (k.den × v.den)} {x : k.den} {i : Nat} (h : Jx k x d.1 = true) : Qft k v (e :: es) (d :: xs) x i (some (i, e.val)) :=
 .inr ⟨0, e, d, rfl, rfl, rfl, h, by simp [mget, h], fun y => by simp [mset, h], by simp [mdel, h]⟩
theorem Qft.next {e : MapEntry} {es : List MapEntry} {d : k.den × v.den} {xs : List (k.den × v.den)} {x : k.den} {i : Nat} {res : Option (Nat × Value)} (h : Jx k x d.1 = false) (hf : Qft k v es xs x (i + 1) res) : Qft k v (e :: es) (d :: xs) x i res := by
 rcases hf with ⟨h1, h2, h3, h4⟩ | ⟨j, e', d', h1, h2, h3, h4, h5, h6, h7⟩
 ·exact .inl ⟨h1, by simp [mget, h, h2], fun y => by simp [mset, h, h3], by simp [mdel, h, h4]⟩
 ·exact .inr ⟨j + 1, e', d', by rw [h1]; congr 2; omega, by simpa using h2, by simpa using h3, h4, by simp [mget, h, h5], fun y => by simp [mset, h, h6], by simp [mdel, h, h7]⟩
theorem QhH (hk : Qfr P kt = some (ka, k)) {x : k.den} {u : Value} (hx : RepE w ok ka k x u) : ∀ {xs : List (k.den × v.den)} {es : List MapEntry} (i : Nat), All2 (QaE w ok ka va (.pr k v)) xs es →
  ∃ res, (Instr.findAsking kt u es i).run P w = .ok res w ∧ Qft k v es xs x i res
 | [], [], i, _ => ⟨none, by simp [Instr.findAsking], .inl ⟨rfl, rfl, fun y => rfl, rfl⟩⟩
 | [], _ :: _, _, h => h.elim
 | _ :: _, [], _, h => h.elim
 | d :: xs, e :: es, i, h => by
  obtain ⟨_, _, h1, _⟩ := h.1
  have he := QnR hk hx h1
  cases hb : Jx k x d.1 with
  | true => exact ⟨some (i, e.val), by simp [Instr.findAsking, he, hb], Qft.here hb⟩
  | false =>
   obtain ⟨res, g1, g2⟩ := QhH hk hx (i + 1) h.2
   exact ⟨res, by simp [Instr.findAsking, he, hb, g1], Qft.next hb g2⟩
theorem QoH {u : Ty} {t : TypeId} (h : Qg2 P t = some u) {x y : u.den} {a b : Value} (hx : RepD w ok u x [a]) (hy : RepD w ok u y [b]) {kd : TypeDesc} (hd : P.underlying t = some kd) : Instr.sameNow kd a b = some (Jx u x y) := by
 unfold Qg2 at h
 rw [hd] at h
 cases kd <;> simp at h
 ·subst h
  have h1 : a = .bool x := by have : [a] = [.bool x] := hx; simpa using this
  have h2 : b = .bool y := by have : [b] = [.bool y] := hy; simpa using this
  subst h1; subst h2; rfl
 ·rename_i q
  subst h
  have h1 : a = .int q x := by have := hx.1; simpa using this
  have h2 : b = .int q y := by have := hy.1; simpa using this
  subst h1; subst h2
  simp [Instr.sameNow, Jx]
 ·subst h
  obtain ⟨s, e1, e2, _⟩ := hx
  obtain ⟨s', e3, e4, _⟩ := hy
  have h1 : a = .string s := by simpa using e1
  have h2 : b = .string s' := by simpa using e3
  subst h1; subst h2
  subst e2; subst e4
  simp only [Instr.sameNow, Jx]
  congr 1
  rw [Bool.eq_iff_iff, MapKept.bytes_beq, beq_iff_eq]
  constructor
  ·rintro rfl; rfl
  ·intro hh
   have hh : s.data.toList.map (fun b => (b.toNat : Int)) = s'.data.toList.map (fun b => (b.toNat : Int)) := hh
   have := (List.map_inj_right (f := fun b : UInt8 => (b.toNat : Int)) (fun x y hxy => UInt8.toNat_inj.1 (by have hxy : (x.toNat : Int) = y.toNat := hxy; omega))).1 hh
   cases s; cases s'
   simp at this
   simp [this]
theorem Qnm (hk : Qg2 P kt = some k) {kd : TypeDesc} (hd : P.underlying kt = some kd) {x : k.den} {u : Value} (hx : RepD w ok k x [u]) : ∀ {xs : List (k.den × v.den)} {es : List MapEntry} (i : Nat), All2 (QaE w ok false va (.pr k v)) xs es →
  ∃ res, Instr.findNow kd u es i = some res ∧ Qft k v es xs x i res
 | [], [], i, _ => ⟨none, by simp [Instr.findNow], .inl ⟨rfl, rfl, fun y => rfl, rfl⟩⟩
 | [], _ :: _, _, h => h.elim
 | _ :: _, [], _, h => h.elim
 | d :: xs, e :: es, i, h => by
  obtain ⟨_, _, h1, _⟩ := h.1
  have he := QoH hk hx h1 hd
  cases hb : Jx k x d.1 with
  | true => exact ⟨some (i, e.val), by simp [Instr.findNow, he, hb], Qft.here hb⟩
  | false =>
   obtain ⟨res, g1, g2⟩ := Qnm hk hd hx (i + 1) h.2
   exact ⟨res, by simp [Instr.findNow, he, hb, g1], Qft.next hb g2⟩
theorem QdL (hk : Qfr P kt = some (ka, k)) {x : k.den} {u : Value} (hx : RepE w ok ka k x u) {xs : List (k.den × v.den)} {es : List MapEntry} (h : All2 (QaE w ok ka va (.pr k v)) xs es) :
  ∃ res, (Instr.findKey kt u es).run P w = .ok res w ∧ Qft k v es xs x 0 res := by
 have hk0 := hk
 unfold Qfr at hk
 split at hk
 ·rename_i fs hu
  cases hs : P.stoodInHeld kt with
  | true => simp [hs] at hk
  | false =>
   simp only [hs, cond_false] at hk
   split at hk
   ·cases hk
    obtain ⟨res, g1, g2⟩ := QhH hk0 hx 0 h
    refine ⟨res, ?_, g2⟩
    cases es with
    | nil =>
     cases xs with
     | cons _ _ => exact h.elim
     | nil =>
      simp [Instr.findAsking] at g1
      simp [Instr.findKey, run_underlying hu, Instr.findNow, g1]
    | cons e es =>
     have : Instr.findNow (.struct fs) u (e :: es) 0 = none := by simp [Instr.findNow, Instr.sameNow]
     simp [Instr.findKey, run_underlying hu, this, g1]
   ·cases hk
 ·split at hk
  ·rename_i k' hk1
   cases hk
   have : ∃ kd, P.underlying kt = some kd := by
    unfold Qg2 at hk1
    split at hk1 <;> first | exact ⟨_, by assumption⟩ | cases hk1
   obtain ⟨kd, hd⟩ := this
   obtain ⟨res, g1, g2⟩ := Qnm hk1 hd hx 0 h
   exact ⟨res, by simp [Instr.findKey, run_underlying hd, g1], g2⟩
  ·cases hk
end
theorem Qdc {t : TypeId} {ka va : Bool} {k v : Ty} (h : Qks P t = some ((ka, k), (va, v))) : ∃ kt et, P.underlying t = some (.map kt et) ∧ Qfr P kt = some (ka, k) ∧ QiN P et = some (va, v) := by
 unfold Qks at h
 split at h
 ·rename_i kt et hu
  split at h
  ·rename_i x y hx hy; cases h; exact ⟨kt, et, hu, hx, hy⟩
  ·cases h
 ·cases h
theorem Qjx : ∀ t : Ty, QiN.hasSl0 t = Qar t := by
 intro t
 induction t with
 | pr a b iha ihb => simp [QiN.hasSl0, Qar, iha, ihb]
 | _ => rfl
theorem Qg9 {et : TypeId} {va : Bool} {v : Ty} (h : QiN P et = some (va, v)) (w : World) (ok : Ok) : Qar v = false ∧ (va = false → v.sz = 1) ∧ ∃ z, (zeroValue et).run P w = .ok z w ∧ RepE w ok va v v.zero z := by
 unfold QiN at h
 split at h
 ·rename_i v' i hv hi
  split at h
  ·rename_i cs hz
   cases hc : VD P et v' && !QiN.hasSl0 v' with
   | false => simp [hc] at h
   | true =>
    simp only [hc, cond_true] at h
    cases h
    simp only [Bool.and_eq_true, Bool.not_eq_true'] at hc
    obtain ⟨i', z, h1, h2, h3⟩ := VV hc.1 w ok
    rw [hi] at h1; cases h1
    rw [hz] at h2; cases h2
    refine ⟨by rw [← Qjx]; exact hc.2, (fun h => by cases h), .agg cs, ?_, ⟨cs.toList, by simp, h3⟩⟩
    simp [zeroValue, run_typeInfo w hi, hz]
  ·rename_i zz hne hz
   cases hc : VD P et v' && !QiN.hasSl0 v' && Nat.beq v'.sz 1 with
   | false => simp [hc] at h
   | true =>
    simp only [hc, cond_true] at h
    cases h
    simp only [Bool.and_eq_true, Bool.not_eq_true'] at hc
    obtain ⟨i', z, h1, h2, h3⟩ := VV hc.1.1 w ok
    rw [hi] at h1; cases h1
    rw [hz] at h2; cases h2
    refine ⟨by rw [← Qjx]; exact hc.1.2, (fun _ => Nat.eq_of_beq_eq_true hc.2), zz, ?_, ?_⟩
    ·simp [zeroValue, run_typeInfo w hi, hz]
    ·have : zz.cells.toList = [zz] := by cases zz <;> first | rfl | exact absurd rfl (hne _)
     rw [this] at h3
     exact h3
  ·cases h
 ·cases h
theorem Ql9 {kt : TypeId} {ka : Bool} {k : Ty} (h : Qfr P kt = some (ka, k)) : Qar k = false ∧ (ka = false → k.sz = 1) := by
 have fs : ∀ {fs : List Field} {off : Nat} {k : Ty}, Qgo P off fs = some k → Qar k = false := by
  intro fs
  induction fs with
  | nil => intro off k h; simp only [Qgo] at h; cases h; rfl
  | cons f r ih =>
   intro off k h
   simp only [Qgo] at h
   split at h
   ·rename_i u b hu hb
    cases hc : Nat.beq f.offset off && !(decide (f.name = "_")) && (P.info? f.type).isSome with
    | false => simp [hc] at h
    | true =>
     simp only [hc, cond_true] at h
     have h1 := (Qea hu u.zero u.zero 0).2.2.2
     cases r with
     | nil => cases h; exact h1
     | cons g r => cases h; simp [Qar, h1, ih hb]
   ·cases h
 unfold Qfr at h
 split at h
 ·rename_i fs' hu
  cases hs : P.stoodInHeld kt with
  | true => simp [hs] at h
  | false =>
   simp only [hs, cond_false] at h
   split at h
   ·rename_i k' hk; cases h; exact ⟨fs hk, fun h => by cases h⟩
   ·cases h
 ·split at h
  ·rename_i k' hk
   cases h
   exact ⟨(Qea hk k.zero k.zero 0).2.2.2, fun _ => (Qea hk k.zero k.zero 0).2.2.1⟩
  ·cases h
theorem Qfz (_ : Sim F ι ok N σ a w) {ka va : Bool} {k v : Ty} {m : AV} {id : Nat} {xs : List (k.den × v.den)} (hm : Qf6 σ ka k va v m = some (id, xs)) {V : Value} (hv : QR w ok ι N m V) :
  V = ι id ∧ σ.ob id = some (.arr (.pr k v) xs (.mp ka va)) ∧ N id ∧ m = m := by
 unfold Qf6 at hm
 split at hm
 ·rename_i t id'
  split at hm
  ·rename_i u ys ka' va' ho
   cases hb : (ka == ka') && (va == va') && u.beq (.pr k v) with
   | false => simp [hb] at hm
   | true =>
    simp only [hb, cond_true] at hm
    split at hm
    ·rename_i zs hz
     cases hm
     simp only [Bool.and_eq_true, beq_iff_eq] at hb
     obtain ⟨⟨rfl, rfl⟩, _⟩ := hb
     obtain ⟨e, hx⟩ := Ty.to_some hz
     cases e
     simp only [cast_eq] at hx
     subst hx
     exact ⟨hv.2.1, ho, hv.1, rfl⟩
    ·cases hm
  ·cases hm
 ·cases hm
theorem Qis (h : Sim F ι ok N σ a w) {ag : Bool} {t : Ty} {x : AV} {d : t.den} (he : elAt σ ag t x = some d) {V : Value} (hv : QR w ok ι N x V) : RepE w ok ag t d V := by
 unfold elAt at he
 split at he
 ·rename_i x
  cases hb : (ag == x.isAgg) && QbN x.cells with
  | false => simp [hb] at he
  | true =>
   simp only [hb, cond_true] at he
   simp only [Bool.and_eq_true, beq_iff_eq] at hb
   obtain ⟨rfl, hs⟩ := hb
   split at he
   ·rename_i d' hd
    cases he
    cases x with
    | one c =>
     obtain ⟨v1, v2, e, r1, r2⟩ := Qcn h hd (show All2 (RepC w ok ι N) [c] [V] from ⟨hv, trivial⟩)
     have : v2 = [] := by cases v2 with | nil => rfl | cons _ _ => exact r2.elim
     subst this
     rw [List.append_nil] at e
     subst e
     exact r1
    | agg cs =>
     obtain ⟨vs, rfl, hvs⟩ := hv
     obtain ⟨v1, v2, e, r1, r2⟩ := Qcn h hd (show All2 (RepC w ok ι N) cs vs from hvs)
     have : v2 = [] := by cases v2 with | nil => rfl | cons _ _ => exact r2.elim
     subst this
     rw [List.append_nil] at e
     subst e
     exact ⟨_, rfl, r1⟩
   ·cases he
 ·cases he
theorem Qpl {ag : Bool} {t : Ty} (hs : ag = false → t.sz = 1) {x : t.den} {V : Value} (h : RepE w ok ag t x V) : V2 w ok ι N (mkE ag t x) V := by
 cases ag with
 | false =>
  have hl := Qgt t x
  rw [hs rfl] at hl
  have hr := Vz (ι := ι) (N := N) (show RepD w ok t x [V] from h)
  unfold mkE
  match hc : ZU t x, hl with
  | [c], _ => rw [hc] at hr; exact hr.1
 | true =>
  obtain ⟨vs, e, h⟩ := h
  have : mkE true t x = .agg (ZU t x) := by unfold mkE; split <;> first | rfl | simp_all
  rw [this]
  exact ⟨vs, e, Vz h⟩
theorem Qif (h : Sim F ι ok N σ a w) {nb : Nat} (hN : Qba N nb) {t : TypeId} (ho : o.op = .makeMap t none) {K : AV → St → Option R} (hr : QiB P nb t σ K = some r) : Jo P o F (span N nb) a w σ K r := by
 unfold QiB at hr
 split at hr
 ·rename_i ka k va v hm
  have hs := h.alloc (id := nb) hN.nb (.map #[] 0) (V := .map (some w.heap.size)) (o := .arr (.pr k v) [] (.mp ka va)) rfl
   ⟨w.heap.size, #[], 0, rfl, QaB _ _, trivial, fun j hj => by have := h.oks _ _ hj; omega, by simp⟩
  refine Jo.value (av := .val (.one (.own (.pr k v) nb))) (v := .map (some w.heap.size)) ?_ hs ⟨JE, (JA _ _ _).symm, .inr ⟨_, rfl⟩⟩ (Zp.set _ _ _) hr Jd
  simp [execOp, ho, RowKit.run_makeMap]
 ·cases hr
theorem Qjo (h : Sim F ι ok N σ a w) {nb : Nat} {t : TypeId} {x y : Operand} {okB : Bool} (ho : o.op = .lookup t x y okB) {K : AV → St → Option R}
  (hr : QbQ P t (σ.ev x) (σ.ev y) okB σ (fun v => K v σ) = some r) : Jo P o F (span N nb) a w σ K r := by
 unfold QbQ at hr
 split at hr
 ·rename_i ka k va v hm
  obtain ⟨kt, et, hu, hk, hv⟩ := Qdc hm
  split at hr
  ·rename_i id xs d hmap hkey
   obtain ⟨e1, ho1, _, _⟩ := Qfz h hmap (h.ev x)
   have e2 := Qis h hkey (h.ev y)
   obtain ⟨b, es, clock, hV, hb, hes, _, _⟩ := (h.objs id _ ho1).2.1
   obtain ⟨res, g1, g2⟩ := QdL (P := P) hk e2 hes
   obtain ⟨z1, z2, z, hz, hzr⟩ := Qg9 (P := P) hv w ok
   have hck : (Instr.checkKey es.isEmpty 10000 kt (a.eval y)).run P w = .ok () w := QcW hk e2 _ 9998
   obtain ⟨el, hel, hrun⟩ : ∃ el, RepE w ok va v ((mget (Jx k) xs d).getD v.zero) el ∧ (Instr.lookup t (a.eval x) (a.eval y) okB).run P w = .ok (if okB then .tuple #[el, .bool (mget (Jx k) xs d).isSome] else el) w := by
    rw [e1, hV]
    rcases g2 with ⟨h1, h2, _⟩ | ⟨j, e, dd, h1, h2, h3, h4, h5, _⟩
    ·refine ⟨z, by rw [h2]; exact hzr, ?_⟩
     subst h1
     cases okB <;> simp [Instr.lookup, run_underlying hu, MapKept.run_getObj_map hb, hck, g1, hz, h2]
    ·have he : QaE w ok ka va (.pr k v) dd e := by
      have : ∀ {l : List (k.den × v.den)} {m : List MapEntry} {j : Nat} {dd : k.den × v.den} {e : MapEntry}, All2 (QaE w ok ka va (.pr k v)) l m → l[j]? = some dd → m[j]? = some e → QaE w ok ka va (.pr k v) dd e := by
       intro l
       induction l with
       | nil => intro m j dd e h h1 _; simp at h1
       | cons x l ih =>
        intro m j dd e h h1 h2
        cases m with
        | nil => exact h.elim
        | cons y m =>
         cases j with
         | zero => cases h1; cases h2; exact h.1
         | succ j => exact ih h.2 (by simpa using h1) (by simpa using h2)
      exact this hes h3 h2
     refine ⟨e.val, by rw [h5]; exact he.2.2.2, ?_⟩
     subst h1
     cases okB <;> simp [Instr.lookup, run_underlying hu, MapKept.run_getObj_map hb, hck, g1, h5]
   cases okB with
   | false =>
    simp only [cond_false] at hr
    exact Jo.value (av := .val (mkE va v ((mget (Jx k) xs d).getD v.zero))) (v := el) (by simp [execOp, ho, hrun]) h (Qpl z2 hel) (Zp.refl _) hr Jh
   | true =>
    simp only [cond_true] at hr
    refine Jo.value (v := .tuple #[el, .bool (mget (Jx k) xs d).isSome]) (by simp [execOp, ho, hrun]) h ?_ (Zp.refl _) hr Jh
    exact ⟨[el, .bool (mget (Jx k) xs d).isSome], rfl, Qpl z2 hel, rfl, trivial⟩
  ·cases hr
 ·cases hr
theorem QmP {t : Ty} (hf : Qar t = false) {ag : Bool} {x : t.den} {u v : Value} (hu : RepE w ok ag t x u) (hv : RepE w ok ag t x v) : Instr.sameBits 10000 u v = true := by
 have one : ∀ {n : Nat} {k : Ty} {x : k.den} {us vs : List Value}, Qar k = false → RepD w ok k x us → RepD w ok k x vs → us.length = vs.length ∧ ((us.zip vs).all fun (a, b) => Instr.sameBits (n + 1) a b) = true := by
  intro n k
  induction k with
  | int q => intro x us vs _ h1 h2; rw [h1.1, h2.1]; simp [Instr.sameBits]
  | bool => intro x us vs _ h1 h2; rw [show us = _ from h1, show vs = _ from h2]; simp [Instr.sameBits]
  | str =>
   intro x us vs _ h1 h2
   obtain ⟨s, rfl, e1, _⟩ := h1
   obtain ⟨s', rfl, e2, _⟩ := h2
   have : s = s' := by
    have hh : s.data.toList.map (fun b => (b.toNat : Int)) = s'.data.toList.map (fun b => (b.toNat : Int)) := e1.trans e2.symm
    have := (List.map_inj_right (f := fun b : UInt8 => (b.toNat : Int)) (fun x y hxy => UInt8.toNat_inj.1 (by have hxy : (x.toNat : Int) = y.toNat := hxy; omega))).1 hh
    cases s; cases s'
    simp at this
    simp [this]
   subst this
   simp [Instr.sameBits, MapKept.bytes_beq]
  | sl e _ => intro x us vs hf; simp [Qar] at hf
  | pl q => intro x us vs hf; simp [Qar] at hf
  | pr a b iha ihb =>
   intro x us vs hf h1 h2
   simp only [Qar, Bool.or_eq_false_iff] at hf
   obtain ⟨u1, u2, rfl, p1, p2⟩ := h1
   obtain ⟨v1, v2, rfl, q1, q2⟩ := h2
   obtain ⟨l1, z1⟩ := iha hf.1 p1 q1
   obtain ⟨l2, z2⟩ := ihb hf.2 p2 q2
   refine ⟨by simp [l1, l2], ?_⟩
   rw [List.zip_append l1, List.all_append, z1, z2]; rfl
  | un => intro x us vs _ h1 h2; rw [show us = _ from h1, show vs = _ from h2]; simp
 cases ag with
 | false =>
  have := (one (n := 9999) hf hu hv).2
  simpa using this
 | true =>
  obtain ⟨us, rfl, hu⟩ := hu
  obtain ⟨vs, rfl, hv⟩ := hv
  obtain ⟨l, z⟩ := one (n := 9998) hf hu hv
  simp only [Instr.sameBits, List.size_toArray, l, beq_self_eq_true, Bool.true_and]
  exact z
theorem QoM : ∀ {t : Ty}, Qar t = false → ∀ {x y : t.den}, Jx t x y = true → x = y := by
 intro t
 induction t with
 | int k => intro _ x y h; simpa [Jx] using h
 | bool => intro _ x y h; simpa [Jx] using h
 | str => intro _ x y h; simpa [Jx] using h
 | sl e _ => intro hf; simp [Qar] at hf
 | pl q => intro hf; simp [Qar] at hf
 | pr a b iha ihb =>
  intro hf x y h
  simp only [Qar, Bool.or_eq_false_iff] at hf
  simp only [Jx, Bool.and_eq_true] at h
  exact Prod.ext (iha hf.1 h.1) (ihb hf.2 h.2)
 | un => intro _ x y _; rfl
theorem Sim.setMap (h : Sim F ι ok N σ a w) {id b : Nat} {es es' : Array MapEntry} {clock clock' : Nat} {t : Ty} {xs xs' : List t.den} {ka va : Bool} (hob : σ.ob id = some (.arr t xs (.mp ka va))) (hV : ι id = .map (some b)) (hb : w.heap[b]? = some (.map es clock))
  (hes : All2 (QaE w ok ka va t) xs' es'.toList) (hl : xs'.length ≤ big) (hk : ∀ j, ¬ok b j) : Sim F ι ok N (σ.set id (.arr t xs' (.mp ka va))) a { w with heap := w.heap.setIfInBounds b (.map es' clock') } := by
 have hs := MapKept.heap_set (o' := .map es' clock') hb
 have hext : Ext w ok { w with heap := w.heap.setIfInBounds b (.map es' clock') } ok := Ext.same fun b' j hk' => Zx (hs.2 b' (fun e => by subst e; exact hk j hk')) j
 exact h.write (o' := .arr t xs' (.mp ka va)) hob (B := b) (by rw [hV]; rfl) (by simp) (fun b' hne => hs.2 b' hne) rfl rfl rfl (fun j hj => absurd hj (hk j))
  ⟨b, es', clock', hV, hs.1, All2.mono (fun _ _ he => QaE.ext hext he) hes, hk, hl⟩
theorem All2.set {α β : Type} {Q : α → β → Prop} : ∀ {l : List α} {m : List β} (j : Nat) {x : α} {y : β}, All2 Q l m → Q x y → All2 Q (l.set j x) (m.set j y)
 | [], [], _, _, _, _, _ => trivial
 | _ :: _, _ :: _, 0, _, _, h, hq => ⟨hq, h.2⟩
 | _ :: _, _ :: _, j + 1, _, _, h, hq => ⟨h.1, All2.set j h.2 hq⟩
 | [], _ :: _, _, _, _, h, _ => h.elim
 | _ :: _, [], _, _, _, h, _ => h.elim
theorem All2.erase {α β : Type} {Q : α → β → Prop} : ∀ {l : List α} {m : List β} (j : Nat), All2 Q l m → All2 Q (l.eraseIdx j) (m.eraseIdx j)
 | [], [], _, _ => trivial
 | _ :: _, _ :: _, 0, h => h.2
 | _ :: _, _ :: _, j + 1, h => ⟨h.1, All2.erase j h.2⟩
 | [], _ :: _, _, h => h.elim
 | _ :: _, [], _, h => h.elim
theorem All2.getE {α β : Type} {Q : α → β → Prop} : ∀ {l : List α} {m : List β} {j : Nat} {d : α} {e : β}, All2 Q l m → l[j]? = some d → m[j]? = some e → Q d e
 | [], _, _, _, _, _, h, _ => by simp at h
 | _ :: _, [], _, _, _, h, _, _ => h.elim
 | _ :: _, _ :: _, 0, _, _, h, h1, h2 => by cases h1; cases h2; exact h.1
 | _ :: _, _ :: _, j + 1, _, _, h, h1, h2 => All2.getE h.2 (by simpa using h1) (by simpa using h2)
theorem Qge (h : Sim F ι ok N σ a w) {nb : Nat} {t : TypeId} {x y z : Operand} (ho : o.op = .mapUpdate t x y z) {K : AV → St → Option R}
  (hr : Qbl P t (σ.ev x) (σ.ev y) (σ.ev z) σ (fun σ' => K (.val (.one .skip)) σ') = some r) : Jo P o F (span N nb) a w σ K r := by
 unfold Qbl at hr
 split at hr
 ·rename_i ka k va v hm
  obtain ⟨kt, et, hu, hk, hv⟩ := Qdc hm
  split at hr
  ·rename_i id xs d e0 hmap hkey hval
   cases hlt : Nat.blt (List.length xs) 4294967296 with
   | false => simp [hlt] at hr
   | true =>
    simp only [hlt, cond_true] at hr
    have hlt : xs.length < 4294967296 := by simpa using hlt
    obtain ⟨e1, ho1, _, _⟩ := Qfz h hmap (h.ev x)
    have e2 := Qis h hkey (h.ev y)
    have e3 := Qis h hval (h.ev z)
    have kf := Ql9 hk
    have vf := Qg9 (P := P) hv w ok
    obtain ⟨b, es, clock, hV, hb, hes, hok, _⟩ := (h.objs id _ ho1).2.1
    obtain ⟨res, g1, g2⟩ := QdL (P := P) hk e2 hes
    have hck : (Instr.checkKey false 10000 kt (a.eval y)).run P w = .ok () w := QcW hk e2 _ 9998
    have hrunV : a.eval x = .map (some b) := by rw [e1, hV]
    rcases g2 with ⟨h1, h2, h3, _⟩ | ⟨j, e, dd, h1, h2, h3, h4, h5, h6, _⟩
    ·subst h1
     have hs := h.setMap (t := .pr k v) (es' := es.push ⟨a.eval y, a.eval z, clock⟩) (clock' := clock + 1) ho1 hV hb (xs' := mset (Jx k) xs d e0) (by
      rw [h3 e0, Array.toList_push]
      exact All2.app hes ⟨⟨kf.1, vf.1, e2, e3⟩, trivial⟩) (by rw [h3 e0]; simp [big]; omega) hok
     refine Jo.skip ?_ hs (Zp.set _ _ _) hr Jh
     simp [execOp, ho, hrunV, Instr.mapUpdate, run_underlying hu, MapKept.run_getObj_map hb, hck, g1, MapKept.run_setObj_map _ hb]
    ·subst h1
     have hd : d = dd.1 := QoM kf.1 h4
     have he := All2.getE hes h3 h2
     have hold : RepE w ok ka k d e.key := by rw [hd]; exact he.2.2.1
     have hkt : (Instr.keyThatStays e.key (a.eval y)).run P w = .ok (a.eval y) w := by
      unfold Instr.keyThatStays
      rw [if_pos (QmP kf.1 hold e2)]
      simp
     have hs := h.setMap (t := .pr k v) (es' := es.modify j fun e => { e with key := a.eval y, val := a.eval z }) (clock' := clock) ho1 hV hb (xs' := mset (Jx k) xs d e0) (by
      have hjl : es.toList[j]? = some e := h2
      have : (es.modify j fun e => { e with key := a.eval y, val := a.eval z }).toList = es.toList.set j { e with key := a.eval y, val := a.eval z } := by
       apply List.ext_getElem?
       intro i
       rw [Array.getElem?_toList, Array.getElem?_modify, List.getElem?_set]
       by_cases hij : j = i
       ·subst hij
        have : j < es.toList.length := by
         rcases Nat.lt_or_ge j es.toList.length with q | q
         ·exact q
         ·rw [List.getElem?_eq_none q] at hjl; cases hjl
        rw [if_pos rfl, if_pos rfl, if_pos this, ← Array.getElem?_toList, hjl]; rfl
       ·rw [if_neg hij, if_neg hij, Array.getElem?_toList]
      rw [h6 e0, this]
      exact All2.set j hes ⟨kf.1, vf.1, e2, e3⟩) (by rw [h6 e0]; simp [big]; omega) hok
     refine Jo.skip ?_ hs (Zp.set _ _ _) hr Jh
     have hj : es[j]? = some e := by rw [← Array.getElem?_toList]; exact h2
     simp [execOp, ho, hrunV, Instr.mapUpdate, run_underlying hu, MapKept.run_getObj_map hb, hck, g1, hj, hkt, MapKept.run_setObj_map _ hb]
  ·cases hr
 ·cases hr
theorem Qjr (h : Sim F ι ok N σ a w) {nb : Nat} {c : Call} (ho : o.op = .call c) (hc : c.callee = .builtin .delete) {x y : AV} {t : TypeId} {ts : List TypeId} (hargs : evs σ c.args.toList = [x, y]) (ht : c.argTypes.toList = t :: ts) {K : AV → St → Option R}
  (hr : Qe3 P t x y σ (fun σ' => K (.val (.one .skip)) σ') = some r) : Jo P o F (span N nb) a w σ K r := by
 obtain ⟨x', y', hl, rfl, rfl⟩ := QeT hargs
 have ht0 : c.argTypes[0]? = some t := by rw [← Array.getElem?_toList, ht]; rfl
 unfold Qe3 at hr
 split at hr
 ·rename_i ka k va v hm
  obtain ⟨kt, et, hu, hk, hv⟩ := Qdc hm
  split at hr
  ·rename_i id xs d hmap hkey
   obtain ⟨e1, ho1, _, _⟩ := Qfz h hmap (h.ev x')
   have e2 := Qis h hkey (h.ev y')
   obtain ⟨b, es, clock, hV, hb, hes, hok, hbig⟩ := (h.objs id _ ho1).2.1
   obtain ⟨res, g1, g2⟩ := QdL (P := P) hk e2 hes
   have hck : (Instr.checkKey es.isEmpty 10000 kt (a.eval y')).run P w = .ok () w := QcW hk e2 _ 9998
   have hrunV : a.eval x' = .map (some b) := by rw [e1, hV]
   rcases g2 with ⟨h1, h2, _, h3⟩ | ⟨j, e, dd, h1, h2, h3, h4, h5, _, h6⟩
   ·subst h1
    have hs := h.setMap (t := .pr k v) (es' := es) (clock' := clock) ho1 hV hb (xs' := mdel (Jx k) xs d) (by rw [h3]; exact hes) (by rw [h3]; exact hbig) hok
    refine Jo.value (av := .val (.one .skip)) (v := .tuple #[]) ?_ hs rfl (Zp.set _ _ _) hr Jh
    simp [execOp, ho, resolve, hc, invoke, builtin, hl, Builtin.delete_, ht0, hrunV, run_underlying hu, MapKept.run_getObj_map hb, hck, g1, MapKept.run_setObj_map _ hb]
   ·subst h1
    have hs := h.setMap (t := .pr k v) (es' := es.eraseIdxIfInBounds j) (clock' := clock) ho1 hV hb (xs' := mdel (Jx k) xs d) (by
     have : (es.eraseIdxIfInBounds j).toList = es.toList.eraseIdx j := by simp [Array.toList_eraseIdxIfInBounds]
     rw [h6, this]; exact All2.erase j hes) (by rw [h6]; exact Nat.le_trans (List.length_eraseIdx_le _ _) hbig) hok
    refine Jo.value (av := .val (.one .skip)) (v := .tuple #[]) ?_ hs rfl (Zp.set _ _ _) hr Jh
    simp [execOp, ho, resolve, hc, invoke, builtin, hl, Builtin.delete_, ht0, hrunV, run_underlying hu, MapKept.run_getObj_map hb, hck, g1, MapKept.run_setObj_map _ hb]
  ·cases hr
 ·cases hr
theorem Qjp (h : Sim F ι ok N σ a w) {nb : Nat} {c : Call} (ho : o.op = .call c) (hc : c.callee = .builtin .len) {x : AV} {t : TypeId} (hargs : evs σ c.args.toList = [x]) (ht : c.argTypes.toList = [t]) {K : AV → St → Option R}
  (hr : QbR P t x σ (fun v => K v σ) = some r) : Jo P o F (span N nb) a w σ K r := by
 obtain ⟨x', hl, rfl⟩ := QnP hargs
 have ht0 : c.argTypes = #[t] := by apply Array.ext'; simpa using ht
 unfold QbR at hr
 split at hr
 ·rename_i ka k va v hm
  obtain ⟨kt, et, hu, hk, hv⟩ := Qdc hm
  split at hr
  ·rename_i id xs hmap
   obtain ⟨e1, ho1, _, _⟩ := Qfz h hmap (h.ev x')
   obtain ⟨b, es, clock, hV, hb, hes, hok, hbig⟩ := (h.objs id _ ho1).2.1
   have hrunV : a.eval x' = .map (some b) := by rw [e1, hV]
   have hlen : es.size = xs.length := by have := hes.len; simpa using this.symm
   refine Jo.value (v := .int .i64 xs.length) ?_ h (Qa6 _ _ (Qfb _ hbig)) (Zp.refl _) hr Jh
   simp [execOp, ho, resolve, hc, invoke, builtin, hl, ht0, Builtin.len_, run_underlying hu, hrunV, MapKept.run_getObj_map hb, hlen]
   rfl
  ·cases hr
 ·cases hr
end
end Go.Abs
namespace Go.Abs
def QbG (w : World) (ok : Ok) : (ts : List Ty) → (tupT ts).den → List Value → Prop
 | [], _, vs => vs = []
 | t :: r, x, vs => ∃ v vs', vs = v :: vs' ∧ RepD w ok t (thd t r x) [v] ∧ QbG w ok r (ttl t r x) vs'
def Qbc (w : World) (ok : Ok) (ts : List Ty) (x : (tupT ts).den) (v : Value) (B : Nat) : Prop :=
 v = .pointer (some ⟨B, 0, none⟩) ∧ ∃ c T, w.heap[B]? = some (.cells c T (0, 0)) ∧ QbG w ok ts x c.toList ∧ ∀ j, ¬ok B j
def QaT (w : World) (ok : Ok) : (caps : List (List Ty)) → (tupT (Z4 caps)).den → List Value → List Nat → Prop
 | [], _, vs, bs => vs = [] ∧ bs = []
 | ts :: r, x, vs, bs => ∃ v vs' B bs', vs = v :: vs' ∧ bs = B :: bs' ∧ Qbc w ok ts (tfst ts (Z4 r) x) v B ∧ QaT w ok r (tsnd ts (Z4 r) x) vs' bs'
def noι : Nat → Value := fun _ => undef
def noN : Nat → Prop := fun _ => False
def QgZ (w : World) (ok : Ok) : (k : PK) → (tupT (pkTs k)).den → Value → List Nat → Prop
 | .val false ts, x, v, bs => bs = [] ∧ QbG w ok ts x [v]
 | .val true ts, x, v, bs => bs = [] ∧ ∃ vs : List Value, v = .agg vs.toArray ∧ QbG w ok ts x vs
 | .own t, x, v, bs => bs = (blk v).toList ∧ QN w ok noι noN (.arr t x .fr) v
 | .ow t, x, v, bs => bs = (blk v).toList ∧ QN w ok noι noN (.arr t x .wr) v
 | .box ts, x, v, bs => ∃ B, bs = [B] ∧ Qbc w ok ts x v B
 | .fn f caps, x, v, bs => ∃ vs : List Value, v = .func (.func f) #[] vs.toArray ∧ QaT w ok caps x vs bs
def VQ (w : World) (ok : Ok) : (ks : List PK) → (tupT (insL ks)).den → List Value → List Nat → Prop
 | [], _, vs, bs => vs = [] ∧ bs = []
 | k :: r, x, vs, bs => ∃ v vs' b1 b2, vs = v :: vs' ∧ bs = b1 ++ b2 ∧ QgZ w ok k (tfst (pkTs k) (insL r) x) v b1 ∧ VQ w ok r (tsnd (pkTs k) (insL r) x) vs' b2
def Qe5 (w : World) (ok : Ok) : (caps : List (List Ty)) → (tupT (Z4 caps)).den → List Value → Prop
 | [], _, vs => vs = []
 | ts :: r, x, vs => ∃ v vs' B, vs = v :: vs' ∧ Qbc w ok ts (tfst ts (Z4 r) x) v B ∧ Qe5 w ok r (tsnd ts (Z4 r) x) vs'
def Qa9 (w : World) (ok : Ok) : (ks : List PK) → (tupT (Je ks)).den → List Value → Prop
 | [], _, vs => vs = []
 | .box ts :: r, x, vs => ∃ v vs' B, vs = v :: vs' ∧ Qbc w ok ts (tfst ts (Je r) x) v B ∧ Qa9 w ok r (tsnd ts (Je r) x) vs'
 | .fn f caps :: r, x, vs => ∃ vs1 vs' v, vs = v :: vs' ∧ v = .func (.func f) #[] (List.toArray vs1) ∧ Qe5 w ok caps (tfst (Z4 caps) (Je r) x) vs1 ∧ Qa9 w ok r (tsnd (Z4 caps) (Je r) x) vs'
 | .val _ _ :: r, x, vs => ∃ v vs', vs = v :: vs' ∧ Qa9 w ok r x vs'
 | .own _ :: r, x, vs => ∃ v vs', vs = v :: vs' ∧ Qa9 w ok r x vs'
 | .ow _ :: r, x, vs => ∃ v vs', vs = v :: vs' ∧ Qa9 w ok r x vs'
def Qc3 (w : World) (ok : Ok) : (ks : List CK) → (tupT (pay ks)).den → List Value → List Nat → Prop
 | [], _, vs, bs => vs = [] ∧ bs = []
 | .cst c :: ks, p, vs, bs => ∃ v vs', vs = v :: vs' ∧ RepC w ok noι noN c v ∧ Qc3 w ok ks p vs' bs
 | .dat t :: ks, p, vs, bs => ∃ v vs', vs = v :: vs' ∧ RepD w ok t (thd t (pay ks) p) [v] ∧ Qc3 w ok ks (ttl t (pay ks) p) vs' bs
 | .own t _ mu :: ks, p, vs, bs => ∃ v vs' bs', vs = v :: vs' ∧ bs = (blk v).toList ++ bs' ∧ QN w ok noι noN (.arr t (thd (.sl t) (pay ks) p) mu) v ∧ Qc3 w ok ks (ttl (.sl t) (pay ks) p) vs' bs'
def Qqm (w : World) (ok : Ok) (ag : Bool) (ks : List CK) (p : (tupT (pay ks)).den) (v : Value) (bs : List Nat) : Prop :=
 match ag with
 | false => ks.length = 1 ∧ Qc3 w ok ks p [v] bs
 | true => ∃ vs : List Value, v = .agg vs.toArray ∧ Qc3 w ok ks p vs bs
def Qfn (w : World) (ok : Ok) : (l : List (Bool × List CK)) → (tupT (JV l)).den → List Value → List Nat → Prop
 | [], _, vs, bs => vs = [] ∧ bs = []
 | (ag, ks) :: r, p, vs, bs => ∃ v vs' b1 b2, vs = v :: vs' ∧ bs = b1 ++ b2 ∧ Qqm w ok ag ks (tfst (pay ks) (JV r) p) v b1 ∧ Qfn w ok r (tsnd (pay ks) (JV r) p) vs' b2
def VP : List PK → List Value → List Nat
 | .box _ :: r, v :: vs => (blk v).toList ++ VP r vs
 | .fn _ _ :: r, .func _ _ cs :: vs => (cs.toList.flatMap fun v => (blk v).toList) ++ VP r vs
 | _ :: r, _ :: vs => VP r vs
 | _, _ => []
def tupV : List Value → Value
 | [v] => v
 | l => .tuple l.toArray
def Ends (P : Program) (f : FuncId) (args : Array Value) (w : World) (R : Value → World → Prop) : Prop :=
 match (callFunc f args).run P w with
 | .ok (.value v) w' => R v w'
 | .ok (.enter g as) w' => Calls P g as w' fun e w'' => ∃ v, e = .returned v ∧ R v w''
 | _ => False
structure Qmv (w : World) (bs : List Nat) (ok : Ok) (sig : Sig) (args : List Value) (r : sig.outs.den) (v : Value) (w' : World) (ok' : Ok) (vs : List Value) (rbs : List Nat) : Prop where
 val : v = tupV vs
 keep : Qmt ⟨w, bs, ok, []⟩ ok' w'
 oks : ∀ b o, ok' b o → b < w'.heap.size
 res : Qfn w' ok' sig.res (tfst (JV sig.res) (Je sig.pars) r) vs rbs
 outs : Qa9 w' ok' sig.pars (tsnd (JV sig.res) (Je sig.pars) r) args
 nodup : rbs.Nodup
 pls : Pls ⟨w, bs, ok, []⟩ ok' w'
 new : ∀ b ∈ rbs, (w.heap.size ≤ b ∨ b ∈ bs) ∧ b ∉ VP sig.pars args
def QqV : List Int := [0, 1, 28, 2, 29, 14, 24, 3, 30, 22, 20, 15, 25, 17, 4, 8, 31, 27, 13, 23, 21, 19, 16, 7, 26, 12, 18, 6, 11, 5, 10, 9]
structure GOk (P : Program) (w : World) (ok : Nat → Nat → Prop) : Prop where
 tab : ∀ g, P.globalNamed "math/bits.deBruijn32tab" = some g → ∀ j, j < 32 → ok g j ∧ w.cell? ⟨g, j, none⟩ = some (.int .u8 (QqV.getD j 0))
 pow : ∀ g, P.globalNamed "internal/strconv.uint64pow10" = some g → ∀ j, j < 20 → ok g j ∧ w.cell? ⟨g, j, none⟩ = some (.int .u64 ((10 ^ j : Nat) : Int))
 err : ∀ g, P.globalNamed "strconv.ErrRange" = some g → ok g 0 ∧ ∃ te pe, w.cell? ⟨g, 0, none⟩ = some (.iface te pe)
def Qpk (P : Program) : Bool := (P.globalNamed "internal/strconv.uint64pow10").isNone && (P.globalNamed "strconv.ErrRange").isNone
def Qno (P : Program) : Bool := (P.globalNamed "math/bits.deBruijn32tab").isNone && Qpk P
def QlT (P : Program) (S : Summ) : Prop :=
 ∀ m p r, S.fn m p = some r → ∀ w (ok : Ok) args bs cs, GOk P w ok.p → VQ w ok S.sig.pars p args bs → bs.Nodup → (∀ b o, ok b o → b < w.heap.size) → Pls ⟨w, bs ++ cs, ok, []⟩ ok w → (QbI S.sig.pars = true → ∀ b o, ¬ok.c b o) →
  Ends P S.f args.toArray w fun v w' => ∃ ok' vs rbs, Qmv w (bs ++ cs) ok S.sig args r v w' ok' vs rbs
def Qpt (P : Program) (F : Fr) (S : Summ) : Prop :=
 ∀ m p r, S.fn m p = some r → ∀ w (ok : Ok) args bs cs, (∀ b o, F.ok0.p b o → ok.p b o ∧ w.cell? ⟨b, o, none⟩ = F.w0.cell? ⟨b, o, none⟩) → VQ w ok S.sig.pars p args bs → bs.Nodup → (∀ b o, ok b o → b < w.heap.size) → Pls ⟨w, bs ++ cs, ok, []⟩ ok w → (QbI S.sig.pars = true → ∀ b o, ¬ok.c b o) →
  Ends P S.f args.toArray w fun v w' => ∃ ok' vs rbs, Qmv w (bs ++ cs) ok S.sig args r v w' ok' vs rbs
def QlS (P : Program) (f : FuncId) (t : Ty) (fn : Fu → List t.den × Int → Option (Int × Int)) : Prop :=
 ∀ m (xs : List t.den) n q, fn m (xs, n) = some q → 0 < List.length xs ∧ ∀ w b o cap, List.length xs ≤ cap → List.length xs ≤ big → IntKind.i64.wrap n = n →
  Ends P f #[.agg #[.slice (some ⟨b, o, none⟩) (List.length xs) cap], .int .i64 n] w fun v w' => (∃ c', v = .slice (some ⟨b, o + q.1.toNat * t.sz, none⟩) q.2.toNat c') ∧ QkY w w'
def Qom (P : Program) (f : FuncId) (k : Nat) (fn : Fu → Int × Int → Option Int) : Prop :=
 ∀ m y n z, fn m (y, n) = some z → IntKind.i64.wrap z = z ∧ ∀ w B, w.cell? ⟨B, k, none⟩ = some (.int .i64 y) → IntKind.i64.wrap y = y → IntKind.i64.wrap n = n →
  Ends P f #[.pointer (some ⟨B, 0, none⟩), .int .i64 n] w fun v w' => v = .int .i64 z ∧ QkY w w'
def QiE (P : Program) (f : FuncId) : Spc → Prop
 | .win t fn => QlS P f t fn
 | .rd k fn => Qom P f k fn
def Qal (P : Program) (S : Summ) : Prop := match Qey S with
 | some x => QiE P S.f x
 | none => QlT P S
def Qau (P : Program) (F : Fr) (S : Summ) : Prop := match Qey S with
 | some x => QiE P S.f x
 | none => Qpt P F S
theorem Qmx {S : Summ} (h : ∀ ks, S.sig.res ≠ [(true, ks)]) : Qey S = none := by
 unfold Qey
 split
 ·exact absurd rfl (h _)
 ·exact absurd rfl (h _)
 ·rfl
theorem Qal.plain {P : Program} {S : Summ} (h : Qal P S) (hw : Qey S = none) : QlT P S := by
 unfold Qal at h
 rw [hw] at h
 exact h
theorem GOk.mono {P : Program} {w w' : World} {ok ok' : Nat → Nat → Prop} (h : GOk P w ok) (hk : ∀ b o, ok b o → ok' b o ∧ w'.cell? ⟨b, o, none⟩ = w.cell? ⟨b, o, none⟩) : GOk P w' ok' where
 tab g hg j hj := by
  obtain ⟨h1, h2⟩ := h.tab g hg j hj
  obtain ⟨h3, h4⟩ := hk g j h1
  exact ⟨h3, h4.trans h2⟩
 pow g hg j hj := by
  obtain ⟨h1, h2⟩ := h.pow g hg j hj
  obtain ⟨h3, h4⟩ := hk g j h1
  exact ⟨h3, h4.trans h2⟩
 err g hg := by
  obtain ⟨h1, te, pe, h2⟩ := h.err g hg
  obtain ⟨h3, h4⟩ := hk g 0 h1
  exact ⟨h3, te, pe, h4.trans h2⟩
theorem Qgl {α : Type} {x : Option α} (h : x.isNone = true) : x = none := by cases x <;> simp_all
theorem GOk.none {P : Program} {w : World} {ok : Nat → Nat → Prop} (h : Qno P = true) : GOk P w ok := by
 unfold Qno Qpk at h
 simp only [Bool.and_eq_true] at h
 obtain ⟨h1, h2, h3⟩ := h
 exact ⟨fun g hg => (by rw [Qgl h1] at hg; cases hg), fun g hg => (by rw [Qgl h2] at hg; cases hg), fun g hg => (by rw [Qgl h3] at hg; cases hg)⟩
theorem Qal.at {P : Program} {S : Summ} (h : Qal P S) {F : Fr} (hG : GOk P F.w0 F.ok0.p) : Qau P F S := by
 unfold Qal at h
 unfold Qau
 split
 ·rename_i x hx
  rw [hx] at h
  exact h
 ·rename_i hx
  rw [hx] at h
  exact fun m p r hr w ok args bs cs hk => h m p r hr w ok args bs cs (hG.mono hk)
section
variable {P : Program} {R : Type} {F : Fr} {ι : Nat → Value} {ok : Ok} {N : Nat → Prop} {σ : St} {a : Act} {w : World} {o : Oper} {r : R}
theorem Qdj {Q : St → St → Prop} (hr : ∀ σ, Q σ σ) (ht : ∀ a b c, Q a b → Q b c → Q a c) (h1 : ∀ σ c, Q σ (σ.freeze1 c)) : ∀ (l : List Cell) (σ : St), Q σ (σ.freeze l)
 | [], σ => hr σ
 | c :: r, σ => ht _ _ _ (h1 σ c) (Qdj hr ht h1 r _)
theorem QbA {Q : St → St → Prop} (hr : ∀ σ, Q σ σ) (ht : ∀ a b c, Q a b → Q b c → Q a c) (h1 : ∀ σ c, Q σ (σ.freeze1 c)) : ∀ (l : List Nat) (σ : St), Q σ (freezeBoxes σ l)
 | [], σ => hr σ
 | id :: r, σ => by
  refine ht _ _ _ ?_ (QbA hr ht h1 r _)
  unfold J6
  split
  ·exact Qdj hr ht h1 _ _
  ·exact hr _
theorem Qdu {Q : St → St → Prop} (hr : ∀ σ, Q σ σ) (ht : ∀ a b c, Q a b → Q b c → Q a c) (h1 : ∀ σ c, Q σ (σ.freeze1 c)) : ∀ (ks : List PK) (vs : List AV) (σ : St), Q σ (freezeArgs σ ks vs) := by
 intro ks
 induction ks with
 | nil => intro vs σ; exact hr _
 | cons k r ih =>
  intro vs σ
  cases vs with
  | nil => cases k <;> exact hr _
  | cons v vs =>
   cases k with
   | val ag ts => cases v with
    | val x => exact ht _ _ _ (Qdj hr ht h1 x.cells σ) (ih vs _)
    | tup l => exact ih vs σ
   | own t => cases v with
    | val x => exact ht _ _ _ (Qdj hr ht h1 x.cells σ) (ih vs _)
    | tup l => exact ih vs σ
   | ow t => cases v <;> exact ih vs σ
   | box ts =>
    cases v with
    | tup l => exact ih vs σ
    | val x => cases x with
     | agg cs => exact ih vs σ
     | one c => cases c with
      | ptr id off => exact ht _ _ _ (QbA hr ht h1 [id] σ) (ih vs _)
      | _ => exact ih vs σ
   | fn f caps =>
    cases v with
    | tup l => exact ih vs σ
    | val x => cases x with
     | agg cs => exact ih vs σ
     | one c => cases c with
      | fn g ps => exact ht _ _ _ (QbA hr ht h1 (fsts ps) σ) (ih vs _)
      | _ => exact ih vs σ
theorem Qdv (ks : List PK) (vs : List AV) (σ : St) : Zp σ (freezeArgs σ ks vs) :=
 Qdu Zp.refl (fun _ _ _ => Zp.trans) Zp.freeze1 ks vs σ
theorem Qmg (σ : St) (c : Cell) (i : Nat) (o : AO) (h : (σ.freeze1 c).ob i = some o) : ∃ o', σ.ob i = some o' := by
 unfold St.freeze1 at h
 split at h
 ·split at h
  ·rename_i id _ t xs hl
   by_cases e : id = i
   ·subst e; exact ⟨.arr t xs .wr, hl⟩
   ·exact ⟨o, by simpa [St.ob, Q8, e] using h⟩
  ·exact ⟨o, h⟩
 ·exact ⟨o, h⟩
theorem Qin (ks : List PK) (vs : List AV) (σ : St) : ∀ i o, (freezeArgs σ ks vs).ob i = some o → ∃ o', σ.ob i = some o' :=
 Qdu (Q := fun σ σ' => ∀ i o, σ'.ob i = some o → ∃ o', σ.ob i = some o') (fun _ _ o h => ⟨o, h⟩) (fun a b c h1 h2 i o h => by obtain ⟨o', h'⟩ := h2 i o h; exact h1 i o' h') Qmg ks vs σ
theorem Sim.freezeBoxes : ∀ (l : List Nat) {ok : Ok} {σ : St}, Sim F ι ok N σ a w → ∃ ok', Sim F ι ok' N (freezeBoxes σ l) a w ∧ ok.Le ok'
 | [], ok, σ, h => ⟨ok, h, Ok.Le.refl ok⟩
 | id :: r, ok, σ, h => by
  have h1 : ∃ ok', Sim F ι ok' N (J6 σ id) a w ∧ ok.Le ok' := by
   unfold J6
   split
   ·exact Sim.freeze _ h
   ·exact ⟨ok, h, Ok.Le.refl ok⟩
  obtain ⟨ok1, h1, l1⟩ := h1
  obtain ⟨ok2, h2, l2⟩ := Sim.freezeBoxes r h1
  exact ⟨ok2, h2, l1.trans l2⟩
theorem Sim.freezeArgs : ∀ (ks : List PK) (vs : List AV) {ok : Ok} {σ : St}, Sim F ι ok N σ a w → ∃ ok', Sim F ι ok' N (freezeArgs σ ks vs) a w ∧ ok.Le ok' := by
 intro ks
 have key : ∀ (r : List PK) (vs : List AV), (∀ (vs : List AV) {ok : Ok} {σ : St}, Sim F ι ok N σ a w → ∃ ok', Sim F ι ok' N (Abs.freezeArgs σ r vs) a w ∧ ok.Le ok') →
   ∀ {ok : Ok} {σ : St}, (∃ ok1, Sim F ι ok1 N σ a w ∧ ok.Le ok1) → ∃ ok', Sim F ι ok' N (Abs.freezeArgs σ r vs) a w ∧ ok.Le ok' := by
  intro r vs ih ok σ ⟨ok1, h1, l1⟩
  obtain ⟨ok2, h2, l2⟩ := ih vs h1
  exact ⟨ok2, h2, l1.trans l2⟩
 induction ks with
 | nil => intro vs ok σ h; exact ⟨ok, h, Ok.Le.refl ok⟩
 | cons k r ih =>
  intro vs ok σ h
  cases vs with
  | nil => cases k <;> exact ⟨ok, h, Ok.Le.refl ok⟩
  | cons v vs =>
   cases k with
   | val ag ts => cases v with
    | val x => exact key r vs ih (Sim.freeze x.cells h)
    | tup l => exact ih vs h
   | own t => cases v with
    | val x => exact key r vs ih (Sim.freeze x.cells h)
    | tup l => exact ih vs h
   | ow t => cases v <;> exact ih vs h
   | box ts =>
    cases v with
    | tup l => exact ih vs h
    | val x => cases x with
     | agg cs => exact ih vs h
     | one c => cases c with
      | ptr id off => exact key r vs ih (Sim.freezeBoxes [id] h)
      | _ => exact ih vs h
   | fn f caps =>
    cases v with
    | tup l => exact ih vs h
    | val x => cases x with
     | agg cs => exact ih vs h
     | one c => cases c with
      | fn g ps => exact key r vs ih (Sim.freezeBoxes (fsts ps) h)
      | _ => exact ih vs h
end
end Go.Abs
namespace Go.Abs
theorem Qax (t : Ty) : ∀ (r : List Ty) (x : t.den) (y : (tupT r).den), thd t r (QhS t r x y) = x
 | [], _, _ => rfl
 | _ :: _, _, _ => rfl
theorem VE (t : Ty) : ∀ (r : List Ty) (x : t.den) (y : (tupT r).den), ttl t r (QhS t r x y) = y
 | [], _, _ => rfl
 | _ :: _, _, _ => rfl
theorem Qah : ∀ (a b : List Ty) (x : (tupT a).den) (y : (tupT b).den), tfst a b (tapp a b x y) = x
 | [], _, _, _ => rfl
 | t :: r, b, x, y => by
  simp only [tfst, tapp, Qax, VE, Qah r b]
  cases r <;> rfl
theorem Qag : ∀ (a b : List Ty) (x : (tupT a).den) (y : (tupT b).den), tsnd a b (tapp a b x y) = y
 | [], _, _, _ => rfl
 | t :: r, b, x, y => by
  simp only [tsnd, tapp, VE, Qag r b]
section
variable {P : Program} {R : Type} {F : Fr} {ι : Nat → Value} {ok : Ok} {N : Nat → Prop} {σ : St} {a : Act} {w : World} {o : Oper} {r : R}
theorem Qbk (h : Sim F ι ok N σ a w) : ∀ {ts : List Ty} {cs : List Cell} {x : (tupT ts).den} {vs : List Value}, Qa3 σ ts cs = some x → All2 (RepC w ok ι N) cs vs → QbG w ok ts x vs
 | [], [], x, [], _, _ => rfl
 | [], [], x, _ :: _, _, hv => hv.elim
 | [], _ :: _, x, vs, hg, _ => by simp [Qa3] at hg
 | _ :: _, [], x, vs, hg, _ => by simp [Qa3] at hg
 | t :: r, c :: cs, x, [], _, hv => hv.elim
 | t :: r, c :: cs, x, v :: vs, hg, hv => by
  simp only [Qa3] at hg
  split at hg
  ·rename_i y hy
   split at hg
   ·rename_i z hz
    cases hg
    exact ⟨v, vs, rfl, by rw [Qax]; exact h.toDatS hy hv.1, by rw [VE]; exact Qbk h hz hv.2⟩
   ·cases hg
  ·cases hg
theorem QaC {id : Nat} {cs : List Cell} (h : Q4 σ id = some cs) : σ.ob id = some (.box cs) := by
 unfold Q4 at h
 split at h
 ·rename_i cs' ho; cases h; exact ho
 ·cases h
theorem QlG (h : Sim F ι ok N σ a w) {id : Nat} {cs : List Cell} {ts : List Ty} {x : (tupT ts).den} (hc : Q4 σ id = some cs) (hg : Qa3 σ ts cs = some x) : ∃ B, blk (ι id) = some B ∧ Qbc w ok ts x (ι id) B := by
 obtain ⟨_, ⟨B, c, T, hV, h1, h2, h3⟩, _⟩ := h.objs id _ (QaC hc)
 exact ⟨B, by rw [hV]; rfl, hV, c, T, h1, Qbk h hg h2, h3⟩
def bsOf (ι : Nat → Value) (ids : List Nat) : List Nat := ids.flatMap fun id => (blk (ι id)).toList
theorem QlF (ι : Nat → Value) (a b : List Nat) : bsOf ι (app a b) = bsOf ι a ++ bsOf ι b := by rw [Qm]; simp [bsOf]
theorem QcQ (h : Sim F ι ok N σ a w) : ∀ {caps : List (List Ty)} {ps : List (Nat × Nat)} {x : (tupT (Z4 caps)).den} {vs : List Value}, Qbf σ caps ps = some x → All2 (Qcf ι N) ps vs →
  QaT w ok caps x vs (bsOf ι (fsts ps)) ∧ ∀ id ∈ fsts ps, ∃ cs, σ.ob id = some (.box cs)
 | [], [], x, [], _, _ => ⟨⟨rfl, rfl⟩, fun id hi => by cases hi⟩
 | [], [], x, _ :: _, _, hv => hv.elim
 | [], _ :: _, x, vs, hg, _ => by simp [Qbf] at hg
 | _ :: _, [], x, vs, hg, _ => by simp [Qbf] at hg
 | t :: r, c :: cs, x, [], _, hv => hv.elim
 | ts :: r, (id, off) :: ps, x, v :: vs, hg, hv => by
  simp only [Qbf] at hg
  cases hb : Nat.beq off 0 with
  | false => simp [hb] at hg
  | true =>
   simp only [hb, cond_true] at hg
   have hb := Nat.eq_of_beq_eq_true hb
   subst hb
   split at hg
   ·rename_i cs hcs
    split at hg
    ·rename_i y hy
     split at hg
     ·rename_i z hz
      cases hg
      obtain ⟨B, hB, hrep⟩ := QlG h hcs hy
      obtain ⟨q1, q2⟩ := QcQ h hz hv.2
      have hvi : v = ι id := by
       obtain ⟨_, B', e1, e2⟩ := hv.1
       rw [e2]; exact e1.symm
      refine ⟨⟨v, vs, B, bsOf ι (fsts ps), rfl, by simp [bsOf, fsts, hB], by rw [Qah, hvi]; exact hrep, by rw [Qag]; exact q1⟩, fun i hi => ?_⟩
      rcases List.mem_cons.1 hi with rfl | hi
      ·exact ⟨cs, QaC hcs⟩
      ·exact q2 i hi
     ·cases hg
    ·cases hg
   ·cases hg
def QdI (ln : Bool) (ok : Ok) : Nat → Nat → Prop := fun b o => ok.p b o ∨ (ln = true ∧ ok.c b o)
theorem Qee {ln : Bool} {b o : Nat} (h : QdI ln ok b o) : ok b o := by
 rcases h with h | h
 ·exact .inl h
 ·exact .inr (.inl h.2)
theorem Qkp {ln : Bool} {b o : Nat} (h : (Ok.of (QdI ln ok)) b o) : QdI ln ok b o := by
 rcases h with h | h | h
 ·exact h
 ·exact h.elim
 ·exact h.elim
theorem QbG.toP (ln : Bool) : ∀ {ts : List Ty} {x : (tupT ts).den} {vs : List Value}, Qid ts = true → QbG w ok ts x vs → QbG w (Ok.of (QdI ln ok)) ts x vs
 | [], _, _, _, h => h
 | t :: r, x, vs, hn, h => by
  simp only [Qid, Bool.and_eq_true] at hn
  obtain ⟨v, vs', e, h1, h2⟩ := h
  exact ⟨v, vs', e, RepD.toP (fun _ _ h => .inl h) hn.1 h1, QbG.toP ln hn.2 h2⟩
theorem Qbc.toP (ln : Bool) {ts : List Ty} {x : (tupT ts).den} {v : Value} {B : Nat} (hn : Qid ts = true) (h : Qbc w ok ts x v B) : Qbc w (Ok.of (QdI ln ok)) ts x v B := by
 obtain ⟨e, c, T, h1, h2, h3⟩ := h
 exact ⟨e, c, T, h1, QbG.toP ln hn h2, fun j hj => h3 j (Qee (Qkp hj))⟩
theorem QaT.toP (ln : Bool) : ∀ {caps : List (List Ty)} {x : (tupT (Z4 caps)).den} {vs : List Value} {bs : List Nat}, Qlh.go caps = true → QaT w ok caps x vs bs → QaT w (Ok.of (QdI ln ok)) caps x vs bs
 | [], _, _, _, _, h => h
 | ts :: r, x, vs, bs, hn, h => by
  simp only [Qlh.go, Bool.and_eq_true] at hn
  obtain ⟨v, vs', B, bs', e1, e2, h1, h2⟩ := h
  exact ⟨v, vs', B, bs', e1, e2, Qbc.toP ln hn.1 h1, QaT.toP ln hn.2 h2⟩
theorem QN.toP (ln : Bool) {t : Ty} {xs : List t.den} {V : Value} {ι : Nat → Value} {N : Nat → Prop} (hn : noPl t = true) (h : QN w ok ι N (.arr t xs .fr) V) : QN w (Ok.of (QdI ln ok)) ι N (.arr t xs .fr) V := by
 obtain ⟨A, cap, hV, l1, l2, h3⟩ := h
 refine ⟨A, cap, hV, l1, l2, ?_⟩
 rcases h3 with h3 | ⟨b, o, hA, C, T, fz, m1, m2, m3, ⟨us, m4, m5⟩, m6, m7⟩
 ·exact .inl h3
 ·refine .inr ⟨b, o, hA, C, T, fz, m1, m2, m3, ⟨us, Reps.mono (fun _ _ hr => RepD.toP (fun _ _ h => .inl h) hn hr) m4, m5⟩, (fun hm => by cases hm), fun hm => ⟨fun j hj => ⟨((m7 hm).1 j (Qee (Qkp hj))).1, fun k => k, fun k => k⟩, fun j hj => .inl ((m7 hm).2 j hj)⟩⟩
theorem QN.toPw (ln : Bool) {t : Ty} {xs : List t.den} {V : Value} {ι : Nat → Value} {N : Nat → Prop} (hn : noPl t = true) (h : QN w ok ι N (.arr t xs .wr) V) : QN w (Ok.of (QdI ln ok)) ι N (.arr t xs .wr) V := by
 obtain ⟨A, cap, hV, l1, l2, h3⟩ := h
 refine ⟨A, cap, hV, l1, l2, ?_⟩
 rcases h3 with h3 | ⟨b, o, hA, C, T, fz, m1, m2, m3, ⟨us, m4, m5⟩, m6, m7⟩
 ·exact .inl h3
 ·exact .inr ⟨b, o, hA, C, T, fz, m1, m2, m3, ⟨us, Reps.mono (fun _ _ hr => RepD.toP (fun _ _ h => .inl h) hn hr) m4, m5⟩, fun hm j hj => m6 hm j (Qee (Qkp hj)), fun hm => by cases hm⟩
theorem Sim.toDatL (h : Sim F ι ok N σ a w) {c : Cell} {t : Ty} {x : t.den} {v : Value} (hn : noPl t = true) (hc : c.toDatL σ t = some x) (hv : RepC w ok ι N c v) : RepD w (Ok.of (QdI true ok)) t x [v] := by
 have hq : ∀ b o, ok.p b o ∨ ok.c b o → QdI true ok b o := fun b o h => h.imp id fun h => ⟨rfl, h⟩
 have base : ∀ {c : Cell}, c.toDatS σ t = some x → RepC w ok ι N c v → RepD w (Ok.of (QdI true ok)) t x [v] := fun hc hv => RepD.toP (fun _ _ h => .inl h) hn (h.toDatS hc hv)
 cases c with
 | dat u y => exact RepD.lend hq (show u.lend t y = some x from hc) hv
 | own e id =>
  simp only [Cell.toDatL] at hc
  split at hc
  ·rename_i e' xs ho
   cases hb : e'.beq e with
   | false => simp [hb] at hc
   | true =>
    simp only [hb, cond_true] at hc
    obtain ⟨_, g2, _⟩ := h.objs id _ ho
    rw [hv.2.1]
    exact RepD.lend hq hc (QN.dat g2)
  ·cases hc
 | _ => simp only [Cell.toDatL] at hc; exact base hc hv
theorem QdK (h : Sim F ι ok N σ a w) : ∀ {ts : List Ty} {cs : List Cell} {x : (tupT ts).den} {vs : List Value}, Qid ts = true → QbP σ ts cs = some x → All2 (RepC w ok ι N) cs vs → QbG w (Ok.of (QdI true ok)) ts x vs
 | [], [], x, [], _, _, _ => rfl
 | [], [], x, _ :: _, _, _, hv => hv.elim
 | [], _ :: _, x, vs, _, hg, _ => by simp [QbP] at hg
 | _ :: _, [], x, vs, _, hg, _ => by simp [QbP] at hg
 | _ :: _, _ :: _, x, [], _, _, hv => hv.elim
 | t :: r, c :: cs, x, v :: vs, hn, hg, hv => by
  simp only [Qid, Bool.and_eq_true] at hn
  simp only [QbP] at hg
  split at hg
  ·rename_i y hy
   split at hg
   ·rename_i z hz
    cases hg
    exact ⟨v, vs, rfl, by rw [Qax]; exact h.toDatL hn.1 hy hv.1, by rw [VE]; exact QdK h hn.2 hz hv.2⟩
   ·cases hg
  ·cases hg
theorem All2.one {α β : Type} {Q : α → β → Prop} {a : α} {b : β} (h : Q a b) : All2 Q [a] [b] := ⟨h, trivial⟩
theorem Qky (h : Sim F ι ok N σ a w) {ln : Bool} {k : PK} (hno : Qlh k = true) {x : AV} {p : (tupT (pkTs k)).den} {v : Value} (hg : Zb ln σ k x = some p) (hv : QR w ok ι N x v) :
  QgZ w (Ok.of (QdI ln ok)) k p v (bsOf ι (QaH k x)) ∧ ∀ id ∈ QaH k x, ∃ o, σ.ob id = some o := by
 cases k with
 | val ag ts =>
  have e : QaH (.val ag ts) x = [] := by unfold QaH; rfl
  cases ag with
  | false =>
   cases x with
   | tup l => simp [Zb] at hg
   | val x => cases x with
    | agg cs => simp [Zb] at hg
    | one c =>
     cases ln with
     | false => exact ⟨⟨rfl, QbG.toP false hno (Qbk h hg (All2.one hv))⟩, fun id hi => by rw [e] at hi; cases hi⟩
     | true => exact ⟨⟨rfl, QdK h hno hg (All2.one hv)⟩, fun id hi => by rw [e] at hi; cases hi⟩
  | true =>
   cases x with
   | tup l => simp [Zb] at hg
   | val x => cases x with
    | one c => simp [Zb] at hg
    | agg cs =>
     obtain ⟨vs, e1, h1⟩ := hv
     cases ln with
     | false => exact ⟨⟨rfl, vs, e1, QbG.toP false hno (Qbk h hg h1)⟩, fun id hi => by rw [e] at hi; cases hi⟩
     | true => exact ⟨⟨rfl, vs, e1, QdK h hno hg h1⟩, fun id hi => by rw [e] at hi; cases hi⟩
 | own t =>
  cases x with
  | tup l => simp [Zb] at hg
  | val x => cases x with
   | agg cs => simp [Zb] at hg
   | one c =>
    cases c with
    | nils =>
     change some ([] : List t.den) = some p at hg
     cases hg
     cases (show v = _ from hv)
     exact ⟨⟨rfl, none, 0, rfl, Nat.le_refl _, Nat.zero_le _, .inl ⟨rfl, rfl, rfl⟩⟩, fun id hi => by cases hi⟩
    | own e id =>
     simp only [Zb, Cell.toOwnF] at hg
     split at hg
     ·rename_i e' xs ho
      cases hb : e'.beq e with
      | false => simp [hb] at hg
      | true =>
       simp only [hb, cond_true] at hg
       obtain ⟨e1, hx⟩ := Ty.to_some hg
       cases e1; subst hx
       obtain ⟨_, g2, _⟩ := h.objs id _ ho
       rw [hv.2.1]
       exact ⟨⟨by simp [bsOf, QaH], QN.toP ln hno g2⟩, fun i hi => by
        have : i = id := by simpa [QaH] using hi
        subst this; exact ⟨_, ho⟩⟩
     ·cases hg
    | _ => simp [Zb, Cell.toOwnF] at hg
 | ow t =>
  cases x with
  | tup l => simp [Zb] at hg
  | val x => cases x with
   | agg cs => simp [Zb] at hg
   | one c =>
    cases c with
    | nils =>
     change some ([] : List t.den) = some p at hg
     cases hg
     cases (show v = _ from hv)
     exact ⟨⟨rfl, none, 0, rfl, Nat.le_refl _, Nat.zero_le _, .inl ⟨rfl, rfl, rfl⟩⟩, fun id hi => by cases hi⟩
    | own e id =>
     simp only [Zb, Cell.toOwnW] at hg
     split at hg
     ·rename_i e' xs ho
      cases hb : e'.beq e with
      | false => simp [hb] at hg
      | true =>
       simp only [hb, cond_true] at hg
       obtain ⟨e1, hx⟩ := Ty.to_some hg
       cases e1; subst hx
       obtain ⟨_, g2, _⟩ := h.objs id _ ho
       rw [hv.2.1]
       exact ⟨⟨by simp [bsOf, QaH], QN.toPw ln hno g2⟩, fun i hi => by
        have : i = id := by simpa [QaH] using hi
        subst this; exact ⟨_, ho⟩⟩
     ·cases hg
    | _ => simp [Zb, Cell.toOwnW] at hg
 | box ts =>
  cases x with
  | tup l => simp [Zb] at hg
  | val x => cases x with
   | agg cs => simp [Zb] at hg
   | one c =>
    cases c with
    | ptr id off =>
     simp only [Zb] at hg
     cases hb : Nat.beq off 0 with
     | false => simp [hb] at hg
     | true =>
      simp only [hb, cond_true] at hg
      have hb := Nat.eq_of_beq_eq_true hb
      subst hb
      split at hg
      ·rename_i cs hcs
       obtain ⟨B, hB, hrep⟩ := QlG h hcs hg
       have hvi : v = ι id := by
        obtain ⟨_, B', e1, e2⟩ := hv
        rw [e2]; exact e1.symm
       rw [hvi]
       exact ⟨⟨B, by simp [bsOf, QaH, hB], Qbc.toP ln hno hrep⟩, fun i hi => by
        have : i = id := by simpa [QaH] using hi
        subst this; exact ⟨_, QaC hcs⟩⟩
      ·cases hg
    | _ => simp [Zb] at hg
 | fn f caps =>
  cases x with
  | tup l => simp [Zb] at hg
  | val x => cases x with
   | agg cs => simp [Zb] at hg
   | one c =>
    cases c with
    | fn g ps =>
     simp only [Zb] at hg
     cases hb : Nat.beq f g with
     | false => simp [hb] at hg
     | true =>
      simp only [hb, cond_true] at hg
      have hb := Nat.eq_of_beq_eq_true hb
      subst hb
      obtain ⟨vs, e1, h1⟩ := hv
      obtain ⟨q1, q2⟩ := QcQ h hg h1
      exact ⟨⟨vs, e1, QaT.toP ln hno q1⟩, fun i hi => by obtain ⟨cs, hcs⟩ := q2 i hi; exact ⟨_, hcs⟩⟩
    | _ => simp [Zb] at hg
theorem Qfd (h : Sim F ι ok N σ a w) {ln : Bool} : ∀ {ks : List PK} {xs : List AV} {p : (tupT (insL ks)).den} {vs : List Value}, QbI ks = true → JP ln σ ks xs = some p → All2 (QR w ok ι N) xs vs →
  VQ w (Ok.of (QdI ln ok)) ks p vs (bsOf ι (held ks xs)) ∧ ∀ id ∈ held ks xs, ∃ o, σ.ob id = some o
 | [], [], x, [], _, _, _ => ⟨⟨rfl, rfl⟩, fun id hi => by cases hi⟩
 | [], [], x, _ :: _, _, _, hv => hv.elim
 | [], _ :: _, x, vs, _, hg, _ => by simp [JP] at hg
 | _ :: _, [], x, vs, _, hg, _ => by simp [JP] at hg
 | _ :: _, _ :: _, x, [], _, _, hv => hv.elim
 | k :: r, x :: xs, p, v :: vs, hno, hg, hv => by
  simp only [QbI, Bool.and_eq_true] at hno
  simp only [JP] at hg
  split at hg
  ·rename_i y hy
   split at hg
   ·rename_i z hz
    cases hg
    obtain ⟨q1, q2⟩ := Qky h hno.1 hy hv.1
    obtain ⟨q3, q4⟩ := Qfd h hno.2 hz hv.2
    refine ⟨⟨v, vs, bsOf ι (QaH k x), bsOf ι (held r xs), rfl, QlF _ _ _, by rw [Qah]; exact q1, by rw [Qag]; exact q3⟩, fun i hi => ?_⟩
    rw [held, Qm] at hi
    rcases List.mem_append.1 hi with hi | hi
    ·exact q2 i hi
    ·exact q4 i hi
   ·cases hg
  ·cases hg
theorem QjA (h : Sim F ι ok N σ a w) {k : PK} {x : AV} {p : (tupT (pkTs k)).den} {v : Value} (hg : Zb false σ k x = some p) (hv : QR w ok ι N x v) :
  QgZ w ok k p v (bsOf ι (QaH k x)) ∧ ∀ id ∈ QaH k x, ∃ o, σ.ob id = some o := by
 cases k with
 | val ag ts =>
  have e : QaH (.val ag ts) x = [] := by unfold QaH; rfl
  cases ag with
  | false =>
   cases x with
   | tup l => simp [Zb] at hg
   | val x => cases x with
    | agg cs => simp [Zb] at hg
    | one c =>
     exact ⟨⟨rfl, Qbk h hg (All2.one hv)⟩, fun id hi => by rw [e] at hi; cases hi⟩
  | true =>
   cases x with
   | tup l => simp [Zb] at hg
   | val x => cases x with
    | one c => simp [Zb] at hg
    | agg cs =>
     obtain ⟨vs, e1, h1⟩ := hv
     exact ⟨⟨rfl, vs, e1, Qbk h hg h1⟩, fun id hi => by rw [e] at hi; cases hi⟩
 | own t =>
  cases x with
  | tup l => simp [Zb] at hg
  | val x => cases x with
   | agg cs => simp [Zb] at hg
   | one c =>
    cases c with
    | nils =>
     change some ([] : List t.den) = some p at hg
     cases hg
     cases (show v = _ from hv)
     exact ⟨⟨rfl, none, 0, rfl, Nat.le_refl _, Nat.zero_le _, .inl ⟨rfl, rfl, rfl⟩⟩, fun id hi => by cases hi⟩
    | own e id =>
     simp only [Zb, Cell.toOwnF] at hg
     split at hg
     ·rename_i e' xs ho
      cases hb : e'.beq e with
      | false => simp [hb] at hg
      | true =>
       simp only [hb, cond_true] at hg
       obtain ⟨e1, hx⟩ := Ty.to_some hg
       cases e1; subst hx
       obtain ⟨_, g2, _⟩ := h.objs id _ ho
       rw [hv.2.1]
       exact ⟨⟨by simp [bsOf, QaH], g2⟩, fun i hi => by
        have : i = id := by simpa [QaH] using hi
        subst this; exact ⟨_, ho⟩⟩
     ·cases hg
    | _ => simp [Zb, Cell.toOwnF] at hg
 | ow t =>
  cases x with
  | tup l => simp [Zb] at hg
  | val x => cases x with
   | agg cs => simp [Zb] at hg
   | one c =>
    cases c with
    | nils =>
     change some ([] : List t.den) = some p at hg
     cases hg
     cases (show v = _ from hv)
     exact ⟨⟨rfl, none, 0, rfl, Nat.le_refl _, Nat.zero_le _, .inl ⟨rfl, rfl, rfl⟩⟩, fun id hi => by cases hi⟩
    | own e id =>
     simp only [Zb, Cell.toOwnW] at hg
     split at hg
     ·rename_i e' xs ho
      cases hb : e'.beq e with
      | false => simp [hb] at hg
      | true =>
       simp only [hb, cond_true] at hg
       obtain ⟨e1, hx⟩ := Ty.to_some hg
       cases e1; subst hx
       obtain ⟨_, g2, _⟩ := h.objs id _ ho
       rw [hv.2.1]
       exact ⟨⟨by simp [bsOf, QaH], g2⟩, fun i hi => by
        have : i = id := by simpa [QaH] using hi
        subst this; exact ⟨_, ho⟩⟩
     ·cases hg
    | _ => simp [Zb, Cell.toOwnW] at hg
 | box ts =>
  cases x with
  | tup l => simp [Zb] at hg
  | val x => cases x with
   | agg cs => simp [Zb] at hg
   | one c =>
    cases c with
    | ptr id off =>
     simp only [Zb] at hg
     cases hb : Nat.beq off 0 with
     | false => simp [hb] at hg
     | true =>
      simp only [hb, cond_true] at hg
      have hb := Nat.eq_of_beq_eq_true hb
      subst hb
      split at hg
      ·rename_i cs hcs
       obtain ⟨B, hB, hrep⟩ := QlG h hcs hg
       have hvi : v = ι id := by
        obtain ⟨_, B', e1, e2⟩ := hv
        rw [e2]; exact e1.symm
       rw [hvi]
       exact ⟨⟨B, by simp [bsOf, QaH, hB], hrep⟩, fun i hi => by
        have : i = id := by simpa [QaH] using hi
        subst this; exact ⟨_, QaC hcs⟩⟩
      ·cases hg
    | _ => simp [Zb] at hg
 | fn f caps =>
  cases x with
  | tup l => simp [Zb] at hg
  | val x => cases x with
   | agg cs => simp [Zb] at hg
   | one c =>
    cases c with
    | fn g ps =>
     simp only [Zb] at hg
     cases hb : Nat.beq f g with
     | false => simp [hb] at hg
     | true =>
      simp only [hb, cond_true] at hg
      have hb := Nat.eq_of_beq_eq_true hb
      subst hb
      obtain ⟨vs, e1, h1⟩ := hv
      obtain ⟨q1, q2⟩ := QcQ h hg h1
      exact ⟨⟨vs, e1, q1⟩, fun i hi => by obtain ⟨cs, hcs⟩ := q2 i hi; exact ⟨_, hcs⟩⟩
    | _ => simp [Zb] at hg
theorem Qei (h : Sim F ι ok N σ a w) : ∀ {ks : List PK} {xs : List AV} {p : (tupT (insL ks)).den} {vs : List Value}, JP false σ ks xs = some p → All2 (QR w ok ι N) xs vs →
  VQ w ok ks p vs (bsOf ι (held ks xs)) ∧ ∀ id ∈ held ks xs, ∃ o, σ.ob id = some o
 | [], [], x, [], _, _ => ⟨⟨rfl, rfl⟩, fun id hi => by cases hi⟩
 | [], [], x, _ :: _, _, hv => hv.elim
 | [], _ :: _, x, vs, hg, _ => by simp [JP] at hg
 | _ :: _, [], x, vs, hg, _ => by simp [JP] at hg
 | _ :: _, _ :: _, x, [], _, hv => hv.elim
 | k :: r, x :: xs, p, v :: vs, hg, hv => by
  simp only [JP] at hg
  split at hg
  ·rename_i y hy
   split at hg
   ·rename_i z hz
    cases hg
    obtain ⟨q1, q2⟩ := QjA h hy hv.1
    obtain ⟨q3, q4⟩ := Qei h hz hv.2
    refine ⟨⟨v, vs, bsOf ι (QaH k x), bsOf ι (held r xs), rfl, QlF _ _ _, by rw [Qah]; exact q1, by rw [Qag]; exact q3⟩, fun i hi => ?_⟩
    rw [held, Qm] at hi
    rcases List.mem_append.1 hi with hi | hi
    ·exact q2 i hi
    ·exact q4 i hi
   ·cases hg
  ·cases hg
theorem Qch (n : Nat) : ∀ l : List Nat, memB n l = true ↔ n ∈ l
 | [] => by simp [memB]
 | a :: r => by
  simp only [memB, Bool.or_eq_true, Qch n r, List.mem_cons]
  constructor
  ·rintro (h | h)
   ·exact .inl (Nat.eq_of_beq_eq_true h).symm
   ·exact .inr h
  ·rintro (h | h)
   ·subst h; simp
   ·exact .inr h
theorem Qb1 : ∀ l : List Nat, Qbt l = true ↔ l.Nodup
 | [] => by simp [Qbt]
 | a :: r => by
  simp only [Qbt, Bool.and_eq_true, Bool.not_eq_true', Qb1 r, List.nodup_cons]
  constructor
  ·rintro ⟨h1, h2⟩
   exact ⟨(fun hm => by rw [(Qch a r).2 hm] at h1; cases h1), h2⟩
  ·rintro ⟨h1, h2⟩
   refine ⟨?_, h2⟩
   cases hm : memB a r with
   | false => rfl
   | true => exact absurd ((Qch a r).1 hm) h1
theorem Sim.nodup (h : Sim F ι ok N σ a w) : ∀ {ids : List Nat}, ids.Nodup → (∀ id ∈ ids, ∃ o, σ.ob id = some o) → (bsOf ι ids).Nodup
 | [], _, _ => by simp [bsOf]
 | i :: r, hn, ho => by
  rw [List.nodup_cons] at hn
  have ih := Sim.nodup h hn.2 (fun id hi => ho id (List.mem_cons_of_mem _ hi))
  show ((blk (ι i)).toList ++ bsOf ι r).Nodup
  rw [List.nodup_append]
  refine ⟨by cases blk (ι i) <;> simp, ih, fun b hb c hc e => ?_⟩
  subst e
  have hb : blk (ι i) = some b := by simpa using hb
  simp only [bsOf, List.mem_flatMap] at hc
  obtain ⟨j, hj, hbj⟩ := hc
  have hbj : blk (ι j) = some b := by simpa using hbj
  obtain ⟨o1, h1⟩ := ho i (by simp)
  obtain ⟨o2, h2⟩ := ho j (List.mem_cons_of_mem _ hj)
  exact h.apart i j o1 o2 b h1 h2 (fun e => hn.1 (e ▸ hj)) hb hbj
end
end Go.Abs
namespace Go.Abs
section
variable {P : Program} {R : Type} {F : Fr} {ι : Nat → Value} {ok : Ok} {N : Nat → Prop} {σ : St} {a : Act} {w : World} {o : Oper} {r : R}
theorem Sim.after (h : Sim F ι ok N σ a w) {bs : List Nat} {ok1 : Ok} {ok2 : Ok} {w' : World} (hk : Qmt ⟨w, bs, ok1, []⟩ ok2 w') {okB : Ok} (hx : Ext w ok w' okB)
  (hbs : ∀ b ∈ bs, F.w0.heap.size ≤ b ∨ b ∈ F.S) (hA : ∀ b, b < w.heap.size → b ∉ bs → okB.At ok b) (hB : ∀ b j, okB b j → ok b j ∨ w.heap.size ≤ b ∨ b ∈ bs)
  (hpl : Pls F okB w') (hlt : ∀ b j, okB b j → b < w'.heap.size) {σ' : St} (htm : ∀ t, σ'.get t = σ.get t) (hn : σ'.n = σ.n)
  (hob : ∀ i p, σ'.ob i = some p → σ.ob i = some p ∧ ∀ b, blk (ι i) = some b → b ∉ bs) : Sim F ι okB N σ' a w' := by
 refine ⟨fun t => by rw [htm]; exact QR.mono hx (fun _ _ => rfl) (fun _ h => h) (h.tms t), fun i p hp => ?_, fun i j p q b hp hq => h.apart i j p q b (hob i p hp).1 (hob j q hq).1, hlt, ?_, by rw [hn]; exact h.size, h.defs, h.pins, hpl⟩
 ·obtain ⟨g0, gb⟩ := hob i p hp
  obtain ⟨g1, g2, g3⟩ := h.objs i p g0
  refine ⟨g1, QN.mono hx (fun _ _ => rfl) (fun _ h => h) (fun b hb => ?_) g2, g3⟩
  have hbl := g2.lt hb
  exact ⟨hk.old b hbl (gb b hb), hA b hbl (gb b hb)⟩
 ·obtain ⟨k1, k2, k3, k4, k5, k6, k7⟩ := h.keep
  obtain ⟨m1, m2, m3, m4, m5, m6, m7⟩ := hk
  refine ⟨Nat.le_trans k1 m1, fun b hb hs => ?_, m3.trans k3, m4.trans k4, m5.trans k5, fun b j hj => ⟨(hx.1 b j (k6 b j hj).1).1, ?_⟩, fun b j hj => ?_⟩
  ·rw [m2 b (Nat.lt_of_lt_of_le hb k1) (fun hm => by
    rcases hbs b hm with h | h
    ·exact absurd hb (Nat.not_lt.2 h)
    ·exact hs h)]
   exact k2 b hb hs
  ·rw [(hx.1 b j (k6 b j hj).1).2]; exact (k6 b j hj).2
  ·rcases hB b j hj with hh | hh | hh
   ·exact k7 b j hh
   ·exact .inr (.inl (Nat.le_trans k1 hh))
   ·exact .inr (hbs b hh)
theorem Sim.back {τ : St} {okT : Ok} {wT : World} (hT : Sim F ι okT N τ a wT) (h : Sim F ι ok N σ a w) (hsub : ∀ i p, σ.ob i = some p → ∃ p', τ.ob i = some p')
  {id : Nat} {o0 o1 : AO} (hid : τ.ob id = some o0) (ho : QN w ok ι N o1 (ι id)) : Sim F ι ok N (σ.set id o1) a w ∧ ∀ i p, (σ.set id o1).ob i = some p → ∃ p', τ.ob i = some p' := by
 have hs : ∀ i p, (σ.set id o1).ob i = some p → ∃ p', τ.ob i = some p' := fun i p hp => by
  rw [St.ob_set] at hp
  split at hp
  ·rename_i e; subst e; exact ⟨o0, hid⟩
  ·exact hsub i p hp
 refine ⟨⟨h.tms, fun i p hp => ?_, fun i j p q b hp hq hij hbi hbj => ?_, h.oks, h.keep, h.size, h.defs, h.pins, h.pls⟩, hs⟩
 ·rw [St.ob_set] at hp
  split at hp
  ·rename_i e; subst e; cases hp
   obtain ⟨g1, _, g3⟩ := hT.objs id o0 hid
   exact ⟨g1, ho, g3⟩
  ·exact h.objs i p hp
 ·obtain ⟨p', hp'⟩ := hs i p hp
  obtain ⟨q', hq'⟩ := hs j q hq
  exact hT.apart i j p' q' b hp' hq' hij hbi hbj
theorem QbL : ∀ {ts : List Ty} {x : (tupT ts).den} {vs : List Value}, QbG w ok ts x vs → All2 (RepC w ok ι N) (VT ts x) vs
 | [], x, vs, h => by cases (show vs = [] from h); trivial
 | t :: r, x, vs, ⟨v, vs', e, h1, h2⟩ => by subst e; exact ⟨h1, QbL h2⟩
theorem Qbc.obj {ts : List Ty} {x : (tupT ts).den} {v : Value} {B : Nat} (h : Qbc w ok ts x v B) : QN w ok ι N (.box (VT ts x)) v := by
 obtain ⟨e, c, T, h1, h2, h3⟩ := h
 exact ⟨B, c, T, e, h1, QbL h2, h3⟩
structure Qg7 (F : Fr) (ι : Nat → Value) (ok : Ok) (N : Nat → Prop) (τ : St) (BB : List Nat) (σ : St) (a : Act) (w : World) (σ0 : St) : Prop where
 sim : Sim F ι ok N σ a w
 sub : ∀ i p, σ.ob i = some p → ∃ p', τ.ob i = some p'
 frm : Zp σ0 σ
 bb : ∀ i p, σ.ob i = some p → σ0.ob i = some p ∨ ∀ b, blk (ι i) = some b → b ∈ BB
theorem Qg7.refl {τ : St} {σ : St} {BB : List Nat} (h : Sim F ι ok N σ a w) (hs : ∀ i p, σ.ob i = some p → ∃ p', τ.ob i = some p') : Qg7 F ι ok N τ BB σ a w σ :=
 ⟨h, hs, Zp.refl _, fun _ _ h => .inl h⟩
theorem Qg7.step {τ : St} {okT : Ok} {wT : World} (hT : Sim F ι okT N τ a wT) {BB : List Nat} {σ σ0 : St} (h : Qg7 F ι ok N τ BB σ a w σ0) {id off : Nat} {o0 : AO} (h0 : τ.ob id = some o0)
  {ts : List Ty} {x : (tupT ts).den} {v : Value} {B : Nat} (hp : Qcf ι N (id, off) v) (hb : Qbc w ok ts x v B) (hBB : ∀ b, blk v = some b → b ∈ BB) : Qg7 F ι ok N τ BB (σ.set id (.box (VT ts x))) a w σ0 := by
 have hvi : v = ι id := by
  obtain ⟨_, B', e1, e2⟩ := hp
  have := hb.1
  rw [e2] at this; cases this
  rw [e2]; exact e1.symm
 rw [hvi] at hb
 obtain ⟨h1, h2⟩ := Sim.back hT h.sim h.sub h0 hb.obj
 refine ⟨h1, h2, h.frm.trans (Zp.set _ _ _), fun i p hp => ?_⟩
 rw [St.ob_set] at hp
 split at hp
 ·rename_i e; subst e; exact .inr (fun b hb => hBB b (by rw [hvi]; exact hb))
 ·exact h.bb i p hp
theorem Qhd {τ : St} {okT : Ok} {wT : World} (hT : Sim F ι okT N τ a wT) {BB : List Nat} : ∀ {caps : List (List Ty)} {ps : List (Nat × Nat)} {x : (tupT (Z4 caps)).den} {vs : List Value} {σ σ0 : St},
  Qg7 F ι ok N τ BB σ a w σ0 → Qe5 w ok caps x vs → All2 (Qcf ι N) ps vs → (∀ id ∈ fsts ps, ∃ o, τ.ob id = some o) → (∀ v ∈ vs, ∀ b, blk v = some b → b ∈ BB) → Qg7 F ι ok N τ BB (Qkd σ caps ps x) a w σ0
 | [], ps, x, vs, σ, σ0, h, _, _, _, _ => by cases ps <;> exact h
 | ts :: r, [], x, vs, σ, σ0, h, _, _, _, _ => h
 | ts :: r, (id, off) :: ps, x, vs, σ, σ0, h, ⟨v, vs', B, e, hb, hr⟩, hp, ho, hbx => by
  subst e
  obtain ⟨o0, h0⟩ := ho id (by simp [fsts])
  have h1 := h.step hT h0 hp.1 hb (hbx v (by simp))
  exact Qhd hT (caps := r) (ps := ps) (x := tsnd ts (Z4 r) x) h1 hr hp.2 (fun i hi => ho i (by rw [fsts]; exact List.mem_cons_of_mem _ hi)) (fun v hv => hbx v (List.mem_cons_of_mem _ hv))
theorem QaK {τ : St} {okT : Ok} {wT : World} (hT : Sim F ι okT N τ a wT) {BB : List Nat} : ∀ {ks : List PK} {xs : List AV} {p : (tupT (Je ks)).den} {vs : List Value} {σ σ0 : St},
  Qg7 F ι ok N τ BB σ a w σ0 → Qa9 w ok ks p vs → All2 (QR wT okT ι N) xs vs → (∀ id ∈ held ks xs, ∃ o, τ.ob id = some o) → (∀ b ∈ VP ks vs, b ∈ BB) →
  Qg7 F ι ok N τ BB (Vs σ ks xs p) a w σ0
 | [], xs, p, vs, σ, σ0, h, _, _, _, _ => by cases xs <;> exact h
 | .val ag ts :: r, [], p, vs, σ, σ0, h, _, _, _, _ => h
 | .own t :: r, [], p, vs, σ, σ0, h, _, _, _, _ => h
 | .ow t :: r, [], p, vs, σ, σ0, h, _, _, _, _ => h
 | .box ts :: r, [], p, vs, σ, σ0, h, _, _, _, _ => h
 | .fn f caps :: r, [], p, vs, σ, σ0, h, _, _, _, _ => h
 | .val ag ts :: r, x :: xs, p, vs, σ, σ0, h, ⟨v, vs', e, hr⟩, hx, ho, hb => by
  subst e
  exact QaK hT (ks := r) (xs := xs) (p := p) h hr hx.2 (fun i hi => ho i (by rw [held, Qm]; exact List.mem_append_right _ hi)) (fun b hb' => hb b (by simpa [VP] using hb'))
 | .own t :: r, x :: xs, p, vs, σ, σ0, h, ⟨v, vs', e, hr⟩, hx, ho, hb => by
  subst e
  exact QaK hT (ks := r) (xs := xs) (p := p) h hr hx.2 (fun i hi => ho i (by rw [held, Qm]; exact List.mem_append_right _ hi)) (fun b hb' => hb b (by simpa [VP] using hb'))
 | .ow t :: r, x :: xs, p, vs, σ, σ0, h, ⟨v, vs', e, hr⟩, hx, ho, hb => by
  subst e
  exact QaK hT (ks := r) (xs := xs) (p := p) h hr hx.2 (fun i hi => ho i (by rw [held, Qm]; exact List.mem_append_right _ hi)) (fun b hb' => hb b (by simpa [VP] using hb'))
 | .box ts :: r, x :: xs, p, vs, σ, σ0, h, ⟨v, vs', B, e, hbox, hr⟩, hx, ho, hb => by
  subst e
  have hb2 : ∀ b ∈ VP r vs', b ∈ BB := fun b hb' => hb b (by simp [VP, hb'])
  cases x with
  | tup l => exact h
  | val x => cases x with
   | agg cs => exact h
   | one c =>
    cases c with
    | ptr id off =>
     obtain ⟨o0, h0⟩ := ho id (by simp [held, QaH, Qm])
     have h1 := h.step hT h0 hx.1 hbox (fun b hb' => hb b (by simp [VP, hb']))
     exact QaK hT (ks := r) (xs := xs) (p := tsnd ts (Je r) p) h1 hr hx.2 (fun i hi => ho i (by rw [held, Qm]; exact List.mem_append_right _ hi)) hb2
    | _ => exact h
 | .fn f caps :: r, x :: xs, p, vs, σ, σ0, h, ⟨vs1, vs', v, e, ev, hc, hr⟩, hx, ho, hb => by
  subst e
  subst ev
  have hb2 : ∀ b ∈ VP r vs', b ∈ BB := fun b hb' => hb b (by simp [VP, hb'])
  cases x with
  | tup l => exact h
  | val x => cases x with
   | agg cs => exact h
   | one c =>
    cases c with
    | fn g ps =>
     obtain ⟨vs2, e2, h2⟩ := hx.1
     have e3 : vs1 = vs2 := by
      injection e2 with _ _ h3
      simpa using congrArg Array.toList h3
     subst e3
     have h1 := Qhd hT (x := tfst (Z4 caps) (Je r) p) h hc h2 (fun i hi => ho i (by rw [held, Qm]; exact List.mem_append_left _ hi)) (fun v hv b hb' => hb b (by
      simp only [VP, List.mem_append, List.mem_flatMap]
      exact .inl ⟨v, by simpa using hv, by simpa using hb'⟩))
     exact QaK hT (ks := r) (xs := xs) (p := tsnd (Z4 caps) (Je r) p) h1 hr hx.2 (fun i hi => ho i (by rw [held, Qm]; exact List.mem_append_right _ hi)) hb2
    | _ => exact h
end
end Go.Abs
namespace Go.Abs
theorem Qmd : ∀ (a b : List Ty), Qht (app a b) = (Qht a || Qht b)
 | [], b => by simp [app, Qht]
 | t :: r, b => by simp [app, Qht, Qmd r b, Bool.or_assoc]
theorem QaL : ∀ (a b : List Ty), Qbw (app a b) = (Qbw a || Qbw b)
 | [], b => by simp [app, Qbw]
 | t :: r, b => by simp [app, Qbw, QaL r b, Bool.or_assoc]
section
variable {w : World} {ok ok' : Ok}
theorem RepD.noP (hc : ∀ b o, ok.c b o → ok'.c b o) (hd : ∀ b o, ok.d b o → ok'.d b o) : ∀ {t : Ty}, holds t = false → ∀ {x : t.den} {vs : List Value}, RepD w ok t x vs → RepD w ok' t x vs := by
 intro t
 induction t with
 | int k => intro _ x vs h; exact h
 | bool => intro _ x vs h; exact h
 | str => intro _ x vs h; exact h
 | sl e ih => intro hf; simp [holds] at hf
 | pr a b iha ihb => intro hf x vs h; simp [holds] at hf; obtain ⟨v1, v2, e, h1, h2⟩ := h; exact ⟨v1, v2, e, iha hf.1 h1, ihb hf.2 h2⟩
 | un => intro _ x vs h; exact h
 | pl q =>
  intro _ x vs h
  cases q with
  | false =>
   obtain ⟨a, c, e1, h1, h2, h3⟩ := h
   refine ⟨a, c, e1, h1, h2, ?_⟩
   rcases h3 with h3 | ⟨b, o, ha, us, hr, hat, hk⟩
   ·exact .inl h3
   ·exact .inr ⟨b, o, ha, us, hr, hat, fun j hj => hc _ _ (hk j hj)⟩
  | true =>
   obtain ⟨a, c, e1, h1, h2, h3⟩ := h
   refine ⟨a, c, e1, h1, h2, ?_⟩
   rcases h3 with h3 | ⟨b, o, ha, hk⟩
   ·exact .inl h3
   ·exact .inr ⟨b, o, ha, fun j hj => hd _ _ (hk j hj)⟩
structure Conv (w : World) (sl : Bool) (Q : Nat → Prop) (ok ok' : Ok) : Prop where
 c : ∀ b o, ok.c b o → ok'.c b o
 d : ∀ b o, ok.d b o → ok'.d b o
 p : sl = true → ∀ b o, ok.p b o → ok'.p b o
 at' : ∀ b, Q b → ok'.At ok b
variable {sl : Bool} {Q : Nat → Prop}
theorem Conv.dat (h : Conv w sl Q ok ok') {t : Ty} (hs : sl = true ∨ holds t = false) {x : t.den} {vs : List Value} (hr : RepD w ok t x vs) : RepD w ok' t x vs := by
 rcases hs with hs | hs
 ·exact RepD.ext (Ext.of ⟨h.p hs, h.c, h.d⟩ fun _ _ _ => rfl) hr
 ·exact RepD.noP h.c h.d hs hr
theorem Conv.ts (h : Conv w sl Q ok ok') : ∀ {ts : List Ty}, (sl = true ∨ Qbw ts = false) → ∀ {x : (tupT ts).den} {vs : List Value}, QbG w ok ts x vs → QbG w ok' ts x vs
 | [], _, _, _, h => h
 | t :: r, hf, x, vs, ⟨v, vs', e, h1, h2⟩ => by
  have hf1 : (sl = true ∨ holds t = false) ∧ (sl = true ∨ Qbw r = false) := by
   rcases hf with hf | hf
   ·exact ⟨.inl hf, .inl hf⟩
   ·simp only [Qbw, Bool.or_eq_false_iff] at hf
    exact ⟨.inr hf.1, .inr hf.2⟩
  exact ⟨v, vs', e, h.dat hf1.1 h1, h.ts hf1.2 h2⟩
theorem Conv.box (h : Conv w sl Q ok ok') {ts : List Ty} (hf : sl = true ∨ Qbw ts = false) {x : (tupT ts).den} {v : Value} {B : Nat} (hb : Qbc w ok ts x v B) (hB : Q B) : Qbc w ok' ts x v B := by
 obtain ⟨e, c, T, h1, h2, h3⟩ := hb
 exact ⟨e, c, T, h1, h.ts hf h2, fun j hj => h3 j ((h.at' B hB).any j hj)⟩
theorem orL {sl a b : Bool} (h : sl = true ∨ (a || b) = false) : (sl = true ∨ a = false) ∧ (sl = true ∨ b = false) := by
 rcases h with h | h
 ·exact ⟨.inl h, .inl h⟩
 ·rw [Bool.or_eq_false_iff] at h
  exact ⟨.inr h.1, .inr h.2⟩
theorem Conv.caps (h : Conv w sl Q ok ok') : ∀ {caps : List (List Ty)}, (sl = true ∨ Qbw (Z4 caps) = false) → ∀ {x : (tupT (Z4 caps)).den} {vs : List Value}, (∀ v ∈ vs, ∀ b, blk v = some b → Q b) → Qe5 w ok caps x vs → Qe5 w ok' caps x vs
 | [], _, _, _, _, h => h
 | ts :: r, hf, x, vs, hq, ⟨v, vs', B, e, h1, h2⟩ => by
  rw [Z4, QaL] at hf
  obtain ⟨f1, f2⟩ := orL hf
  subst e
  exact ⟨v, vs', B, rfl, h.box f1 h1 (hq v (by simp) B (by rw [h1.1]; rfl)), h.caps f2 (fun u hu => hq u (List.mem_cons_of_mem _ hu)) h2⟩
theorem Conv.outs (h : Conv w sl Q ok ok') : ∀ {ks : List PK}, (sl = true ∨ Qbw (Je ks) = false) → ∀ {x : (tupT (Je ks)).den} {vs : List Value}, (∀ b ∈ VP ks vs, Q b) → Qa9 w ok ks x vs → Qa9 w ok' ks x vs
 | [], _, _, _, _, h => h
 | .box ts :: r, hf, x, vs, hq, ⟨v, vs', B, e, h1, h2⟩ => by
  rw [Je, QaL] at hf
  obtain ⟨f1, f2⟩ := orL hf
  subst e
  exact ⟨v, vs', B, rfl, h.box f1 h1 (hq B (by rw [h1.1]; simp [VP, blk])), h.outs f2 (fun b hb => hq b (by simp [VP, hb])) h2⟩
 | .fn f caps :: r, hf, x, vs, hq, ⟨vs1, vs', v, e, e2, h1, h2⟩ => by
  rw [Je, QaL] at hf
  obtain ⟨f1, f2⟩ := orL hf
  subst e; subst e2
  refine ⟨vs1, vs', _, rfl, rfl, h.caps f1 (fun v hv b hb => hq b ?_) h1, h.outs f2 (fun b hb => hq b (by simp [VP, hb])) h2⟩
  simp only [VP, List.mem_append, List.mem_flatMap]
  exact .inl ⟨v, by simpa using hv, by simpa using hb⟩
 | .val _ _ :: r, hf, x, vs, hq, ⟨v, vs', e, h2⟩ => by
  rw [Je, QaL] at hf
  subst e
  exact ⟨v, vs', rfl, h.outs (orL hf).2 (fun b hb => hq b (by simpa [VP] using hb)) h2⟩
 | .own _ :: r, hf, x, vs, hq, ⟨v, vs', e, h2⟩ => by
  rw [Je, QaL] at hf
  subst e
  exact ⟨v, vs', rfl, h.outs (orL hf).2 (fun b hb => hq b (by simpa [VP] using hb)) h2⟩
 | .ow _ :: r, hf, x, vs, hq, ⟨v, vs', e, h2⟩ => by
  rw [Je, QaL] at hf
  subst e
  exact ⟨v, vs', rfl, h.outs (orL hf).2 (fun b hb => hq b (by simpa [VP] using hb)) h2⟩
theorem noC {w' : World} {c : Cell} {v : Value} (h : RepC w ok noι noN c v) (hf : ∀ t x, c ≠ .dat t x) (hg : ∀ t x o, c ≠ .vptr t x o) (hw : c ≠ .wptr) : RepC w' ok' noι noN c v := by
 cases c with
 | any => trivial
 | skip => exact h
 | dat t x => exact absurd rfl (hf t x)
 | nils => exact h
 | nilp => exact h
 | own t id => exact h.1.elim
 | ptr id off => exact h.1.elim
 | vptr t x off => exact absurd rfl (hg t x off)
 | eptr t id i off => exact h.1.elim
 | win t id lo n => exact h.1.elim
 | bsl id n => exact h.1.elim
 | wptr => exact absurd rfl hw
 | wint => exact h
 | nilf => exact h
 | fn f caps => exact h
theorem RepE.flat {ag : Bool} {t : Ty} (hf : Qar t = false) {x : t.den} {v : Value} (h : RepE w ok ag t x v) : RepE w ok' ag t x v := by
 cases ag with
 | false => exact RepD.flat hf h
 | true => obtain ⟨vs, e, h1⟩ := h; exact ⟨vs, e, RepD.flat hf h1⟩
theorem Qon.flat {ka va : Bool} {t : Ty} {xs : List t.den} {V : Value} (hle : ∀ b, blk V = some b → ∀ j, ok' b j → ok b j) (h : Qon w ok ka va t xs V) : Qon w ok' ka va t xs V := by
 obtain ⟨b, es, clock, rfl, h1, h2, h3, h4⟩ := h
 refine ⟨b, es, clock, rfl, h1, All2.mono (fun x y hx => ?_) h2, fun j hj => h3 j (hle b rfl j hj), h4⟩
 cases t with
 | pr k v => exact ⟨hx.1, hx.2.1, RepE.flat hx.1 hx.2.2.1, RepE.flat hx.2.1 hx.2.2.2⟩
 | _ => exact hx.elim
def Qhl (t : Ty) : MK → Bool
 | .wr => !holds t
 | .mp _ _ => true
 | _ => false
theorem Conv.obj (h : Conv w sl Q ok ok') {t : Ty} {xs : List t.den} {mu : MK} {V : Value} {ι : Nat → Value} {N : Nat → Prop} (hs : sl = true ∨ Qhl t mu = true) (hq : ∀ b, blk V = some b → Q b)
  (ho : QN w ok ι N (.arr t xs mu) V) : QN w ok' ι N (.arr t xs mu) V := by
 cases mu with
 | mp ka va => exact Qon.flat (fun b hb j hj => (h.at' b (hq b hb)).any j hj) ho
 | cp c =>
  have hs : sl = true := by simpa [Qhl] using hs
  exact QN.mono (Ext.of ⟨h.p hs, h.c, h.d⟩ fun _ _ _ => rfl) (fun _ _ => rfl) (fun _ h => h) (fun b hb => ⟨rfl, h.at' b (hq b hb)⟩) ho
 | fr =>
  have hs : sl = true := by simpa [Qhl] using hs
  exact QN.mono (Ext.of ⟨h.p hs, h.c, h.d⟩ fun _ _ _ => rfl) (fun _ _ => rfl) (fun _ h => h) (fun b hb => ⟨rfl, h.at' b (hq b hb)⟩) ho
 | wr =>
  have hs : sl = true ∨ holds t = false := by simpa [Qhl] using hs
  obtain ⟨a, cap, e, h1, h2, h3⟩ := ho
  subst e
  refine ⟨a, cap, rfl, h1, h2, ?_⟩
  rcases h3 with h3 | ⟨b, o, rfl, c, T, fz, k1, k2, k3, ⟨us, k4, k5⟩, k6, _⟩
  ·exact .inl h3
  ·exact .inr ⟨b, o, rfl, c, T, fz, k1, k2, k3, ⟨us, Reps.mono (fun _ _ hx => h.dat hs hx) k4, k5⟩, fun hm j hj => k6 hm j ((h.at' b (hq b rfl)).any j hj), fun hm => by cases hm⟩
theorem Conv.cks (h : Conv w sl Q ok ok') : ∀ {ks : List CK}, (sl = true ∨ ckSl ks = false) → cstB ks = true → ∀ {p : (tupT (pay ks)).den} {vs : List Value} {bs : List Nat}, (∀ b ∈ bs, Q b) → Qc3 w ok ks p vs bs → Qc3 w ok' ks p vs bs
 | [], _, _, _, _, _, _, h => h
 | .cst c :: ks, hf, hc, p, vs, bs, hq, ⟨v, vs', e, h1, h2⟩ => by
  have hc1 : (∀ t x, c ≠ .dat t x) ∧ (∀ t x o, c ≠ .vptr t x o) ∧ c ≠ .wptr ∧ cstB ks = true := by
   cases c with
   | fn f caps => cases caps <;> simp_all [cstB]
   | _ => simp_all [cstB]
  exact ⟨v, vs', e, noC h1 hc1.1 hc1.2.1 hc1.2.2.1, h.cks (ks := ks) (by simpa [ckSl] using hf) hc1.2.2.2 hq h2⟩
 | .dat t :: ks, hf, hc, p, vs, bs, hq, ⟨v, vs', e, h1, h2⟩ => by
  obtain ⟨f1, f2⟩ := orL (show sl = true ∨ (holds t || ckSl ks) = false by simpa [ckSl] using hf)
  exact ⟨v, vs', e, h.dat f1 h1, h.cks f2 (by simpa [cstB] using hc) hq h2⟩
 | .own t tg mu :: ks, hf, hc, p, vs, bs, hq, ⟨v, vs', bs', e1, e2, h1, h2⟩ => by
  subst e2
  have hq1 : ∀ b, blk v = some b → Q b := fun b hb => hq b (by simp [hb])
  have hq2 : ∀ b ∈ bs', Q b := fun b hb => hq b (by simp [hb])
  have hf1 : (sl = true ∨ Qhl t mu = true) ∧ (sl = true ∨ ckSl ks = false) := by
   rcases hf with hf | hf
   ·exact ⟨.inl hf, .inl hf⟩
   ·cases mu with
    | fr => simp [ckSl] at hf
    | cp c => simp [ckSl] at hf
    | wr => simp only [ckSl, Bool.or_eq_false_iff] at hf; exact ⟨.inr (by simp [Qhl, hf.1]), .inr hf.2⟩
    | mp ka va => exact ⟨.inr rfl, .inr (by simpa [ckSl] using hf)⟩
  exact ⟨v, vs', bs', e1, rfl, h.obj hf1.1 hq1 h1, h.cks hf1.2 (by simpa [cstB] using hc) hq2 h2⟩
theorem Conv.res (h : Conv w sl Q ok ok') : ∀ {l : List (Bool × List CK)}, (sl = true ∨ Qkh l = false) → QbT l = true → ∀ {p : (tupT (JV l)).den} {vs : List Value} {bs : List Nat}, (∀ b ∈ bs, Q b) → Qfn w ok l p vs bs → Qfn w ok' l p vs bs
 | [], _, _, _, _, _, _, h => h
 | (ag, ks) :: r, hf, hc, p, vs, bs, hq, ⟨v, vs', b1, b2, e1, e2, h1, h2⟩ => by
  obtain ⟨f1, f2⟩ := orL (show sl = true ∨ (ckSl ks || Qkh r) = false by simpa [Qkh] using hf)
  simp only [QbT, Bool.and_eq_true] at hc
  subst e2
  refine ⟨v, vs', b1, b2, e1, rfl, ?_, h.res f2 hc.2 (fun b hb => hq b (by simp [hb])) h2⟩
  cases ag with
  | false => exact ⟨h1.1, h.cks f1 hc.1 (fun b hb => hq b (by simp [hb])) h1.2⟩
  | true => obtain ⟨us, e3, h3⟩ := h1; exact ⟨us, e3, h.cks f1 hc.1 (fun b hb => hq b (by simp [hb])) h3⟩
end
section
variable {P : Program} {R : Type} {F : Fr} {ι : Nat → Value} {ok : Ok} {N : Nat → Prop} {σ : St} {a : Act} {w : World} {o : Oper} {r : R}
theorem QpO {c : Cell} {v : Value} (h : RepC w ok noι noN c v) : RepC w ok ι N c v := by
 cases c with
 | any => trivial
 | skip => exact h
 | dat t x => exact h
 | nils => exact h
 | nilp => exact h
 | own t id => exact h.1.elim
 | ptr id off => exact h.1.elim
 | vptr t x off => exact h
 | eptr t id i off => exact h.1.elim
 | win t id lo n => exact h.1.elim
 | bsl id n => exact h.1.elim
 | wptr => exact h
 | wint => exact h
 | nilf => exact h
 | fn f caps =>
  obtain ⟨vs, e, h⟩ := h
  refine ⟨vs, e, All2.mono (fun c v hc => hc.1.elim) h⟩
structure QgY (F : Fr) (ι : Nat → Value) (ok : Ok) (N : Nat → Prop) (a : Act) (w : World) (σ : St) (nb k : Nat) (bs : List Nat) (ι' : Nat → Value) (N' : Nat → Prop) (σ' : St) : Prop where
 sim : Sim F ι' ok N' σ' a w
 same : ∀ i, N i → ι' i = ι i
 le : ∀ i, N i → N' i
 ge : ∀ i, N' i → N i ∨ (nb ≤ i ∧ i < nb + k)
 frm : Zp σ σ'
 bb : ∀ i p, σ'.ob i = some p → σ.ob i = some p ∨ ∀ b, blk (ι' i) = some b → b ∈ bs
theorem QgY.refl (h : Sim F ι ok N σ a w) (nb : Nat) : QgY F ι ok N a w σ nb 0 [] ι N σ := ⟨h, fun _ _ => rfl, fun _ h => h, fun _ h => .inl h, Zp.refl _, fun _ _ h => .inl h⟩
theorem QgY.trans {nb k k' : Nat} {b1 b2 : List Nat} {ι1 ι2 : Nat → Value} {N1 N2 : Nat → Prop} {σ1 σ2 : St} (h : QgY F ι ok N a w σ nb k b1 ι1 N1 σ1) (h' : QgY F ι1 ok N1 a w σ1 (nb + k) k' b2 ι2 N2 σ2) :
  QgY F ι ok N a w σ nb (k + k') (b1 ++ b2) ι2 N2 σ2 :=
 ⟨h'.sim, fun i hi => (h'.same i (h.le i hi)).trans (h.same i hi), fun i hi => h'.le i (h.le i hi), fun i hi => by
  rcases h'.ge i hi with hh | hh
  ·rcases h.ge i hh with h2 | h2
   ·exact .inl h2
   ·exact .inr ⟨h2.1, by omega⟩
  ·exact .inr ⟨by omega, by omega⟩, h.frm.trans h'.frm, fun i p hp => by
  rcases h'.bb i p hp with hh | hh
  ·rcases h.bb i p hh with h2 | h2
   ·exact .inl h2
   ·refine .inr fun b hb => ?_
    have hN := (h.sim.objs i p hh).1
    rw [h'.same i hN] at hb
    exact List.mem_append_left _ (h2 b hb)
  ·exact .inr fun b hb => List.mem_append_right _ (hh b hb)⟩
theorem Qib : ∀ {ks : List CK} {nb : Nat} {p : (tupT (pay ks)).den} {vs : List Value} {bs : List Nat} {ι : Nat → Value} {N : Nat → Prop} {σ : St}, Sim F ι ok N σ a w → (∀ i, nb ≤ i → i < nb + owns ks → ¬N i) → Qc3 w ok ks p vs bs → bs.Nodup →
  (∀ b ∈ bs, (F.w0.heap.size ≤ b ∨ b ∈ F.S) ∧ ∀ i p, σ.ob i = some p → blk (ι i) ≠ some b) →
  ∃ ι' N', QgY F ι ok N a w σ nb (owns ks) bs ι' N' (obsN nb σ ks p) ∧ All2 (RepC w ok ι' N') (QbX nb ks p) vs
 | [], nb, p, vs, bs, ι, N, σ, h, _, ⟨e1, e2⟩, _, _ => by subst e1; subst e2; exact ⟨ι, N, QgY.refl h nb, trivial⟩
 | .cst c :: ks, nb, p, vs, bs, ι, N, σ, h, hN, ⟨v, vs', e, h1, h2⟩, hd, hb => by
  subst e
  obtain ⟨ι', N', g, hr⟩ := Qib (ks := ks) h hN h2 hd hb
  exact ⟨ι', N', g, QpO h1, hr⟩
 | .dat t :: ks, nb, p, vs, bs, ι, N, σ, h, hN, ⟨v, vs', e, h1, h2⟩, hd, hb => by
  subst e
  obtain ⟨ι', N', g, hr⟩ := Qib (ks := ks) h hN h2 hd hb
  exact ⟨ι', N', g, h1, hr⟩
 | .own t tg mu :: ks, nb, p, vs, bs, ι, N, σ, h, hN, ⟨v, vs', bs', e, eb, h1, h2⟩, hd, hb => by
  subst e
  subst eb
  have hl : nb < nb + (owns ks + 1) := by omega
  have hnb : ¬N nb := hN nb (Nat.le_refl _) hl
  have hnew := h.newOb (id := nb) hnb (o := .arr t (thd (.sl t) (pay ks) p) mu) (V := v) h1.arr (fun b hbv => hb b (by simp [hbv]))
  rw [List.nodup_append] at hd
  have g1 : QgY F ι ok N a w σ nb 1 (blk v).toList (upd ι nb v) (plus N nb) (σ.set nb (.arr t (thd (.sl t) (pay ks) p) mu)) :=
   ⟨hnew, fun i hi => QcA _ _ _ (fun e => hnb (e ▸ hi)), Qck, fun i hi => hi.imp id (fun e => by subst e; exact ⟨Nat.le_refl _, by omega⟩), Zp.set _ _ _, fun i q hq => by
    rw [St.ob_set] at hq
    split at hq
    ·rename_i e; subst e; right; intro b hbv; rw [JA] at hbv; simp [hbv]
    ·exact .inl hq⟩
  obtain ⟨ι', N', g, hr⟩ := Qib (ks := ks) (nb := nb + 1) hnew (fun i h1 h2 hi => by
   rcases hi with hi | hi
   ·exact hN i (by omega) (by simp only [owns]; omega) hi
   ·omega) h2 hd.2.1 (fun b hbm => ⟨(hb b (List.mem_append_right _ hbm)).1, fun i q hq hbi => by
    rw [St.ob_set] at hq
    split at hq
    ·rename_i e; subst e
     rw [JA] at hbi
     exact hd.2.2 b (by simp [hbi]) b hbm rfl
    ·rw [QcA ι nb v (fun e => hnb (e ▸ (h.objs i q hq).1))] at hbi
     exact (hb b (List.mem_append_right _ hbm)).2 i q hq hbi⟩)
  have gg := g1.trans g
  rw [Nat.add_comm 1] at gg
  refine ⟨ι', N', gg, ⟨?_, hr⟩⟩
  refine ⟨g.le nb JE, ?_, ?_⟩
  ·rw [g.same nb JE, JA]
  ·exact h1.val
theorem QpQ {ag : Bool} {ks : List CK} {p : (tupT (pay ks)).den} {v : Value} {bs : List Nat} {nb : Nat} (hlen : ∀ q : (tupT (pay ks)).den, ks.length = 1 → (QbX nb ks q).length = 1) (h : Qqm w ok ag ks p v bs) :
  ∃ vs, Qc3 w ok ks p vs bs ∧ ∀ (ι : Nat → Value) (N : Nat → Prop), All2 (RepC w ok ι N) (QbX nb ks p) vs → V2 w ok ι N (mkV1 ag (QbX nb ks p)) v := by
 cases ag with
 | false =>
  obtain ⟨hk, h⟩ := h
  refine ⟨[v], h, fun ι N hv => ?_⟩
  have hl := hlen p hk
  cases hc : QbX nb ks p with
  | nil => rw [hc] at hl; cases hl
  | cons c r => cases r with
   | nil => rw [hc] at hv; exact hv.1
   | cons _ _ => rw [hc] at hl; simp at hl
 | true =>
  obtain ⟨vs, e, h⟩ := h
  exact ⟨vs, h, fun ι N hv => ⟨vs, e, hv⟩⟩
theorem Qc8 : ∀ (ks : List CK) (nb : Nat) (p : (tupT (pay ks)).den), (QbX nb ks p).length = ks.length
 | [], _, _ => rfl
 | .cst c :: ks, nb, p => by simp [QbX, Qc8 ks nb]
 | .dat t :: ks, nb, p => by simp [QbX, Qc8 ks nb]
 | .own t tg mu :: ks, nb, p => by simp [QbX, Qc8 ks (nb + 1)]
theorem QiZ : ∀ {l : List (Bool × List CK)} {nb : Nat} {p : (tupT (JV l)).den} {vs : List Value} {bs : List Nat} {ι : Nat → Value} {N : Nat → Prop} {σ : St}, Sim F ι ok N σ a w → (∀ i, nb ≤ i → i < nb + VO l → ¬N i) → Qfn w ok l p vs bs → bs.Nodup →
  (∀ b ∈ bs, (F.w0.heap.size ≤ b ∨ b ∈ F.S) ∧ ∀ i p, σ.ob i = some p → blk (ι i) ≠ some b) →
  ∃ ι' N', QgY F ι ok N a w σ nb (VO l) bs ι' N' (QcC nb σ l p) ∧ All2 (V2 w ok ι' N') (QcB nb l p) vs
 | [], nb, p, vs, bs, ι, N, σ, h, _, ⟨e1, e2⟩, _, _ => by subst e1; subst e2; exact ⟨ι, N, QgY.refl h nb, trivial⟩
 | (ag, ks) :: r, nb, p, vs, bs, ι, N, σ, h, hN, ⟨v, vs', b1, b2, e1, e2, h1, h2⟩, hd, hb => by
  subst e1
  subst e2
  rw [List.nodup_append] at hd
  obtain ⟨us, hu, hval⟩ := QpQ (nb := nb) (fun q hk => by rw [Qc8]; exact hk) h1
  obtain ⟨ι1, N1, g1, hr1⟩ := Qib (ks := ks) h (fun i h1 h2 => hN i h1 (by simp only [VO]; omega)) hu hd.1 (fun b hbm => hb b (List.mem_append_left _ hbm))
  obtain ⟨ι2, N2, g2, hr2⟩ := QiZ (l := r) (nb := nb + owns ks) g1.sim (fun i h1 h2 hi => by
   rcases g1.ge i hi with hh | hh
   ·exact hN i (by omega) (by simp only [VO]; omega) hh
   ·omega) h2 hd.2.1 (fun b hbm => ⟨(hb b (List.mem_append_right _ hbm)).1, fun i q hq hbi => by
    rcases g1.bb i q hq with hh | hh
    ·rw [g1.same i (h.objs i q hh).1] at hbi
     exact (hb b (List.mem_append_right _ hbm)).2 i q hh hbi
    ·exact hd.2.2 b (hh b hbi) b hbm rfl⟩)
  refine ⟨ι2, N2, g1.trans g2, ?_, hr2⟩
  exact hval ι2 N2 (All2.mono (fun _ _ hc => RepC.mono (Ext.refl _ _) g2.same g2.le hc) hr1)
end
end Go.Abs
namespace Go.Abs
section
variable {P : Program} {R : Type} {F : Fr} {ι : Nat → Value} {ok : Ok} {N : Nat → Prop} {σ : St} {a : Act} {w : World} {o : Oper} {r : R}
theorem QdS {m : Fu} {nb : Nat} {g : FuncId} {args : List AV} {K : AV → St → Option R} : ∀ {Γ : List Summ}, Qc1 m nb g args σ K Γ = some r → ∃ S ∈ Γ, S.f = g ∧ Qey S = none ∧ Qew m nb S args σ K = some (some r)
 | [], h => by simp [Qc1] at h
 | S :: Γ, h => by
  simp only [Qc1] at h
  cases hb : Nat.beq S.f g && (Qey S).isNone with
  | true =>
   simp only [hb, cond_true] at h
   simp only [Bool.and_eq_true, Option.isNone_iff_eq_none] at hb
   split at h
   ·rename_i x hx; exact ⟨S, by simp, Nat.eq_of_beq_eq_true hb.1, hb.2, by rw [hx, h]⟩
   ·obtain ⟨S', h1, h2⟩ := QdS h; exact ⟨S', by simp [h1], h2⟩
  | false =>
   simp only [hb, cond_false] at h
   obtain ⟨S', h1, h2⟩ := QdS h; exact ⟨S', by simp [h1], h2⟩
theorem QeX : ∀ {caps : List (Nat × Nat)} {vs : List Value}, All2 (Qcf ι N) caps vs → All2 (QR w ok ι N) (QcY caps) vs
 | [], [], _ => trivial
 | (_, _) :: _, _ :: _, h => ⟨h.1, QeX h.2⟩
 | [], _ :: _, h => h.elim
 | _ :: _, [], h => h.elim
theorem Qi0 {l : List V1} {vs : List Value} (h : All2 (V2 w ok ι N) l vs) : QR w ok ι N (Qg0 l) (tupV vs) := by
 cases l with
 | nil => cases vs with
  | nil => exact (rfl : tupV [] = _)
  | cons _ _ => exact h.elim
 | cons x l => cases vs with
  | nil => exact h.elim
  | cons v vs => cases l with
   | nil => cases vs with
    | nil => exact h.1
    | cons _ _ => exact h.2.elim
   | cons y l => cases vs with
    | nil => exact h.2.elim
    | cons u vs => exact ⟨v :: u :: vs, rfl, h⟩
theorem Qgi : ∀ (l : List Nat) (σ : St) (t : Nat), (Qaq σ l).get t = σ.get t
 | [], _, _ => rfl
 | i :: r, σ, t => (Qgi r (σ.kill i) t).trans rfl
theorem Qju : ∀ (l : List Nat) (σ : St), (Qaq σ l).n = σ.n
 | [], _ => rfl
 | i :: r, σ => (Qju r (σ.kill i)).trans rfl
theorem Qdf : ∀ (l : List Nat) (σ : St) (i : Nat) (p : AO), (Qaq σ l).ob i = some p → σ.ob i = some p ∧ i ∉ l
 | [], _, _, _, h => ⟨h, by simp⟩
 | j :: r, σ, i, p, h => by
  obtain ⟨h1, h2⟩ := Qdf r (σ.kill j) i p h
  rw [St.ob_kill] at h1
  split at h1
  ·cases h1
  ·rename_i hne; exact ⟨h1, by simp [h2]; exact fun e => hne e.symm⟩
theorem Qgj : ∀ (l : List Nat) (σ : St), Zp σ (Qaq σ l)
 | [], σ => Zp.refl σ
 | i :: r, σ => (Zp.kill σ i).trans (Qgj r _)
def Qct (sl : Bool) (okT ok2 : Ok) : Ok := ⟨fun b j => (sl = true ∧ ok2.p b j) ∨ (sl = false ∧ okT.p b j), fun b j => okT.c b j ∨ ok2.c b j, fun b j => okT.d b j ∨ ok2.d b j⟩
theorem QhF : ∀ {caps : List (List Ty)} {x : (tupT (Z4 caps)).den} {vs : List Value} {bs : List Nat}, QaT w ok caps x vs bs → ∀ v ∈ vs, ∀ b, blk v = some b → b ∈ bs
 | [], _, _, _, ⟨e, _⟩, v, hv, _, _ => by rw [e] at hv; cases hv
 | ts :: r, x, vs, bs, ⟨u, vs', B, bs', e1, e2, h1, h2⟩, v, hv, b, hb => by
  subst e1; subst e2
  rcases List.mem_cons.1 hv with rfl | hv
  ·rw [h1.1] at hb; cases hb; simp
  ·exact List.mem_cons_of_mem _ (QhF h2 v hv b hb)
theorem QhI : ∀ {ks : List PK} {p : (tupT (insL ks)).den} {vs : List Value} {bs : List Nat}, VQ w ok ks p vs bs → ∀ b ∈ VP ks vs, b ∈ bs
 | [], _, _, _, ⟨e, _⟩, b, hb => by simp [VP] at hb
 | k :: r, p, vs, bs, ⟨v, vs', b1, b2, e1, e2, h1, h2⟩, b, hb => by
  subst e1; subst e2
  have ih := QhI h2
  cases k with
  | val ag ts => exact List.mem_append_right _ (ih b (by simpa [VP] using hb))
  | own t => exact List.mem_append_right _ (ih b (by simpa [VP] using hb))
  | ow t => exact List.mem_append_right _ (ih b (by simpa [VP] using hb))
  | box ts =>
   obtain ⟨B, e, h3⟩ := h1
   subst e
   simp only [VP, List.mem_append] at hb
   rcases hb with hb | hb
   ·rw [h3.1] at hb
    have : b = B := by simpa [blk] using hb
    subst this
    simp
   ·exact List.mem_append_right _ (ih b hb)
  | fn f caps =>
   obtain ⟨us, e, h3⟩ := h1
   subst e
   simp only [VP, List.mem_append, List.mem_flatMap] at hb
   rcases hb with ⟨v, hv, hb⟩ | hb
   ·exact List.mem_append_left _ (QhF h3 v (by simpa using hv) b (by simpa using hb))
   ·exact List.mem_append_right _ (ih b hb)
theorem QlE {τ : St} {okT okB ok1 : Ok} (h1 : Sim F ι okT N τ a w) {sig : Sig} {args : List AV} {vs : List Value} (hargs : All2 (QR w okT ι N) args vs) (hheld : ∀ id ∈ held sig.pars args, ∃ o, τ.ob id = some o)
  {cs : List Nat} (hcs : ∀ b ∈ cs, ∃ j, okT.c b j ∨ okT.d b j)
  {rr : sig.outs.den} {v : Value} {w' : World} {ok2 : Ok} {rs : List Value} {rbs : List Nat} (hA : Qmv w (bsOf ι (held sig.pars args) ++ cs) ok1 sig vs rr v w' ok2 rs rbs)
  (hx : Ext w okT w' okB) (hAt : ∀ b, b < w.heap.size → b ∉ bsOf ι (held sig.pars args) ++ cs → okB.At okT b) (hB : ∀ b j, okB b j → okT b j ∨ w.heap.size ≤ b ∨ b ∈ bsOf ι (held sig.pars args) ++ cs)
  (hpl : Pls F okB w') (hlt : ∀ b j, okB b j → b < w'.heap.size) (a4' : Qfn w' okB sig.res (tfst (JV sig.res) (Je sig.pars) rr) rs rbs) (a5' : Qa9 w' okB sig.pars (tsnd (JV sig.res) (Je sig.pars) rr) vs)
  {nb : Nat} (hN : Qba N nb) (h16 : VO sig.res ≤ 16) :
  ∃ ι' N', Sim F ι' okB N' (QcC nb (Vs (Qaq τ (held sig.pars args)) sig.pars args (tsnd (JV sig.res) (Je sig.pars) rr)) sig.res (tfst (JV sig.res) (Je sig.pars) rr)) a w' ∧
   (∀ i, N' i → span N nb i) ∧ QR w' okB ι' N' (Qg0 (QcB nb sig.res (tfst (JV sig.res) (Je sig.pars) rr))) v ∧
   Zp τ (QcC nb (Vs (Qaq τ (held sig.pars args)) sig.pars args (tsnd (JV sig.res) (Je sig.pars) rr)) sig.res (tfst (JV sig.res) (Je sig.pars) rr)) := by
 obtain ⟨a1, a2, a3, a4, a5, a6, apl, a7⟩ := hA
 have hbs0 : ∀ b ∈ bsOf ι (held sig.pars args), ∃ id o, τ.ob id = some o ∧ blk (ι id) = some b := fun b hb => by
  simp only [bsOf, List.mem_flatMap] at hb
  obtain ⟨id, hid, hb⟩ := hb
  obtain ⟨o, ho⟩ := hheld id hid
  exact ⟨id, o, ho, by simpa using hb⟩
 have hbs : ∀ b ∈ bsOf ι (held sig.pars args) ++ cs, F.w0.heap.size ≤ b ∨ b ∈ F.S := fun b hb => by
  rcases List.mem_append.1 hb with hb | hb
  ·obtain ⟨id, o, ho, hb⟩ := hbs0 b hb
   exact (h1.objs id o ho).2.2 b hb
  ·obtain ⟨j, hk⟩ := hcs b hb
   exact (h1.pls.cs b j hk).2.1
 have hno : ∀ i p b, τ.ob i = some p → blk (ι i) = some b → b ∉ cs := fun i p b hp hb hm => by
  obtain ⟨j, hk⟩ := hcs b hm
  have := (h1.objs i p hp).2.1.nocd hb j
  exact hk.elim this.1 this.2
 have hk : Sim F ι okB N (Qaq τ (held sig.pars args)) a w' :=
  h1.after a2 hx hbs hAt hB hpl hlt (Qgi _ _) (Qju _ _) (fun i p hp => by
   obtain ⟨g1, g2⟩ := Qdf _ _ _ _ hp
   refine ⟨g1, fun b hb hm => ?_⟩
   rcases List.mem_append.1 hm with hm | hm
   ·simp only [bsOf, List.mem_flatMap] at hm
    obtain ⟨id, hid, hb2⟩ := hm
    obtain ⟨o, ho⟩ := hheld id hid
    exact h1.apart i id p o b g1 ho (fun e => g2 (e ▸ hid)) hb (by simpa using hb2)
   ·exact hno i p b g1 hb hm)
 have hback := QaK h1 (BB := VP sig.pars vs) (Qg7.refl (τ := τ) hk (fun i p hp => ⟨p, (Qdf _ _ _ _ hp).1⟩)) a5' hargs hheld (fun b hb => hb)
 obtain ⟨ι', N', g, hr⟩ := QiZ (l := sig.res) (nb := nb) hback.sim (fun i h1 h2 => hN i h1 (by omega)) a4' a6 (fun b hb => by
  obtain ⟨n1, n2⟩ := a7 b hb
  refine ⟨?_, fun i p hp hbi => ?_⟩
  ·rcases n1 with n1 | n1
   ·exact .inl (Nat.le_trans h1.keep.size n1)
   ·exact hbs b n1
  ·rcases hback.bb i p hp with hh | hh
   ·obtain ⟨g1, g2⟩ := Qdf _ _ _ _ hh
    rcases n1 with n1 | n1
    ·exact absurd ((h1.objs i p g1).2.1.lt hbi) (Nat.not_lt.2 n1)
    ·rcases List.mem_append.1 n1 with n1 | n1
     ·simp only [bsOf, List.mem_flatMap] at n1
      obtain ⟨id, hid, hb2⟩ := n1
      obtain ⟨o, ho⟩ := hheld id hid
      exact h1.apart i id p o b g1 ho (fun e => g2 (e ▸ hid)) hbi (by simpa using hb2)
     ·exact hno i p b g1 hbi n1
   ·exact n2 (hh b hbi))
 refine ⟨ι', N', g.sim, fun i hi => ?_, by rw [a1]; exact Qi0 hr, ((Qgj _ _).trans hback.frm).trans g.frm⟩
 rcases g.ge i hi with hh | hh
 ·exact .inl hh
 ·exact .inr ⟨hh.1, by omega⟩
theorem Qn0 {τ : St} {okT : Ok} (h1 : Sim F ι okT N τ a w) {sig : Sig} {args : List AV} {vs : List Value} (hargs : All2 (QR w okT ι N) args vs) (hheld : ∀ id ∈ held sig.pars args, ∃ o, τ.ob id = some o)
  {cs : List Nat} (hcs : ∀ b ∈ cs, ∃ j, okT.c b j ∨ okT.d b j) (hcs2 : ∀ b j, okT.c b j ∨ okT.d b j → b ∈ cs)
  {rr : sig.outs.den} {v : Value} {w' : World} {ok2 : Ok} {rs : List Value} {rbs : List Nat} (hA : Qmv w (bsOf ι (held sig.pars args) ++ cs) okT sig vs rr v w' ok2 rs rbs) {nb : Nat} (hN : Qba N nb) (h16 : VO sig.res ≤ 16) :
  ∃ ι' N', Sim F ι' ok2 N' (QcC nb (Vs (Qaq τ (held sig.pars args)) sig.pars args (tsnd (JV sig.res) (Je sig.pars) rr)) sig.res (tfst (JV sig.res) (Je sig.pars) rr)) a w' ∧
   (∀ i, N' i → span N nb i) ∧ QR w' ok2 ι' N' (Qg0 (QcB nb sig.res (tfst (JV sig.res) (Je sig.pars) rr))) v ∧
   Zp τ (QcC nb (Vs (Qaq τ (held sig.pars args)) sig.pars args (tsnd (JV sig.res) (Je sig.pars) rr)) sig.res (tfst (JV sig.res) (Je sig.pars) rr)) := by
 have hbs : ∀ b ∈ bsOf ι (held sig.pars args) ++ cs, F.w0.heap.size ≤ b ∨ b ∈ F.S := fun b hb => by
  rcases List.mem_append.1 hb with hb | hb
  ·simp only [bsOf, List.mem_flatMap] at hb
   obtain ⟨id, hid, hb⟩ := hb
   obtain ⟨o, ho⟩ := hheld id hid
   exact (h1.objs id o ho).2.2 b (by simpa using hb)
  ·obtain ⟨j, hk⟩ := hcs b hb
   exact (h1.pls.cs b j hk).2.1
 refine QlE h1 hargs hheld hcs hA ⟨fun b j hk => hA.keep.kept b j hk, fun b j hk => hA.pls.kc b j hk, fun b j hk => hA.pls.kd b j hk⟩ (fun b hb hm j => ?_) (fun b j hk => hA.keep.new b j hk)
  ⟨fun b j hk => ⟨(hA.pls.cs b j hk).1, ?_, (hA.pls.cs b j hk).2.2⟩, hA.pls.ds, fun b j hk => ⟨(hA.pls.kc b j (h1.pls.kc b j hk).1).1, (hA.pls.kc b j (h1.pls.kc b j hk).1).2.trans (h1.pls.kc b j hk).2⟩, fun b j hk => hA.pls.kd b j (h1.pls.kd b j hk)⟩
  hA.oks hA.res hA.outs hN h16
 ·refine ⟨fun hk => ?_, fun hk => ?_, fun hk => ?_⟩
  ·rcases hA.keep.new b j (.inl hk) with hh | hh | hh
   ·rcases hh with hh | hh
    ·exact hh
    ·exact absurd (List.mem_append_right _ (hcs2 b j hh)) hm
   ·exact absurd hb (Nat.not_lt.2 hh)
   ·exact absurd hh hm
  ·rcases (hA.pls.cs b j (.inl hk)).2.1 with hh | hh
   ·exact absurd hb (Nat.not_lt.2 hh)
   ·exact absurd hh hm
  ·rcases (hA.pls.cs b j (.inr hk)).2.1 with hh | hh
   ·exact absurd hb (Nat.not_lt.2 hh)
   ·exact absurd hh hm
 ·rcases (hA.pls.cs b j hk).2.1 with hh | hh
  ·exact .inl (Nat.le_trans h1.keep.size hh)
  ·exact hbs b hh
theorem QjV {τ : St} {okT : Ok} {q1 : Nat → Nat → Prop} {sl : Bool} (h1 : Sim F ι okT N τ a w) (hle1 : ∀ b j, okT.p b j → q1 b j) (hq1 : sl = true → ∀ b j, q1 b j → okT.p b j) {sig : Sig} {args : List AV} {vs : List Value} (hargs : All2 (QR w okT ι N) args vs) (hheld : ∀ id ∈ held sig.pars args, ∃ o, τ.ob id = some o)
  (hbox : ∀ b ∈ VP sig.pars vs, b ∈ bsOf ι (held sig.pars args))
  {rr : sig.outs.den} {v : Value} {w' : World} {ok2 : Ok} {rs : List Value} {rbs : List Nat} (hA : Qmv w (bsOf ι (held sig.pars args) ++ []) (Ok.of q1) sig vs rr v w' ok2 rs rbs) {nb : Nat} (hN : Qba N nb) (h16 : VO sig.res ≤ 16) (hcst : QbT sig.res = true)
  (hfl : (sl = true ∨ Qkh sig.res = false) ∧ (sl = true ∨ Qbw (Je sig.pars) = false)) :
  ∃ ι' N', Sim F ι' (Qct sl okT ok2) N' (QcC nb (Vs (Qaq τ (held sig.pars args)) sig.pars args (tsnd (JV sig.res) (Je sig.pars) rr)) sig.res (tfst (JV sig.res) (Je sig.pars) rr)) a w' ∧
   (∀ i, N' i → span N nb i) ∧ QR w' (Qct sl okT ok2) ι' N' (Qg0 (QcB nb sig.res (tfst (JV sig.res) (Je sig.pars) rr))) v ∧
   Zp τ (QcC nb (Vs (Qaq τ (held sig.pars args)) sig.pars args (tsnd (JV sig.res) (Je sig.pars) rr)) sig.res (tfst (JV sig.res) (Je sig.pars) rr)) := by
 have hA0 := hA
 rw [List.append_nil] at hA
 obtain ⟨a1, a2, a3, a4, a5, a6, apl, a7⟩ := hA
 have hbs0 : ∀ b ∈ bsOf ι (held sig.pars args), ∃ id o, τ.ob id = some o ∧ blk (ι id) = some b := fun b hb => by
  simp only [bsOf, List.mem_flatMap] at hb
  obtain ⟨id, hid, hb⟩ := hb
  obtain ⟨o, ho⟩ := hheld id hid
  exact ⟨id, o, ho, by simpa using hb⟩
 have hbs : ∀ b ∈ bsOf ι (held sig.pars args), F.w0.heap.size ≤ b ∨ b ∈ F.S := fun b hb => by
  obtain ⟨id, o, ho, hb⟩ := hbs0 b hb
  exact (h1.objs id o ho).2.2 b hb
 have hcd : ∀ b ∈ bsOf ι (held sig.pars args), ∀ j, ¬okT.c b j ∧ ¬okT.d b j := fun b hb j => by
  obtain ⟨id, o, ho, hb⟩ := hbs0 b hb
  exact (h1.objs id o ho).2.1.nocd hb j
 let Q : Nat → Prop := fun b => w.heap.size ≤ b ∨ b ∈ bsOf ι (held sig.pars args)
 have hQcd : ∀ b, Q b → ∀ j, ¬okT.c b j ∧ ¬okT.d b j := fun b hb j => by
  rcases hb with hb | hb
  ·exact ⟨fun k => absurd (h1.oks b j (.inr (.inl k))) (Nat.not_lt.2 hb), fun k => absurd (h1.oks b j (.inr (.inr k))) (Nat.not_lt.2 hb)⟩
  ·exact hcd b hb j
 have hQ2 : ∀ b j, ok2.c b j ∨ ok2.d b j → Q b := fun b j hk => (apl.cs b j hk).2.1
 have hp2 : ∀ b j, okT.p b j → ok2.p b j := fun b j hk => (a2.kept b j (hle1 b j hk)).1
 have hle : okT.Le (Qct sl okT ok2) := by
  refine ⟨fun b j hk => ?_, fun b j hk => .inl hk, fun b j hk => .inl hk⟩
  cases sl with
  | true => exact .inl ⟨rfl, hp2 b j hk⟩
  | false => exact .inr ⟨rfl, hk⟩
 have hbackp : ∀ b j, (Qct sl okT ok2).p b j → okT.p b j ∨ Q b := fun b j hk => by
  rcases hk with ⟨e, hk⟩ | ⟨_, hk⟩
  ·rcases a2.new b j (.inl hk) with hh | hh
   ·exact .inl (hq1 e b j (Ok.of_any hh))
   ·exact .inr hh
  ·exact .inl hk
 have hback2 : ∀ b j, (Qct sl okT ok2).p b j → ok2.p b j := fun b j hk => by
  rcases hk with ⟨_, hk⟩ | ⟨_, hk⟩
  ·exact hk
  ·exact hp2 b j hk
 have hAt : ∀ b, b < w.heap.size → b ∉ bsOf ι (held sig.pars args) → (Qct sl okT ok2).At okT b := fun b hb hm j => by
  have hnq : ¬Q b := fun h => h.elim (fun h => absurd hb (Nat.not_lt.2 h)) hm
  refine ⟨fun hk => (hbackp b j hk).resolve_right hnq, fun hk => ?_, fun hk => ?_⟩
  ·exact hk.resolve_right fun k => hnq (hQ2 b j (.inl k))
  ·exact hk.resolve_right fun k => hnq (hQ2 b j (.inr k))
 have hB : ∀ b j, Qct sl okT ok2 b j → okT b j ∨ w.heap.size ≤ b ∨ b ∈ bsOf ι (held sig.pars args) := fun b j hk => by
  rcases hk with hk | hk | hk
  ·exact (hbackp b j hk).imp .inl id
  ·rcases hk with hk | hk
   ·exact .inl (.inr (.inl hk))
   ·exact .inr (hQ2 b j (.inl hk))
  ·rcases hk with hk | hk
   ·exact .inl (.inr (.inr hk))
   ·exact .inr (hQ2 b j (.inr hk))
 have hheap : ∀ b j, okT.c b j ∨ okT.d b j → w'.heap[b]? = w.heap[b]? := fun b j hk => a2.old b (h1.oks b j (.inr hk)) fun hm => hk.elim (hcd b hm j).1 (hcd b hm j).2
 have hpl : Pls F (Qct sl okT ok2) w' := by
  refine ⟨fun b j hk => ?_, fun b j hk => ?_, fun b j k => ⟨.inl (h1.pls.kc b j k).1, (QjU (hheap b j (.inl (h1.pls.kc b j k).1)) j).trans (h1.pls.kc b j k).2⟩, fun b j k => .inl (h1.pls.kd b j k)⟩
  ·have hk : (okT.c b j ∨ okT.d b j) ∨ (ok2.c b j ∨ ok2.d b j) := by
    rcases hk with (hk | hk) | (hk | hk)
    ·exact .inl (.inl hk)
    ·exact .inr (.inl hk)
    ·exact .inl (.inr hk)
    ·exact .inr (.inr hk)
   rcases hk with hk | hk
   ·obtain ⟨s1, s2, s3⟩ := h1.pls.cs b j hk
    refine ⟨fun k => ?_, s2, s3.heap (hheap b j hk)⟩
    rcases hbackp b j k with k | k
    ·exact s1 k
    ·exact hk.elim (hQcd b k j).1 (hQcd b k j).2
   ·obtain ⟨s1, s2, s3⟩ := apl.cs b j hk
    refine ⟨fun k => s1 (hback2 b j k), ?_, s3⟩
    rcases s2 with s2 | s2
    ·exact .inl (Nat.le_trans h1.keep.size s2)
    ·exact hbs b s2
  ·rintro (k | k)
   ·rcases hk with hk | hk
    ·exact h1.pls.ds b j hk k
    ·exact (hQcd b (hQ2 b j (.inr hk)) j).1 k
   ·rcases hk with hk | hk
    ·exact (hQcd b (hQ2 b j (.inl k)) j).2 hk
    ·exact apl.ds b j hk k
 have hlt : ∀ b j, Qct sl okT ok2 b j → b < w'.heap.size := fun b j hk => by
  rcases hk with hk | (hk | hk) | (hk | hk)
  ·exact a3 b j (.inl (hback2 b j hk))
  ·exact Nat.lt_of_lt_of_le (h1.oks b j (.inr (.inl hk))) a2.size
  ·exact a3 b j (.inr (.inl hk))
  ·exact Nat.lt_of_lt_of_le (h1.oks b j (.inr (.inr hk))) a2.size
  ·exact a3 b j (.inr (.inr hk))
 have hconv : Conv w' sl Q ok2 (Qct sl okT ok2) := by
  refine ⟨fun b j hk => .inr hk, fun b j hk => .inr hk, fun e b j hk => .inl ⟨e, hk⟩, fun b hb j => ⟨hback2 b j, fun hk => ?_, fun hk => ?_⟩⟩
  ·exact hk.resolve_left (hQcd b hb j).1
  ·exact hk.resolve_left (hQcd b hb j).2
 have a4' : Qfn w' (Qct sl okT ok2) sig.res (tfst (JV sig.res) (Je sig.pars) rr) rs rbs := hconv.res hfl.1 hcst (fun b hb => (a7 b hb).1) a4
 have a5' : Qa9 w' (Qct sl okT ok2) sig.pars (tsnd (JV sig.res) (Je sig.pars) rr) vs := hconv.outs hfl.2 (fun b hb => .inr (hbox b hb)) a5
 exact QlE h1 hargs hheld (cs := []) (fun b hb => by cases hb) hA0 ⟨fun b j hb => ⟨hle.1 b j hb, (a2.kept b j (hle1 b j hb)).2⟩, fun b j hb => ⟨hle.2.1 b j hb, Zx (a2.old b (h1.oks b j (.inr (.inl hb))) fun hm => (hcd b hm j).1 hb) j⟩, hle.2.2⟩
  (fun b hb hm => hAt b hb (by simpa using hm)) (fun b j hk => (hB b j hk).imp id (fun hh => hh.imp id (fun hh => by simpa using hh))) hpl hlt a4' a5' hN h16
theorem Qex {g : FuncId} {q : Spc} : ∀ {Γ : List Summ}, QhR g Γ = some q → ∃ S ∈ Γ, S.f = g ∧ Qey S = some q
 | [], h => by cases h
 | S :: Γ, h => by
  simp only [QhR] at h
  cases hb : Nat.beq S.f g with
  | true =>
   simp only [hb, cond_true] at h
   split at h
   ·rename_i x hx; cases h; exact ⟨S, by simp, Nat.eq_of_beq_eq_true hb, hx⟩
   ·obtain ⟨S', h1, h2⟩ := Qex h; exact ⟨S', by simp [h1], h2⟩
  | false =>
   simp only [hb, cond_false] at h
   obtain ⟨S', h1, h2⟩ := Qex h; exact ⟨S', by simp [h1], h2⟩
theorem Qnw {m : Fu} {Γ : List Summ} (hΓ : ∀ S ∈ Γ, Qau P F S) (h : Sim F ι ok N σ a w) {nb : Nat} {c : Call} (ho : o.op = .call c) {f : Operand} (hc : c.callee = .value f) {g : FuncId} (hf : σ.ev f = .val (.one (.fn g []))) {q : Spc} (hq : QhR g Γ = some q) {K : AV → St → Option R}
  (hr : aWin m q (evs σ c.args.toList) σ (fun v => K v σ) = some r) : Jo P o F (span N nb) a w σ K r := by
 obtain ⟨S, hSm, rfl, hSw⟩ := Qex hq
 have hS : QiE P S.f q := by
  have := hΓ S hSm
  unfold Qau at this
  rw [hSw] at this
  exact this
 have hfv := h.ev f
 rw [hf] at hfv
 obtain ⟨vsc, hfe, hcaps⟩ := hfv
 have hvsc : vsc = [] := by cases vsc with | nil => rfl | cons _ _ => exact hcaps.elim
 subst hvsc
 unfold aWin at hr
 cases q with
 | rd k fn =>
  dsimp only at hr
  split at hr
  ·rename_i id n hargs
   split at hr
   ·rename_i cs hob
    split at hr
    ·rename_i y hy
     cases hfn : fn m (y, n) with
     | none => rw [hfn] at hr; cases hr
     | some z =>
      rw [hfn] at hr
      simp only [Option.bind_some] at hr
      obtain ⟨ya, yb, hl, e1, e2⟩ := QeT hargs
      have ha := h.ev ya
      have hb := h.ev yb
      rw [e1] at ha
      rw [e2] at hb
      obtain ⟨_, B, hB, hva⟩ := ha
      obtain ⟨_, ⟨B', c, T, hV, m1, m2, m3⟩, _⟩ := h.objs id _ hob
      rw [hB] at hV; cases hV
      have hvb : a.eval yb = .int .i64 n ∧ IntKind.i64.wrap n = n := by
       refine ⟨?_, hb.2⟩
       have := hb.1
       simpa using this
      obtain ⟨u, hu, hru⟩ := m2.nth hy
      have hu2 : u = .int .i64 y ∧ IntKind.i64.wrap y = y := by
       refine ⟨?_, hru.2⟩
       have := hru.1
       simpa using this
      obtain ⟨hz, hE⟩ := hS m y n z hfn
      have hexec : ∀ w, (execOp a.eval o).run P w = (callFunc S.f #[.pointer (some ⟨B, 0, none⟩), .int .i64 n]).run P w := fun w => by
       simp [execOp, ho, resolve, hc, hfe, Deferred.ofValue, invoke, hl, hva, hvb.1]
      have hE := hE w B (by rw [VY m1, ← hu2.1, ← hu]; simp) hu2.2 hvb.2
      intro next Q hnext
      have core : ∀ v w', (v = .int .i64 z ∧ QkY w w') → next (a.put o.dst v) w' := by
       rintro v w' ⟨rfl, hgr⟩
       exact hnext _ _ _ w' ι ok ((h.grow hgr).more Jh) (QR.mono (Ext.refl _ _) (fun _ _ => rfl) Jh (show QR w' ok ι N (one (.int .i64) z) _ from ⟨rfl, hz⟩)) (Zp.refl _) hr
      unfold Oper.wp
      rw [hexec]
      unfold Ends at hE
      generalize (callFunc S.f #[.pointer (some ⟨B, 0, none⟩), .int .i64 n]).run P w = res at hE ⊢
      cases res with
      | halt x w' => exact hE.elim
      | ok n w' =>
       cases n <;> simp only at hE
       case value v => exact core v w' hE
       case enter g as =>
        refine Calls.mono hE ?_
        rintro e w'' ⟨v, he, hR⟩
        subst he
        exact core v w'' hR
    ·cases hr
   ·cases hr
  ·cases hr
 | win t fn =>
 dsimp only at hr
 split at hr
 ·rename_i e id n hargs
  split at hr
  ·rename_i t0 xs hob
   split at hr
   ·rename_i xs' hxs
    obtain ⟨f1, f2⟩ := Ty.to_some hxs
    cases f1
    simp only [cast_eq] at f2
    subst f2
    cases hfn : fn m (xs, n) with
    | none => rw [hfn] at hr; cases hr
    | some y =>
     rw [hfn] at hr
     simp only [Option.bind_some] at hr
     obtain ⟨ya, yb, hl, e1, e2⟩ := QeT hargs
     have ha := h.ev ya
     have hb := h.ev yb
     rw [e1] at ha
     rw [e2] at hb
     obtain ⟨vs, hva, hvs⟩ := ha
     obtain ⟨g1, ⟨A, cap, hV, l1, l2, h3⟩, g3⟩ := h.objs id _ hob
     have hva' : a.eval ya = .agg #[.slice A (List.length xs) cap] := by
      cases vs with
      | nil => exact hvs.elim
      | cons v0 vs =>
       cases vs with
       | cons _ _ => exact hvs.2.elim
       | nil => rw [hva, hvs.1.2.1, hV]
     have hvb : a.eval yb = .int .i64 n ∧ IntKind.i64.wrap n = n := by
      refine ⟨?_, hb.2⟩
      have := hb.1
      simpa using this
     obtain ⟨hpos, hE⟩ := hS m xs n y hfn
     rcases h3 with ⟨_, hx0, _⟩ | ⟨b, oo, rfl, h4⟩
     ·rw [hx0] at hpos; simp at hpos
     ·have hexec : ∀ w, (execOp a.eval o).run P w = (callFunc S.f #[.agg #[.slice (some ⟨b, oo, none⟩) (List.length xs) cap], .int .i64 n]).run P w := fun w => by
       simp [execOp, ho, resolve, hc, hfe, Deferred.ofValue, invoke, hl, hva', hvb.1]
      have hE := hE w b oo cap l1 l2 hvb.2
      intro next Q hnext
      have core : ∀ v w', ((∃ c', v = .slice (some ⟨b, oo + y.1.toNat * t.sz, none⟩) y.2.toNat c') ∧ QkY w w') → next (a.put o.dst v) w' := by
       rintro v w' ⟨⟨c', rfl⟩, hgr⟩
       exact hnext _ _ _ w' ι ok ((h.grow hgr).more Jh) (QR.mono (Ext.refl _ _) (fun _ _ => rfl) Jh (show QR w' ok ι N (.val (.one (.win t id y.1.toNat y.2.toNat))) _ from ⟨g1, b, oo, _, cap, c', hV, rfl⟩)) (Zp.refl _) hr
      unfold Oper.wp
      rw [hexec]
      unfold Ends at hE
      generalize (callFunc S.f #[.agg #[.slice (some ⟨b, oo, none⟩) (List.length xs) cap], .int .i64 n]).run P w = res at hE ⊢
      cases res with
      | halt x w' => exact hE.elim
      | ok n w' =>
       cases n <;> simp only at hE
       case value v => exact core v w' hE
       case enter g as =>
        refine Calls.mono hE ?_
        rintro e w'' ⟨v, he, hR⟩
        subst he
        exact core v w'' hR
   ·cases hr
  ·cases hr
 ·cases hr
theorem Ql7 {m : Fu} {Γ : List Summ} (hΓ : ∀ S ∈ Γ, Qau P F S) (h : Sim F ι ok N σ a w) {nb : Nat} (hN : Qba N nb) {c : Call} (ho : o.op = .call c) {f : Operand} (hc : c.callee = .value f) {g : FuncId} {caps : List (Nat × Nat)} (hf : σ.ev f = .val (.one (.fn g caps))) {K : AV → St → Option R}
  (hr0 : Qc1 m nb g (app (evs σ c.args.toList) (QcY caps)) σ K Γ = some r) : Jo P o F (span N nb) a w σ K r := by
 obtain ⟨S, hSm, rfl, hSw, hr⟩ := QdS hr0
 clear hr0
 have hS : Qpt P F S := by
  have := hΓ S hSm
  unfold Qau at this
  rw [hSw] at this
  exact this
 have hfv := h.ev f
 rw [hf] at hfv
 obtain ⟨vsc, hfe, hcaps⟩ := hfv
 have hexec : ∀ w, (execOp a.eval o).run P w = (callFunc S.f (c.args.toList.map a.eval ++ vsc).toArray).run P w := fun w => by
  have e1 : (c.args.toList.map a.eval ++ vsc).toArray = c.args.map a.eval ++ vsc.toArray := by
   apply Array.ext'; simp
  rw [e1]
  simp [execOp, ho, resolve, hc, hfe, Deferred.ofValue, invoke]
 rw [Qm] at hr
 have hargs : All2 (QR w ok ι N) (evs σ c.args.toList ++ QcY caps) (c.args.toList.map a.eval ++ vsc) := All2.app (h.evs _) (QeX hcaps)
 generalize evs σ c.args.toList ++ QcY caps = args at hr hargs
 generalize c.args.toList.map a.eval ++ vsc = vs at hexec hargs
 unfold Qew at hr
 split at hr
 ·cases hr
 ·rename_i p hp
  simp only at hr
  cases hb : Qbt (held S.sig.pars args) && Nat.ble (VO S.sig.res) 16 && QbT S.sig.res with
  | false => simp [hb] at hr
  | true =>
   simp only [hb, cond_true] at hr
   simp only [Bool.and_eq_true] at hb
   obtain ⟨⟨b1, b2⟩, b3⟩ := hb
   have b1 := (Qb1 _).1 b1
   have b2 := Nat.le_of_ble_eq_true b2
   obtain ⟨ok1, h1, l1⟩ := h.freezeArgs S.sig.pars args
   have hargs1 : All2 (QR w ok1 ι N) args vs := All2.mono (fun _ _ hc => QR.mono (QcS l1) (fun _ _ => rfl) (fun _ h => h) hc) hargs
   have hfo : ∀ i o, (freezeArgs σ S.sig.pars args).ob i = some o → ∃ o', σ.ob i = some o' := Qin _ _ _
   cases hfn : S.fn m p with
   | none => simp [hfn] at hr
   | some rr =>
    simp only [hfn, Option.bind_some, Option.some.injEq] at hr
    intro next Q hnext
    have tail : ∀ (T : Value → World → Prop), Ends P S.f vs.toArray w T → (∀ v w', T v w' → next (a.put o.dst v) w') → o.wp P a w next Q := fun T hE core => by
     unfold Oper.wp
     rw [hexec]
     unfold Ends at hE
     generalize (callFunc S.f vs.toArray).run P w = res at hE ⊢
     cases res with
     | halt x w' => exact hE.elim
     | ok n w' =>
      cases n <;> simp only at hE
      case value v => exact core v w' hE
      case enter g as =>
       refine Calls.mono hE ?_
       rintro e w'' ⟨v, he, hR⟩
       subst he
       exact core v w'' hR
    cases hnp : QbI S.sig.pars with
    | true =>
     obtain ⟨q1, q2⟩ := Qfd h1 hnp hp hargs1
     have hE := hS m p rr hfn w (Ok.of (QdI (!Qdy S.sig) ok1)) vs (bsOf ι (held S.sig.pars args)) [] (fun b j hk => ⟨.inl (h1.keep.kept b j hk).1, (h1.keep.kept b j hk).2⟩) q1 (h1.nodup b1 q2) (fun b j hk => h1.oks b j (Qee (Ok.of_any hk))) (Pls.of _ _ _ (fun _ _ k => k) (fun _ _ k => k)) (fun _ _ _ k => k)
     have hboxB := QhI q1
     refine tail _ hE ?_
     rintro v w' ⟨ok2, rs, rbs, hA⟩
     cases hsl : Qdy S.sig with
     | true =>
      simp only [hsl, cond_true] at hr
      obtain ⟨ι', N', k1, k2, k3, k4⟩ := QjV (sl := true) h1 (fun _ _ h => .inl h) (fun _ b j hk => by
       rw [hsl] at hk
       rcases hk with hk | hk
       ·exact hk
       ·cases hk.1) hargs1 q2 hboxB hA hN b2 b3 ⟨.inl rfl, .inl rfl⟩
      exact hnext _ _ v w' ι' _ (k1.more k2) (QR.mono (Ext.refl _ _) (fun _ _ => rfl) k2 k3) ((Qdv _ _ _).trans k4) hr
     | false =>
      simp only [hsl, cond_false] at hr
      have hsl2 : Qkh S.sig.res = false ∧ Qbw (Je S.sig.pars) = false := by
       unfold Qdy at hsl
       simp only [Bool.or_eq_false_iff] at hsl
       exact hsl.1
      obtain ⟨ι', N', k1, k2, k3, k4⟩ := QjV (sl := false) h (fun b j hk => .inl (l1.1 b j hk)) (fun e => by cases e) hargs (fun id hid => by obtain ⟨o', ho'⟩ := q2 id hid; exact hfo id o' ho') hboxB hA hN b2 b3 ⟨.inr hsl2.1, .inr hsl2.2⟩
      exact hnext _ _ v w' ι' _ (k1.more k2) (QR.mono (Ext.refl _ _) (fun _ _ => rfl) k2 k3) k4 hr
    | false =>
     have hsl : Qdy S.sig = true := by unfold Qdy; rw [hnp]; simp
     rw [hsl] at hp
     obtain ⟨q1, q2⟩ := Qei h1 hp hargs1
     let cs : List Nat := (List.range w.heap.size).filter fun b => @decide (∃ j, ok1.c b j ∨ ok1.d b j) (Classical.propDecidable _)
     have hcs2 : ∀ b j, ok1.c b j ∨ ok1.d b j → b ∈ cs := fun b j hk => List.mem_filter.2 ⟨List.mem_range.2 (h1.oks b j (.inr hk)), by simp; exact ⟨j, hk⟩⟩
     have hcs : ∀ b ∈ cs, ∃ j, ok1.c b j ∨ ok1.d b j := fun b hb => by
      have := (List.mem_filter.1 hb).2
      simpa using this
     have hE := hS m p rr hfn w ok1 vs (bsOf ι (held S.sig.pars args)) cs (fun b j hk => h1.keep.kept b j hk) q1 (h1.nodup b1 q2) h1.oks
      ⟨fun b j hk => ⟨(h1.pls.cs b j hk).1, .inr (List.mem_append_right _ (hcs2 b j hk)), (h1.pls.cs b j hk).2.2⟩, h1.pls.ds, fun b j k => ⟨k, rfl⟩, fun b j k => k⟩ (fun e => by rw [hnp] at e; cases e)
     refine tail _ hE ?_
     rintro v w' ⟨ok2, rs, rbs, hA⟩
     simp only [hsl, cond_true] at hr
     obtain ⟨ι', N', k1, k2, k3, k4⟩ := Qn0 h1 hargs1 q2 hcs hcs2 hA hN b2
     exact hnext _ _ v w' ι' _ (k1.more k2) (QR.mono (Ext.refl _ _) (fun _ _ => rfl) k2 k3) ((Qdv _ _ _).trans k4) hr
end
end Go.Abs
namespace Go.Abs
section
variable {P : Program} {R : Type} {F : Fr} {ι : Nat → Value} {ok : Ok} {N : Nat → Prop} {σ : St} {a : Act} {w : World} {o : Oper} {r : R}
theorem Jf (h : Sim F ι ok N σ a w) {nb : Nat} {K : AV → St → Option R} (hx : ∃ av z, K av σ = some r ∧ (execOp a.eval o).run P w = .ok (.value z) w ∧ QR w ok ι N av z) :
  Jo P o F (span N nb) a w σ K r := by
 obtain ⟨av, z, h1, h2, h3⟩ := hx
 exact Jo.value h2 h h3 (Zp.refl _) h1 Jh
theorem Qm7 : ∀ {l : List AV} {ps : List (Nat × Nat)} {vs : List Value}, Qje l = some ps → All2 (QR w ok ι N) l vs → All2 (Qcf ι N) ps vs := by
 intro l
 induction l with
 | nil => intro ps vs hp hv; cases hp; cases vs with
  | nil => trivial
  | cons _ _ => exact hv.elim
 | cons x l ih =>
  intro ps vs hp hv
  cases vs with
  | nil => exact hv.elim
  | cons v vs =>
   unfold Qje at hp
   split at hp
   ·rename_i h; cases h
   ·rename_i i o r h
    cases h
    split at hp
    ·rename_i l' hl
     cases hp
     exact ⟨hv.1, ih hl hv.2⟩
    ·cases hp
   ·cases hp
theorem Qj1 {m : Fu} {Γ : List Summ} (hΓ : ∀ S ∈ Γ, Qau P F S) (h : Sim F ι ok N σ a w) {nb : Nat} (hN : Qba N nb) {K : AV → St → Option R} (hr : aOp P Γ m nb o σ K = some r) : Jo P o F (span N nb) a w σ K r := by
 unfold aOp at hr
 split at hr
 case h_1 x hop => exact Jf h ⟨_, a.eval x, hr, by simp [execOp, hop], h.ev x⟩
 case h_2 x hop => exact Jf h ⟨_, a.eval x, hr, by simp [execOp, hop], h.ev x⟩
 case h_3 c x y hop =>
  obtain ⟨av, b, h1, h2, h3⟩ := Qo9 (h.ev c) (h.ev x) (h.ev y) hr
  exact Jf h ⟨av, _, h1, by simp [execOp, hop, h2, asBool], h3⟩
 case h_4 t hop => exact Qkw h hN hop hr
 case h_5 t x hop => exact Qny h hN hop hr
 case h_6 t ps hop =>
  obtain ⟨av, z, h1, h2, h3⟩ := Qol (qs := ps.map fun (i, x) => (i, a.eval x)) (by simpa using h.evPs ps.toList) hr
  exact Jf h ⟨av, z, h1, by simp [execOp, hop, h2], h3⟩
 case h_7 t n ps hop =>
  split at hr
  ·exact Qii h hN hop hr
  ·exact Qfq h hN hop hr
 case h_8 t x hop =>
  obtain ⟨av, z, h1, h2, h3⟩ := QlP (P := P) h (h.ev x) hr
  exact Jf h ⟨av, z, h1, by simp [execOp, hop, h2], h3⟩
 case h_9 t x y hop => exact Qku h hN hop hr
 case h_10 x hop =>
  have hx := h.ev x
  split at hr
  case h_1 i f hx' =>
   rw [hx'] at hx
   obtain ⟨_, B, _, e⟩ := id hx
   exact Jf h ⟨_, a.eval x, hr, by simp [execOp, hop, e], hx⟩
  case h_2 t d f hx' =>
   rw [hx'] at hx
   obtain ⟨b, oo, us, e, _⟩ := id hx
   exact Jf h ⟨_, a.eval x, hr, by simp [execOp, hop, e], hx⟩
  case h_3 t i j f hx' =>
   rw [hx'] at hx
   obtain ⟨_, b, oo, n, cap, _, e⟩ := id hx
   exact Jf h ⟨_, a.eval x, hr, by simp [execOp, hop, e], hx⟩
  case h_4 f cs hx' =>
   rw [hx'] at hx
   obtain ⟨vs, e, _⟩ := id hx
   exact Jf h ⟨_, a.eval x, hr, by simp [execOp, hop, e], hx⟩
  case h_5 => cases hr
 case h_11 op xt x y yt hop =>
  have hx := h.ev x
  have hy := h.ev y
  have hnilv : (σ.ev y) = .val (.one .nils) → a.eval y = .slice none 0 0 := fun e => by rw [e] at hy; exact hy
  unfold aNil at hr
  split at hr
  case h_1 _ e e' xs hu hx' hy' =>
   rw [hx'] at hx
   obtain ⟨A, cap, e1, _, _, h3⟩ := hx
   have e1 : a.eval x = .slice A xs.length cap := by simpa using e1
   have hg := Jj (P := P) (w := w) .eql xt x y (.slice A xs.length cap) (.slice none 0 0) (by simp) (by simp)
   have hrun : (execOp a.eval o).run P w = .ok (.value (.bool A.isNone)) w := by
    simp [execOp, hop, e1, hnilv hy', hg, Lib.run_eql_slice_nil w xt _ A xs.length cap 0 0 hu]
   split at hr
   ·obtain ⟨r1, r2⟩ := Qhf hr
    refine Jf h ⟨one .bool A.isNone, _, ?_, hrun, J3 _⟩
    cases A with
    | none => exact r1
    | some _ => exact r2
   ·rename_i y0 ys
    rcases h3 with h3 | ⟨b, oo, rfl, _⟩
    ·cases h3
    ·exact Jf h ⟨one .bool false, _, hr, hrun, J3 _⟩
  case h_2 _ e e' xs hu hx' hy' =>
   rw [hx'] at hx
   obtain ⟨A, cap, e1, _, _, h3⟩ := hx
   have e1 : a.eval x = .slice A xs.length cap := by simpa using e1
   have hg := Jj (P := P) (w := w) .neq xt x y (.slice A xs.length cap) (.slice none 0 0) (by simp) (by simp)
   have hrun : (execOp a.eval o).run P w = .ok (.value (.bool (!A.isNone))) w := by
    simp [execOp, hop, e1, hnilv hy', hg, run_neq_slice_nil_any w xt _ A xs.length cap 0 0 hu]
   split at hr
   ·obtain ⟨r1, r2⟩ := Qhf hr
    refine Jf h ⟨one .bool (!A.isNone), _, ?_, hrun, J3 _⟩
    cases A with
    | none => exact r2
    | some _ => exact r1
   ·rename_i y0 ys
    rcases h3 with h3 | ⟨b, oo, rfl, _⟩
    ·cases h3
    ·exact Jf h ⟨one .bool true, _, hr, hrun, J3 _⟩
  case h_3 _ e hu hx' hy' =>
   rw [hx'] at hx
   have e1 : a.eval x = .slice none 0 0 := hx
   have hg := Jj (P := P) (w := w) .eql xt x y (.slice none 0 0) (.slice none 0 0) (by simp) (by simp)
   exact Jf h ⟨one .bool true, .bool true, hr, by simp [execOp, hop, e1, hnilv hy', hg, Lib.run_eql_slice_nil w xt _ none 0 0 0 0 hu], J3 _⟩
  case h_4 _ e hu hx' hy' =>
   rw [hx'] at hx
   have e1 : a.eval x = .slice none 0 0 := hx
   have hg := Jj (P := P) (w := w) .neq xt x y (.slice none 0 0) (.slice none 0 0) (by simp) (by simp)
   exact Jf h ⟨one .bool false, .bool false, hr, by simp [execOp, hop, e1, hnilv hy', hg, run_neq_slice_nil_any w xt _ none 0 0 0 0 hu], J3 _⟩
  case h_5 =>
   obtain ⟨av, z, h1, h2, h3⟩ := Qql hx hy hr x y
   exact Jf h ⟨av, z, h1, by simp only [execOp, hop, Sem.run_bind, h2, Result.andThen_ok]; rfl, h3⟩
 case h_12 op xt x hop =>
  obtain ⟨av, z, h1, h2, h3⟩ := QqP (P := P) (h.ev x) hr
  exact Jf h ⟨av, z, h1, by simp [execOp, hop, h2], h3⟩
 case h_13 s d x hop => exact Qih h hN hop hr
 case h_14 t x lo hi mx hop =>
  split at hr
  ·rename_i q hq
   exact Qnx h hN hop hq hr
  ·exact Qkv h hN hop hr
 case h_15 s x f hop =>
  obtain ⟨av, z, h1, h2, h3⟩ := QiD (h.ev x) hr
  exact Jf h ⟨av, z, h1, by simp [execOp, hop, h2], h3⟩
 case h_16 s x f hop =>
  obtain ⟨av, z, h1, h2, h3⟩ := Qok (h.ev x) hr
  exact Jf h ⟨av, z, h1, by simp [execOp, hop, h2], h3⟩
 case h_17 t x i hop =>
  obtain ⟨av, z, h1, h2, h3⟩ := QiC h (h.ev x) (h.ev i) hr
  exact Jf h ⟨av, z, h1, by simp [execOp, hop, h2], h3⟩
 case h_18 t x i hop =>
  obtain ⟨av, z, h1, h2, h3⟩ := Qoj (h.ev x) (h.ev i) hr
  exact Jf h ⟨av, z, h1, by simp [execOp, hop, h2], h3⟩
 case h_19 x i hop =>
  obtain ⟨av, z, h1, h2, h3⟩ := QkW (P := P) (h.ev x) hr
  exact Jf h ⟨av, z, h1, by simp [execOp, hop, h2], h3⟩
 case h_20 t l c hop =>
  split at hr
  ·rename_i n hn
   exact Qig h hN hop hn hr
  ·split at hr
   ·exact Qjn h hN hop hr
   ·exact Qgf h hN hop hr
 case h_21 f first caps hop =>
  split at hr
  ·rename_i ps hfirst hps
   have hv := Qm7 hps (h.evs caps.toList)
   have hf0 : first = #[] := by cases first; simp_all
   subst hf0
   refine Jf h ⟨_, .func (.func f) #[] (caps.toList.map a.eval).toArray, hr, ?_, ⟨_, rfl, hv⟩⟩
   have e1 : (caps.toList.map a.eval).toArray = caps.map a.eval := by apply Array.ext'; simp
   rw [e1]
   simp [execOp, hop, Instr.makeFunc]
  ·cases hr
 case h_22 c hop =>
  split at hr
  case h_1 hc =>
   split at hr
   ·rename_i x t hx ht
    split at hr
    ·exact Qjp h hop hc hx ht hr
    obtain ⟨y, hl, he⟩ := QnP hx
    have hx := h.ev y
    rw [he] at hx
    obtain ⟨av, z, h1, h2, h3⟩ := Qqj (ty := o.type) h hx hr
    have e1 : c.argTypes = #[t] := by apply Array.ext'; simpa using ht
    exact Jf h ⟨av, z, h1, by simp [execOp, hop, resolve, hc, invoke, builtin, hl, e1, h2], h3⟩
   ·cases hr
  case h_2 hc =>
   split at hr
   ·rename_i s x hx
    split at hr
    ·rename_i q hq
     exact Qij h hN hop hc hx hq hr
    ·exact Qjs h hN hop hc hx hr
   ·cases hr
  case h_3 hc =>
   have hv := h.evs c.args.toList
   obtain ⟨av, z, v0, rest, h1, h2, h3, h4⟩ := QhO (P := P) (g := Builtin.max2) (fun k x y => by simp [Builtin.max2, mxI]) Qq8 hv hr
   refine Jf h ⟨av, z, h1, ?_, h4⟩
   simp [execOp, hop, resolve, hc, invoke, builtin, Builtin.max_, h2, h3]
  case h_4 hc =>
   have hv := h.evs c.args.toList
   obtain ⟨av, z, v0, rest, h1, h2, h3, h4⟩ := QhO (P := P) (g := Builtin.min2) (fun k x y => by simp [Builtin.min2, mnI]) Qq9 hv hr
   refine Jf h ⟨av, z, h1, ?_, h4⟩
   simp [execOp, hop, resolve, hc, invoke, builtin, Builtin.min_, h2, h3]
  case h_5 f hc =>
   split at hr
   ·rename_i g caps hf
    split at hr
    ·rename_i q hq
     exact Qnw hΓ h hop hc hf hq hr
    ·exact Ql7 hΓ h hN hop hc hf hr
   ·cases hr
  case h_6 hc =>
   split at hr
   ·rename_i x y t ts hx ht
    exact Qjr h hop hc hx ht hr
   ·cases hr
  case h_7 hc =>
   split at hr
   ·rename_i d x hx
    exact Ql6 h hop hc hx hr
   ·cases hr
  case h_8 => cases hr
 case h_23 t hop => exact Qif h hN hop hr
 case h_24 t x y okb hop => exact Qjo h hop hr
 case h_25 t x y z hop => exact Qge h hop hr
 case h_26 => cases hr
end
end Go.Abs
namespace Go.Abs
def Cell.idsIn (M : Nat → Prop) : Cell → Prop
 | .own _ id => M id
 | .ptr id _ => M id
 | .eptr _ id _ _ => M id
 | .win _ id _ _ => M id
 | .bsl id _ => M id
 | .fn _ caps => ∀ c ∈ caps, M c.1
 | _ => True
def V1.idsIn (M : Nat → Prop) : V1 → Prop
 | .one c => c.idsIn M
 | .agg cs => ∀ c ∈ cs, c.idsIn M
def AV.idsIn (M : Nat → Prop) : AV → Prop
 | .val x => x.idsIn M
 | .tup l => ∀ x ∈ l, x.idsIn M
def AO.idsIn (M : Nat → Prop) : AO → Prop
 | .box cs => ∀ c ∈ cs, c.idsIn M
 | .arr _ _ _ => True
section
variable {P : Program} {R : Type} {F : Fr} {ι ι' : Nat → Value} {ok : Ok} {N M : Nat → Prop} {σ σ0 : St} {a : Act} {w : World} {o : Oper} {r : R}
theorem All2.left {α β : Type} {Q : α → β → Prop} {Z : α → Prop} (hz : ∀ a b, Q a b → Z a) : ∀ {l : List α} {m : List β}, All2 Q l m → ∀ x ∈ l, Z x
 | [], [], _, x, hx => by cases hx
 | a :: l, b :: m, h, x, hx => by
  rcases List.mem_cons.1 hx with rfl | hx
  ·exact hz _ _ h.1
  ·exact All2.left hz h.2 x hx
 | [], _ :: _, h, _, _ => h.elim
 | _ :: _, [], h, _, _ => h.elim
theorem All2.monoL {α β : Type} {Q Q' : α → β → Prop} : ∀ {l : List α} {m : List β}, (∀ a ∈ l, ∀ b, Q a b → Q' a b) → All2 Q l m → All2 Q' l m
 | [], [], _, _ => trivial
 | a :: l, b :: m, hq, h => ⟨hq a (by simp) b h.1, All2.monoL (fun x hx => hq x (by simp [hx])) h.2⟩
 | [], _ :: _, _, h => h.elim
 | _ :: _, [], _, h => h.elim
theorem RepC.ids {c : Cell} {v : Value} (h : RepC w ok ι N c v) : c.idsIn N := by
 cases c with
 | own t id => exact h.1
 | ptr id off => exact h.1
 | eptr t id i off => exact h.1
 | win t id lo n => exact h.1
 | bsl id n => exact h.1
 | fn f caps => obtain ⟨vs, _, h⟩ := h; exact All2.left (fun _ _ hc => hc.1) h
 | _ => trivial
theorem V2.ids {x : V1} {v : Value} (h : V2 w ok ι N x v) : x.idsIn N := by
 cases x with
 | one c => exact RepC.ids h
 | agg cs => obtain ⟨vs, _, h⟩ := h; exact All2.left (fun _ _ hc => RepC.ids hc) h
theorem QR.ids {x : AV} {v : Value} (h : QR w ok ι N x v) : x.idsIn N := by
 cases x with
 | val x => exact V2.ids h
 | tup l => obtain ⟨vs, _, h⟩ := h; exact All2.left (fun _ _ hc => V2.ids hc) h
theorem QN.ids {o : AO} {v : Value} (h : QN w ok ι N o v) : o.idsIn N := by
 cases o with
 | box cs => obtain ⟨B, c, T, _, _, h, _⟩ := h; exact All2.left (fun _ _ hc => RepC.ids hc) h
 | arr t xs mu => trivial
theorem Qcf.chg (hι : ∀ i, M i → ι' i = ι i) {c : Nat × Nat} {v : Value} (h : Qcf ι N c v) (hi : M c.1) : Qcf ι' M c v := by
 obtain ⟨_, B, h1, h2⟩ := h
 exact ⟨hi, B, by rw [hι _ hi]; exact h1, h2⟩
theorem RepC.chg (hι : ∀ i, M i → ι' i = ι i) {c : Cell} {v : Value} (h : RepC w ok ι N c v) (hi : c.idsIn M) : RepC w ok ι' M c v := by
 cases c with
 | any => trivial
 | skip => exact h
 | dat t x => exact h
 | nils => exact h
 | nilp => exact h
 | own t id => exact ⟨hi, by rw [hι _ hi]; exact h.2.1, h.2.2⟩
 | ptr id off => exact Qcf.chg hι h hi
 | vptr t x off => exact h
 | eptr t id i off => obtain ⟨_, b, o, n, cap, h1, h2⟩ := h; exact ⟨hi, b, o, n, cap, by rw [hι _ hi]; exact h1, h2⟩
 | win t id lo n => obtain ⟨_, b, o, len, cap, c', h1, h2⟩ := h; exact ⟨hi, b, o, len, cap, c', by rw [hι _ hi]; exact h1, h2⟩
 | bsl id n => obtain ⟨_, B, h1, h2⟩ := h; exact ⟨hi, B, by rw [hι _ hi]; exact h1, h2⟩
 | wptr => exact h
 | wint => exact h
 | nilf => exact h
 | fn f caps => obtain ⟨vs, e, h⟩ := h; exact ⟨vs, e, All2.monoL (fun c hc v hv => Qcf.chg hι hv (hi c hc)) h⟩
theorem V2.chg (hι : ∀ i, M i → ι' i = ι i) {x : V1} {v : Value} (h : V2 w ok ι N x v) (hi : x.idsIn M) : V2 w ok ι' M x v := by
 cases x with
 | one c => exact RepC.chg hι h hi
 | agg cs => obtain ⟨vs, e, h⟩ := h; exact ⟨vs, e, All2.monoL (fun c hc v hv => RepC.chg hι hv (hi c hc)) h⟩
theorem QR.chg (hι : ∀ i, M i → ι' i = ι i) {x : AV} {v : Value} (h : QR w ok ι N x v) (hi : x.idsIn M) : QR w ok ι' M x v := by
 cases x with
 | val x => exact V2.chg hι h hi
 | tup l => obtain ⟨vs, e, h⟩ := h; exact ⟨vs, e, All2.monoL (fun c hc v hv => V2.chg hι hv (hi c hc)) h⟩
theorem QN.chg (hι : ∀ i, M i → ι' i = ι i) {o : AO} {v : Value} (h : QN w ok ι N o v) (hi : o.idsIn M) : QN w ok ι' M o v := by
 cases o with
 | box cs => obtain ⟨B, c, T, e, h1, h2, h3⟩ := h; exact ⟨B, c, T, e, h1, All2.monoL (fun c hc v hv => RepC.chg hι hv (hi c hc)) h2, h3⟩
 | arr t xs mu => exact h.arr
theorem Qeu (n : Nat) : ∀ l : List Nat, Qev n l = true ↔ ∀ a ∈ l, a < n
 | [] => by simp [Qev]
 | a :: r => by simp [Qev, Qeu n r]
theorem QgJ (n : Nat) : ∀ l : List Nat, QkO n l = true ↔ ∀ a ∈ l, n ≤ a
 | [] => by simp [QkO]
 | a :: r => by simp [QkO, QgJ n r]
theorem Qll {α : Type} : ∀ {l : List (Nat × α)} {c : Nat × α}, c ∈ l → c.1 ∈ fsts l
 | [], _, h => by cases h
 | (i, x) :: r, c, h => by
  rcases List.mem_cons.1 h with rfl | h
  ·simp [fsts]
  ·simp [fsts, Qll h]
def V7 : List CK → List Cell → List (Nat × Option Nat)
 | .own _ t _ :: ks, .own _ id :: cs => (t, some id) :: V7 ks cs
 | .own _ t _ :: ks, _ :: cs => (t, none) :: V7 ks cs
 | _ :: ks, _ :: cs => V7 ks cs
 | _, _ => []
def Qj7 (ι : Nat → Value) : Option Nat → Value
 | some id => ι id
 | none => .slice none 0 0
theorem Qb0 (c : Cell) (ks : List CK) (d : Cell) (cs : List Cell) : V7 (.cst c :: ks) (d :: cs) = V7 ks cs := by cases d <;> rfl
theorem QbZ (t : Ty) (ks : List CK) (d : Cell) (cs : List Cell) : V7 (.dat t :: ks) (d :: cs) = V7 ks cs := by cases d <;> rfl
theorem QbY : ∀ {ks : List CK} {cs : List Cell}, ks.length = cs.length → (V7 ks cs).map (·.1) = tgts ks
 | [], [], _ => rfl
 | [], _ :: _, h => by simp at h
 | _ :: _, [], h => by simp at h
 | .cst c :: ks, d :: cs, h => by rw [Qb0]; exact QbY (ks := ks) (by simpa using h)
 | .dat t :: ks, d :: cs, h => by rw [QbZ]; exact QbY (ks := ks) (by simpa using h)
 | .own t g mu :: ks, d :: cs, h => by
  have ih := QbY (ks := ks) (cs := cs) (by simpa using h)
  cases d <;> simp [V7, tgts, ih]
theorem Qc9 : ∀ {ks : List CK} {cs : List Cell}, ks.length = cs.length → (V7 ks cs).filterMap (·.2) = srcs ks cs
 | [], [], _ => rfl
 | [], _ :: _, h => by simp at h
 | _ :: _, [], h => by simp at h
 | .cst c :: ks, d :: cs, h => by
  have ih := Qc9 (ks := ks) (cs := cs) (by simpa using h)
  rw [Qb0, ih]; cases d <;> rfl
 | .dat t :: ks, d :: cs, h => by
  have ih := Qc9 (ks := ks) (cs := cs) (by simpa using h)
  rw [QbZ, ih]; cases d <;> rfl
 | .own t g mu :: ks, d :: cs, h => by
  have ih := Qc9 (ks := ks) (cs := cs) (by simpa using h)
  cases d <;> simp [V7, srcs, ih]
theorem Qho {α : Type} : ∀ {l : List (Nat × α)} {i : Nat} {s : α}, (l.map (·.1)).Nodup → (i, s) ∈ l → look l i = some s
 | [], _, _, _, h => by cases h
 | (j, u) :: r, i, s, hn, h => by
  rw [List.map_cons, List.nodup_cons] at hn
  rw [Q8]
  rcases List.mem_cons.1 h with e | h
  ·cases e; simp
  ·have : j ≠ i := fun e => hn.1 (by subst e; exact List.mem_map.2 ⟨_, h, rfl⟩)
   rw [if_neg this]; exact Qho hn.2 h
theorem Qf3 : ∀ {l : List (Nat × Option Nat)} {i j s : Nat}, (l.filterMap (·.2)).Nodup → (l.map (·.1)).Nodup → (i, some s) ∈ l → (j, some s) ∈ l → i = j
  | [], _, _, _, _, _, h, _ => by cases h
  | (k, none) :: r, i, j, s, hn, hm, h1, h2 => by
    rw [List.map_cons, List.nodup_cons] at hm
    have a1 : (i, some s) ∈ r := by rcases List.mem_cons.1 h1 with e | h; · cases e
                                    · exact h
    have a2 : (j, some s) ∈ r := by rcases List.mem_cons.1 h2 with e | h; · cases e
                                    · exact h
    exact Qf3 (by simpa using hn) hm.2 a1 a2
  | (k, some u) :: r, i, j, s, hn, hm, h1, h2 => by
    rw [List.map_cons, List.nodup_cons] at hm
    simp only [List.filterMap_cons] at hn
    rw [List.nodup_cons] at hn
    have key : ∀ {x : Nat}, (x, some s) ∈ r → s ∈ r.filterMap (·.2) := fun h => List.mem_filterMap.2 ⟨_, h, rfl⟩
    rcases List.mem_cons.1 h1 with e1 | h1
    · rcases List.mem_cons.1 h2 with e2 | h2
      · cases e1; cases e2; rfl
      · cases e1; exact absurd (key h2) hn.1
    · rcases List.mem_cons.1 h2 with e2 | h2
      · cases e2; exact absurd (key h1) hn.1
      · exact Qf3 hn.2 hm.2 h1 h2
theorem Qeh : ∀ {ks : List CK} {cs : List Cell} {p : (tupT (pay ks)).den}, grab σ ks cs = some p → ks.length = cs.length
 | [], [], _, _ => rfl
 | [], _ :: _, _, h => by simp [grab] at h
 | .cst c :: ks, [], _, h => by simp [grab] at h
 | .dat t :: ks, [], _, h => by simp [grab] at h
 | .own t g mu :: ks, [], _, h => by simp [grab] at h
 | .cst c :: ks, d :: cs, p, h => by
  simp only [grab] at h
  cases hb : c.same d with
  | false => simp [hb] at h
  | true => simp only [hb, cond_true] at h; simp [Qeh h]
 | .dat t :: ks, d :: cs, p, h => by
  simp only [grab] at h
  split at h
  ·split at h
   ·rename_i y hy; simp [Qeh hy]
   ·cases h
  ·cases h
 | .own t g mu :: ks, d :: cs, p, h => by
  simp only [grab] at h
  split at h
  ·split at h
   ·rename_i y hy; simp [Qeh hy]
   ·cases h
  ·cases h
theorem QfO (h : Sim F ι ok N σ a w) {t : Ty} {mu : MK} {c : Cell} {x : List t.den} (hc : c.toOwn σ t mu = some x) {v : Value} (hv : RepC w ok ι N c v) :
  ((∃ a n k, v = .slice a n k) ∨ ∃ b, v = .map (some b)) ∧ ((∃ e id, c = .own e id ∧ v = ι id ∧ (∃ e' xs m, σ.ob id = some (.arr e' xs m)) ∧ QN w ok ι N (.arr t x mu) v) ∨ (c = .nils ∧ v = .slice none 0 0 ∧ x = [] ∧ mu.isSl = true)) := by
 cases c with
 | own e id =>
  simp only [Cell.toOwn] at hc
  split at hc
  ·rename_i e' xs m ho
   cases hb : e'.beq e && m.beq mu with
   | false => simp [hb] at hc
   | true =>
    simp only [hb, cond_true] at hc
    obtain ⟨e1, hx⟩ := Ty.to_some hc
    cases e1; subst hx
    simp only [Bool.and_eq_true] at hb
    have hm : m = mu := MK.eq_of_beq hb.2
    subst hm
    obtain ⟨_, g2, _⟩ := h.objs id _ ho
    refine ⟨hv.2.2, .inl ⟨e, id, rfl, hv.2.1, ⟨_, _, _, ho⟩, by rw [hv.2.1]; exact g2⟩⟩
  ·cases hc
 | nils =>
  change (bif mu.isSl then some ([] : List t.den) else none) = some x at hc
  cases hm : mu.isSl with
  | false => rw [hm] at hc; cases hc
  | true =>
   rw [hm] at hc
   cases hc
   cases (show v = _ from hv)
   exact ⟨.inl ⟨_, _, _, rfl⟩, .inr ⟨rfl, rfl, rfl, rfl⟩⟩
 | _ => simp [Cell.toOwn] at hc
theorem Qdi (h : Sim F ι ok N σ a w) {n0 : Nat} (hM : ∀ i, i < n0 → N i → M i ∧ ι' i = ι i) : ∀ {ks : List CK} {cs : List Cell} {vs : List Value} {p : (tupT (pay ks)).den}, grab σ ks cs = some p → All2 (RepC w ok ι N) cs vs → Qcp n0 ks = true →
  (∀ i s, (i, s) ∈ V7 ks cs → M i ∧ ι' i = Qj7 ι s) → All2 (RepC w ok ι' M) (Qh8 ks p) vs
 | [], [], [], _, _, _, _, _ => trivial
 | [], [], _ :: _, _, _, hv, _, _ => hv.elim
 | [], _ :: _, _, _, hg, _, _, _ => by simp [grab] at hg
 | .cst c :: ks, [], _, _, hg, _, _, _ => by simp [grab] at hg
 | .dat t :: ks, [], _, _, hg, _, _, _ => by simp [grab] at hg
 | .own t g mu :: ks, [], _, _, hg, _, _, _ => by simp [grab] at hg
 | _ :: _, _ :: _, [], _, _, hv, _, _ => hv.elim
 | .cst c :: ks, d :: cs, v :: vs, p, hg, hv, hc, hp => by
  simp only [grab] at hg
  rw [Qb0] at hp
  cases hb : c.same d with
  | false => simp [hb] at hg
  | true =>
   simp only [hb, cond_true] at hg
   have hc2 : Qcp n0 ks = true := by cases c <;> simp_all [Qcp]
   refine ⟨?_, Qdi h hM (ks := ks) hg hv.2 hc2 hp⟩
   cases c with
   | any => trivial
   | skip => cases d <;> simp [Cell.same] at hb; exact hv.1
   | nils => cases d <;> simp [Cell.same] at hb; exact hv.1
   | nilp => cases d <;> simp [Cell.same] at hb; exact hv.1
   | ptr i off =>
    cases d <;> simp [Cell.same] at hb
    obtain ⟨rfl, rfl⟩ := hb
    have hlt : i < n0 := by simp [Qcp] at hc; exact hc.1
    have h1 := hv.1
    obtain ⟨g1, B, g2, g3⟩ := h1
    obtain ⟨k1, k2⟩ := hM i hlt g1
    exact ⟨k1, B, by rw [k2]; exact g2, g3⟩
   | own t i =>
    cases d <;> simp [Cell.same] at hb
    subst hb
    have hlt : i < n0 := by simp [Qcp] at hc; exact hc.1
    obtain ⟨g1, g2, g3⟩ := hv.1
    obtain ⟨k1, k2⟩ := hM i hlt g1
    exact ⟨k1, by rw [k2]; exact g2, g3⟩
   | fn f caps =>
    cases d with
    | fn g ds =>
     simp [Cell.same] at hb
     obtain ⟨e1, rfl⟩ := hb
     have e1 : f = g := e1
     subst e1
     obtain ⟨us, e, h1⟩ := hv.1
     have hall : ∀ c ∈ caps, c.1 < n0 := by
      simp only [Qcp, Bool.and_eq_true] at hc
      have hc1 := hc.1
      exact fun c hc => (Qeu n0 _).1 hc1 c.1 (Qll hc)
     exact ⟨us, e, All2.monoL (fun c hc v hv => by
      obtain ⟨g1, B, g2, g3⟩ := hv
      obtain ⟨k1, k2⟩ := hM c.1 (hall c hc) g1
      exact ⟨k1, B, by rw [k2]; exact g2, g3⟩) h1⟩
    | _ => simp [Cell.same] at hb
   | bsl id k =>
    cases d with
    | bsl id2 k2 =>
     simp [Cell.same] at hb
     obtain ⟨e1, e2⟩ := hb
     subst e1 e2
     have hlt : id < n0 := by simp [Qcp] at hc; exact hc.1
     obtain ⟨g1, B, g2, g3⟩ := hv.1
     obtain ⟨k1, k3⟩ := hM id hlt g1
     exact ⟨k1, B, by rw [k3]; exact g2, g3⟩
    | _ => simp [Cell.same] at hb
   | _ => simp [Qcp] at hc
 | .dat t :: ks, d :: cs, v :: vs, p, hg, hv, hc, hp => by
  simp only [grab] at hg
  rw [QbZ] at hp
  split at hg
  ·rename_i x hx
   split at hg
   ·rename_i y hy
    cases hg
    refine ⟨?_, ?_⟩
    ·show RepD w ok t _ [v]
     rw [Qax]; exact h.toDatS hx hv.1
    ·rw [VE]; exact Qdi h hM (ks := ks) hy hv.2 (by simpa [Qcp] using hc) hp
   ·cases hg
  ·cases hg
 | .own t g mu :: ks, d :: cs, v :: vs, p, hg, hv, hc, hp => by
  simp only [grab] at hg
  split at hg
  ·rename_i x hx
   split at hg
   ·rename_i y hy
    cases hg
    obtain ⟨g1, g2⟩ := QfO h hx hv.1
    refine ⟨?_, ?_⟩
    ·rcases g2 with ⟨e, id, rfl, e2, _, _⟩ | ⟨rfl, e2, _⟩
     ·obtain ⟨k1, k2⟩ := hp g (some id) (by simp [V7])
      exact ⟨k1, by rw [k2]; exact e2, g1⟩
     ·obtain ⟨k1, k2⟩ := hp g none (by simp [V7])
      exact ⟨k1, by rw [k2]; exact e2, g1⟩
    ·rw [VE]
     refine Qdi h hM (ks := ks) hy hv.2 (by simpa [Qcp] using hc) (fun i s hi => hp i s ?_)
     cases d <;> simp [V7, hi]
   ·cases hg
  ·cases hg
theorem QfD (h : Sim F ι ok N σ a w) : ∀ {ks : List CK} {cs : List Cell} {vs : List Value} {p : (tupT (pay ks)).den}, grab σ ks cs = some p → All2 (RepC w ok ι N) cs vs →
  (∀ i b, look (VR ks p) i = some b → ∃ s t xs mu, (i, s) ∈ V7 ks cs ∧ b = some ⟨true, .arr t xs mu⟩ ∧ QN w ok ι N (.arr t xs mu) (Qj7 ι s) ∧ ∀ id, s = some id → ∃ e' ys m, σ.ob id = some (.arr e' ys m)) ∧
  (∀ i, look (VR ks p) i = none → i ∉ tgts ks)
 | [], [], [], _, _, _ => ⟨fun i b hb => by simp [VR, look] at hb, fun i _ => by simp [tgts]⟩
 | [], [], _ :: _, _, _, hv => hv.elim
 | [], _ :: _, _, _, hg, _ => by simp [grab] at hg
 | .cst c :: ks, [], _, _, hg, _ => by simp [grab] at hg
 | .dat t :: ks, [], _, _, hg, _ => by simp [grab] at hg
 | .own t g mu :: ks, [], _, _, hg, _ => by simp [grab] at hg
 | _ :: _, _ :: _, [], _, _, hv => hv.elim
 | .cst c :: ks, d :: cs, v :: vs, p, hg, hv => by
  simp only [grab] at hg
  rw [Qb0]
  cases hb : c.same d with
  | false => simp [hb] at hg
  | true =>
   simp only [hb, cond_true] at hg
   exact QfD h (ks := ks) hg hv.2
 | .dat t :: ks, d :: cs, v :: vs, p, hg, hv => by
  simp only [grab] at hg
  rw [QbZ]
  split at hg
  ·rename_i x hx
   split at hg
   ·rename_i y hy
    cases hg
    have := QfD h (ks := ks) hy hv.2
    simp only [VR, VE]
    exact this
   ·cases hg
  ·cases hg
 | .own t g mu :: ks, d :: cs, v :: vs, p, hg, hv => by
  simp only [grab] at hg
  split at hg
  ·rename_i x hx
   split at hg
   ·rename_i y hy
    cases hg
    obtain ⟨g1, g2⟩ := QfO h hx hv.1
    obtain ⟨q1, q2⟩ := QfD h (ks := ks) hy hv.2
    simp only [VR, VE, Qax]
    refine ⟨fun i b hb => ?_, fun i hi => ?_⟩
    ·rw [Q8] at hb
     split at hb
     ·rename_i e; subst e; cases hb
      rcases g2 with ⟨e, id, rfl, e2, e3, e4⟩ | ⟨rfl, e2, e3, e5⟩
      ·refine ⟨some id, t, x, mu, by simp [V7], rfl, by rw [e2] at e4; exact e4, fun j hj => by cases hj; exact e3⟩
      ·refine ⟨none, t, x, mu, by simp [V7], rfl, QN.of_sl e5 ⟨none, 0, ?_⟩, fun j hj => by cases hj⟩
       subst e3
       exact ⟨rfl, Nat.le_refl _, Nat.zero_le _, .inl ⟨rfl, rfl, rfl⟩⟩
     ·obtain ⟨s, t', xs, mu', m1, m2⟩ := q1 i b hb
      exact ⟨s, t', xs, mu', by cases d <;> simp [V7, m1], m2⟩
    ·rw [Q8] at hi
     split at hi
     ·cases hi
     ·rename_i hne
      simp only [tgts, List.mem_cons, not_or]
      exact ⟨fun e => hne e.symm, q2 i hi⟩
   ·cases hg
  ·cases hg
end
end Go.Abs
namespace Go.Abs
theorem QbJ {α : Type} : ∀ (l m : List (Nat × α)) (n : Nat), look (app l m) n = match look l n with | some v => some v | none => look m n
 | [], _, _ => rfl
 | (i, v) :: r, m, n => by
  simp only [app, Q8]
  split
  ·rfl
  ·exact QbJ r m n
theorem Qf9 : ∀ (d : List Nat) (l : List (Nat × AV)) (t : Nat), look (anys d l) t = if t ∈ d then some (.val (.one .any)) else look l t
 | [], _, _ => by simp [anys]
 | i :: r, l, t => by
  simp only [anys, Q8, Qf9 r l t, List.mem_cons]
  by_cases e : i = t
  ·subst e; simp
  ·have : ¬ t = i := fun h => e h.symm
   simp [e, this]
theorem Qde : ∀ (d : List Nat) (l : List (Nat × Option Ob)) (t : Nat), look (Qnn d l) t = if t ∈ d then some none else look l t
 | [], _, _ => by simp [Qnn]
 | i :: r, l, t => by
  simp only [Qnn, Q8, Qde r l t, List.mem_cons]
  by_cases e : i = t
  ·subst e; simp
  ·have : ¬ t = i := fun h => e h.symm
   simp [e, this]
section
variable {P : Program} {R : Type} {F : Fr} {ι ι' : Nat → Value} {ok : Ok} {N M : Nat → Prop} {σ σ0 : St} {a : Act} {w : World} {o : Oper} {r : R}
theorem JR {Q : St → St → Prop} (hr : ∀ σ, Q σ σ) (ht : ∀ a b c, Q a b → Q b c → Q a c) (h1 : ∀ σ c, Q σ (σ.freeze1 c)) : ∀ (ks : List CK) (cs : List Cell) (σ : St), Q σ (freezeCk σ ks cs)
 | [], [], σ => hr σ
 | [], _ :: _, σ => hr σ
 | .cst _ :: _, [], σ => hr σ
 | .dat _ :: _, [], σ => hr σ
 | .own _ _ .wr :: _, [], σ => hr σ
 | .own _ _ (.mp _ _) :: _, [], σ => hr σ
 | .own _ _ (.cp _) :: _, [], σ => hr σ
 | .own _ _ .fr :: _, [], σ => hr σ
 | .cst _ :: ks, _ :: cs, σ => JR hr ht h1 ks cs σ
 | .dat _ :: ks, c :: cs, σ => ht _ _ _ (h1 σ c) (JR hr ht h1 ks cs _)
 | .own _ _ .fr :: ks, c :: cs, σ => ht _ _ _ (h1 σ c) (JR hr ht h1 ks cs _)
 | .own _ _ .wr :: ks, _ :: cs, σ => JR hr ht h1 ks cs σ
 | .own _ _ (.mp _ _) :: ks, _ :: cs, σ => JR hr ht h1 ks cs σ
 | .own _ _ (.cp _) :: ks, _ :: cs, σ => JR hr ht h1 ks cs σ
theorem Sim.freezeCk : ∀ (ks : List CK) (cs : List Cell) {ok : Ok} {σ : St}, Sim F ι ok N σ a w → ∃ ok', Sim F ι ok' N (freezeCk σ ks cs) a w ∧ ok.Le ok' := by
 intro ks cs ok σ h
 exact JR (Q := fun σ σ' => ∀ ok, Sim F ι ok N σ a w → ∃ ok', Sim F ι ok' N σ' a w ∧ ok.Le ok') (fun σ ok h => ⟨ok, h, Ok.Le.refl ok⟩)
  (fun _ _ _ h1 h2 ok h => by
   obtain ⟨o1, s1, l1⟩ := h1 ok h
   obtain ⟨o2, s2, l2⟩ := h2 o1 s1
   exact ⟨o2, s2, l1.trans l2⟩) (fun σ c ok h => h.freeze1 c) ks cs σ ok h
theorem Qkz (σ : St) (c : Cell) (i : Nat) (ds : List Cell) (h : σ.ob i = some (.box ds)) : (σ.freeze1 c).ob i = some (.box ds) := by
 unfold St.freeze1
 split
 ·split
  ·rename_i id _ t xs hl
   have e : id ≠ i := fun e => by subst e; rw [hl] at h; cases h
   simpa [St.ob, Q8, e] using h
  ·exact h
 ·exact h
theorem QjD (ks : List CK) (cs : List Cell) (σ : St) : ∀ (i : Nat) (ds : List Cell), σ.ob i = some (.box ds) → (Abs.freezeCk σ ks cs).ob i = some (.box ds) :=
 JR (Q := fun σ σ' => ∀ (i : Nat) (ds : List Cell), σ.ob i = some (.box ds) → σ'.ob i = some (.box ds)) (fun _ _ _ h => h) (fun _ _ _ h1 h2 i ds h => h2 i ds (h1 i ds h)) Qkz ks cs σ
theorem QkA (σ : St) (c : Cell) (i : Nat) (h : ∃ t xs mu, σ.ob i = some (.arr t xs mu)) : ∃ t xs mu, (σ.freeze1 c).ob i = some (.arr t xs mu) := by
 unfold St.freeze1
 split
 ·split
  ·rename_i id _ t xs hl
   by_cases e : id = i
   ·subst e; exact ⟨t, xs, .fr, by simp [St.ob, Q8]⟩
   ·obtain ⟨t', xs', mu', h⟩ := h; exact ⟨t', xs', mu', by simpa [St.ob, Q8, e] using h⟩
  ·exact h
 ·exact h
theorem QjE (ks : List CK) (cs : List Cell) (σ : St) : ∀ (i : Nat), (∃ t xs mu, σ.ob i = some (.arr t xs mu)) → ∃ t xs mu, (Abs.freezeCk σ ks cs).ob i = some (.arr t xs mu) :=
 JR (Q := fun σ σ' => ∀ (i : Nat), (∃ t xs mu, σ.ob i = some (.arr t xs mu)) → ∃ t xs mu, σ'.ob i = some (.arr t xs mu)) (fun _ _ h => h) (fun _ _ _ h1 h2 i h => h2 i (h1 i h)) QkA ks cs σ
theorem QjC (ks : List CK) (cs : List Cell) (σ : St) : Zp σ (Abs.freezeCk σ ks cs) :=
 JR Zp.refl (fun _ _ _ => Zp.trans) Zp.freeze1 ks cs σ
theorem Zp.get {σ σ' : St} (h : Zp σ σ') (t : Nat) : σ'.get t = σ.get t := by unfold St.get; rw [h.tm]
def Tvs (a : Act) : List (Nat × Bool × List CK) → List Value → Prop
 | [], vs => vs = []
 | (t, false, ks) :: r, vs => ks.length = 1 ∧ ∃ vs', vs = a.tmps.getD t undef :: vs' ∧ Tvs a r vs'
 | (t, true, ks) :: r, vs => ∃ us vs' : List Value, vs = us ++ vs' ∧ us.length = ks.length ∧ a.tmps.getD t undef = .agg us.toArray ∧ Tvs a r vs'
theorem QjQ (h : Sim F ι ok N σ a w) : ∀ {tms : List (Nat × Bool × List CK)} {cs : List Cell}, Qlz σ tms = some cs → ∃ vs, All2 (RepC w ok ι N) cs vs ∧ Tvs a tms vs ∧ cs.length = (cksT tms).length
 | [], cs, hc => by cases hc; exact ⟨[], trivial, rfl, rfl⟩
 | (t, ag, ks) :: r, cs, hc => by
  simp only [Qlz] at hc
  split at hc
  ·cases hc
  ·rename_i cs' hcs
   obtain ⟨vs, h1, h2, h3⟩ := QjQ h hcs
   have ht := h.tms t
   split at hc
   ·rename_i c hg
    rw [hg] at ht
    cases hb : Nat.beq ks.length 1 with
    | false => simp [hb] at hc
    | true =>
     simp only [hb, cond_true] at hc
     cases hc
     have hb := Nat.eq_of_beq_eq_true hb
     exact ⟨_ :: vs, ⟨ht, h1⟩, ⟨hb, vs, rfl, h2⟩, by simp [cksT, h3, hb]; omega⟩
   ·rename_i ds hg
    rw [hg] at ht
    cases hb : Nat.beq ks.length ds.length with
    | false => simp [hb] at hc
    | true =>
     simp only [hb, cond_true] at hc
     cases hc
     have hb := Nat.eq_of_beq_eq_true hb
     obtain ⟨us, e, hu⟩ := ht
     exact ⟨us ++ vs, All2.app hu h1, ⟨us, vs, rfl, by rw [← hu.len, hb], e, h2⟩, by simp [cksT, h3, hb]⟩
   ·cases hc
theorem Qkm : ∀ {tms : List (Nat × Bool × List CK)} {cs : List Cell} {vs more : List Value}, Tvs a tms vs → All2 (RepC w ok ι N) cs (vs ++ more) →
  (∀ t av, look (putT tms cs) t = some av → QR w ok ι N av (a.tmps.getD t undef)) ∧ ∀ t, look (putT tms cs) t = none ↔ t ∉ fsts tms
 | [], cs, vs, more, _, _ => ⟨fun t av h => by simp [putT, look] at h, fun t => by simp [putT, look, fsts]⟩
 | (t0, false, ks) :: r, cs, vs, more, ⟨hk, vs', e, h2⟩, hv => by
  subst e
  cases cs with
  | nil => exact hv.elim
  | cons c cs =>
   obtain ⟨q1, q2⟩ := Qkm (tms := r) (cs := cs) (vs := vs') (more := more) h2 hv.2
   have e1 : (c :: cs).drop ks.length = cs := by rw [hk]; rfl
   refine ⟨fun t av ht => ?_, fun t => ?_⟩
   ·simp only [putT, Q8, e1] at ht
    split at ht
    ·rename_i e; subst e; cases ht; exact hv.1
    ·exact q1 t av ht
   ·simp only [putT, Q8, e1, fsts, List.mem_cons, not_or]
    by_cases e : t0 = t
    ·subst e; simp
    ·have : ¬ t = t0 := fun h => e h.symm
     simp [e, this, q2 t]
 | (t0, true, ks) :: r, cs, vs, more, ⟨us, vs', e, hl, hag, h2⟩, hv => by
  subst e
  have hv1 := hv.take ks.length
  have hv2 := hv.drop ks.length
  rw [← hl] at hv1 hv2
  rw [List.append_assoc, List.take_left' rfl] at hv1
  rw [List.append_assoc, List.drop_left' rfl] at hv2
  obtain ⟨q1, q2⟩ := Qkm (tms := r) (cs := cs.drop us.length) (vs := vs') (more := more) h2 hv2
  refine ⟨fun t av ht => ?_, fun t => ?_⟩
  ·simp only [putT, Q8, ← hl] at ht
   split at ht
   ·rename_i e; subst e; cases ht; exact ⟨us, hag, hv1⟩
   ·exact q1 t av ht
  ·simp only [putT, Q8, ← hl, fsts, List.mem_cons, not_or]
   by_cases e : t0 = t
   ·subst e; simp
   ·have : ¬ t = t0 := fun h => e h.symm
    simp [e, this, q2 t]
def Bvs (w : World) (ok : Ok) (ι : Nat → Value) (σ : St) : List (Nat × List CK) → List Value → Prop
 | [], vs => vs = []
 | (id, ks) :: r, vs => ∃ (us vs' : List Value) (B : Nat) (T : TypeId), vs = us ++ vs' ∧ us.length = ks.length ∧ ι id = .pointer (some ⟨B, 0, none⟩) ∧ w.heap[B]? = some (.cells us.toArray T (0, 0)) ∧ (∀ j, ¬ok B j) ∧ (∃ ds, σ.ob id = some (.box ds)) ∧ Bvs w ok ι σ r vs'
theorem QjS {τ : St} (hτ : ∀ id ds, τ.ob id = some (.box ds) → σ.ob id = some (.box ds)) (h : Sim F ι ok N σ a w) : ∀ {bxs : List (Nat × List CK)} {cs : List Cell}, QlA τ bxs = some cs → ∃ vs, All2 (RepC w ok ι N) cs vs ∧ Bvs w ok ι σ bxs vs ∧ cs.length = (cksB bxs).length
 | [], cs, hc => by cases hc; exact ⟨[], trivial, rfl, rfl⟩
 | (id, ks) :: r, cs, hc => by
  simp only [QlA] at hc
  split at hc
  ·cases hc
  ·rename_i cs' hcs
   obtain ⟨vs, h1, h2, h3⟩ := QjS hτ h hcs
   split at hc
   ·rename_i ds hg
    have hg := hτ id ds hg
    obtain ⟨_, ⟨B, c, T, hV, m1, m2, m3⟩, _⟩ := h.objs id _ hg
    cases hb : Nat.beq ks.length ds.length with
    | false => simp [hb] at hc
    | true =>
     simp only [hb, cond_true] at hc
     cases hc
     have hb := Nat.eq_of_beq_eq_true hb
     exact ⟨c.toList ++ vs, All2.app m2 h1, ⟨c.toList, vs, B, T, rfl, by rw [← m2.len, hb], hV, by simpa using m1, m3, ⟨ds, hg⟩, h2⟩, by simp [cksB, h3, hb]⟩
   ·cases hc
theorem Qm6 : ∀ {bxs : List (Nat × List CK)} {cs : List Cell} {vs more : List Value}, Bvs w ok ι σ bxs vs → All2 (RepC w ok ι' M) cs (vs ++ more) →
  (∀ id b, look (putB bxs cs) id = some b → ∃ ds, b = some ⟨true, .box ds⟩ ∧ QN w ok ι' M (.box ds) (ι id) ∧ ∃ es, σ.ob id = some (.box es)) ∧ ∀ id, look (putB bxs cs) id = none ↔ id ∉ fsts bxs
 | [], cs, vs, more, _, _ => ⟨fun t av h => by simp [putB, look] at h, fun t => by simp [putB, look, fsts]⟩
 | (t0, ks) :: r, cs, vs, more, ⟨us, vs', B, T, e, hl, hV, m1, m3, hob, h2⟩, hv => by
  subst e
  have hv1 := hv.take ks.length
  have hv2 := hv.drop ks.length
  rw [← hl] at hv1 hv2
  rw [List.append_assoc, List.take_left' rfl] at hv1
  rw [List.append_assoc, List.drop_left' rfl] at hv2
  obtain ⟨q1, q2⟩ := Qm6 (bxs := r) (cs := cs.drop us.length) (vs := vs') (more := more) h2 hv2
  refine ⟨fun t av ht => ?_, fun t => ?_⟩
  ·simp only [putB, Q8, ← hl] at ht
   split at ht
   ·rename_i e; subst e; cases ht
    exact ⟨_, rfl, ⟨B, us.toArray, T, hV, m1, by simpa using hv1, m3⟩, hob⟩
   ·exact q1 t av ht
  ·simp only [putB, Q8, ← hl, fsts, List.mem_cons, not_or]
   by_cases e : t0 = t
   ·subst e; simp
   ·have : ¬ t = t0 := fun h => e h.symm
    simp [e, this, q2 t]
theorem QjT {τ : St} (hτ : ∀ id, (∃ t xs mu, τ.ob id = some (.arr t xs mu)) → ∃ t xs mu, σ.ob id = some (.arr t xs mu)) (h : Sim F ι ok N σ a w) : ∀ {ars : List (Nat × Ty × MK)} {cs : List Cell}, QlB τ ars = some cs →
  All2 (RepC w ok ι N) cs ((fsts ars).map ι) ∧ cs.length = (cksA ars).length ∧ (∀ i s, (i, s) ∈ V7 (cksA ars) cs → s = some i) ∧ tgts (cksA ars) = fsts ars
 | [], cs, hc => by cases hc; exact ⟨trivial, rfl, fun i s h => by simp [V7, cksA] at h, rfl⟩
 | (id, t, mu) :: r, cs, hc => by
  simp only [QlB] at hc
  split at hc
  ·cases hc
  ·rename_i cs' hcs
   obtain ⟨h1, h2, h3, h4⟩ := QjT hτ h hcs
   split at hc
   ·rename_i t' xs m hg
    cases hc
    obtain ⟨t2, xs2, m2, hg2⟩ := hτ id ⟨_, _, _, hg⟩
    obtain ⟨g1, hO, _⟩ := h.objs id _ hg2
    refine ⟨⟨⟨g1, rfl, hO.val⟩, h1⟩, by simp [cksA, h2], fun i s hi => ?_, by simp [cksA, tgts, fsts, h4]⟩
    simp only [cksA, V7, List.mem_cons] at hi
    rcases hi with e | hi
    ·cases e; rfl
    ·exact h3 i s hi
   ·cases hc
theorem Qd8 : ∀ {k1 : List CK} {c1 : List Cell} (k2 : List CK) (c2 : List Cell), k1.length = c1.length → V7 (k1 ++ k2) (c1 ++ c2) = V7 k1 c1 ++ V7 k2 c2
 | [], [], _, _, _ => rfl
 | [], _ :: _, _, _, h => by simp at h
 | _ :: _, [], _, _, h => by simp at h
 | .cst c :: ks, d :: cs, k2, c2, h => by
  rw [List.cons_append, List.cons_append, Qb0, Qb0]; exact Qd8 k2 c2 (by simpa using h)
 | .dat t :: ks, d :: cs, k2, c2, h => by
  rw [List.cons_append, List.cons_append, QbZ, QbZ]; exact Qd8 k2 c2 (by simpa using h)
 | .own t g mu :: ks, d :: cs, k2, c2, h => by
  have ih := Qd8 (k1 := ks) (c1 := cs) k2 c2 (by simpa using h)
  cases d <;> simp [V7, ih]
theorem QdZ : ∀ (a b : List CK), tgts (a ++ b) = tgts a ++ tgts b
 | [], _ => rfl
 | .cst _ :: r, b => by simpa [tgts] using QdZ r b
 | .dat _ :: r, b => by simpa [tgts] using QdZ r b
 | .own _ _ _ :: r, b => by simp [tgts, QdZ r b]
theorem Qhq {σ0 σ : St} {skip used : List Nat} : ∀ {l : List (Nat × Option Ob)}, Vi σ0 σ skip used l = true → ∀ id b, (id, b) ∈ l → ∀ ob, look σ0.hp id = some (some ob) → id ∈ skip ∨ ∃ o, look σ.hp id = some (some ⟨false, o⟩) ∧ id ∉ used
 | [], _, _, _, h, _, _ => by cases h
 | (i, b0) :: r, hk, id, b, h, ob, hob => by
  simp only [Vi, Bool.and_eq_true] at hk
  rcases List.mem_cons.1 h with e | h
  ·cases e
   have hk1 := hk.1
   rw [hob] at hk1
   simp only [Bool.or_eq_true] at hk1
   rcases hk1 with hk1 | hk1
   ·exact .inl ((Qch _ _).1 hk1)
   ·split at hk1
    ·rename_i o ho
     refine .inr ⟨o, ho, fun hm => ?_⟩
     rw [(Qch _ _).2 hm] at hk1; cases hk1
    ·cases hk1
  ·exact Qhq hk.2 id b h ob hob
end
end Go.Abs
namespace Go.Abs
section
variable {P : Program} {R : Type} {F : Fr} {ι ι' : Nat → Value} {ok : Ok} {N M : Nat → Prop} {σ σ0 : St} {a : Act} {w : World} {o : Oper} {r : R}
theorem Qnj {σ : St} {i : Nat} {o : AO} (h : σ.ob i = some o) : ∃ d, look σ.hp i = some (some ⟨d, o⟩) := by
 unfold St.ob at h
 split at h
 ·rename_i b hb; cases h; exact ⟨b.dirty, hb⟩
 ·cases h
theorem QhT {sp : Spec} (h : Sim F ι ok N σ a w) (hpin : ∀ x ∈ F.pin, x.1 < σ0.nxt) (hn : σ.n = σ0.n) {dead : List Nat} (hids : ∀ t, t ∉ dead → (σ0.get t).idsIn (· < σ0.nxt)) (hobs : ∀ id o, σ0.ob id = some o → id < σ0.nxt ∧ o.idsIn (· < σ0.nxt))
  (htm : ∀ t, t ∉ dead → σ.get t = σ0.get t) (hcl : ∀ id o, look σ.hp id = some (some ⟨false, o⟩) → id < σ0.nxt → id ∉ sp.skip → σ0.ob id = some o)
  {p : sp.ty.den} (ht : sp.take σ0 σ = some p) :
  ∃ ι' ok' N', Sim F ι' ok' N' (sp.mk' σ0 dead p) a w ∧ (∀ i, N' i → i < sp.nxt) ∧ σ0.nxt ≤ sp.nxt := by
 unfold Spec.take at ht
 split at ht
 ·cases ht
 ·rename_i cs hcs
  simp only at ht
  cases hb : Qbt (srcs sp.cks cs) && Qbt (tgts (cksT sp.tms ++ cksB sp.bxs) ++ (fsts sp.ars ++ fsts sp.bxs)) && QkO σ0.nxt (tgts (cksT sp.tms ++ cksB sp.bxs)) && Qev sp.nxt (tgts (cksT sp.tms ++ cksB sp.bxs)) && Nat.ble σ0.nxt sp.nxt &&
    Qev σ0.nxt (fsts sp.ars ++ fsts sp.bxs) && Qcp σ0.nxt sp.cks && Qev σ0.n (fsts sp.tms) && Vi σ0 (freezeCk σ sp.cks cs) sp.skip (srcs sp.cks cs) σ0.hp with
  | false => rw [hb] at ht; cases ht
  | true =>
   rw [hb] at ht
   simp only [cond_true] at ht
   simp only [Bool.and_eq_true] at hb
   obtain ⟨⟨⟨⟨⟨⟨⟨⟨b1, b2⟩, b3⟩, b4⟩, b5⟩, b6⟩, b7⟩, b8⟩, b9⟩ := hb
   have b1 := (Qb1 _).1 b1
   have b2 := (Qb1 _).1 b2
   have b3 := (QgJ _ _).1 b3
   have b4 := (Qeu _ _).1 b4
   have b5 := Nat.le_of_ble_eq_true b5
   have b6 := (Qeu _ _).1 b6
   have b9 := fun id b hm ob hob => Qhq b9 id b hm ob hob
   obtain ⟨ok1, h1, l1⟩ := h.freezeCk sp.cks cs
   have hbox := QjD sp.cks cs σ
   have harr := QjE sp.cks cs σ
   have hfrm := QjC sp.cks cs σ
   generalize hσ1 : freezeCk σ sp.cks cs = σ1 at *
   unfold Spec.cells at hcs
   split at hcs
   case h_2 => cases hcs
   rename_i csT csB csA hT hB hA
   cases hcs
   obtain ⟨vT, t1, t2, t3⟩ := QjQ h hT
   have t1 : All2 (RepC w ok1 ι N) csT vT := All2.mono (fun _ _ hc => RepC.mono (QcS l1) (fun _ _ => rfl) (fun _ h => h) hc) t1
   obtain ⟨vB, u1, u2, u3⟩ := QjS (τ := σ) hbox h1 hB
   obtain ⟨v1, v2, v3, v4⟩ := QjT (τ := σ) harr h1 hA
   have hv : All2 (RepC w ok1 ι N) (csT ++ (csB ++ csA)) (vT ++ (vB ++ (fsts sp.ars).map ι)) := All2.app t1 (All2.app u1 v1)
   have hlen := Qeh ht
   have htg : tgts sp.cks = tgts (cksT sp.tms ++ cksB sp.bxs) ++ fsts sp.ars := by
    show tgts (cksT sp.tms ++ (cksB sp.bxs ++ cksA sp.ars)) = _
    rw [← List.append_assoc, QdZ, v4]
   have hpr : V7 sp.cks (csT ++ (csB ++ csA)) = V7 (cksT sp.tms ++ cksB sp.bxs) (csT ++ csB) ++ V7 (cksA sp.ars) csA := by
    show V7 (cksT sp.tms ++ (cksB sp.bxs ++ cksA sp.ars)) (csT ++ (csB ++ csA)) = _
    rw [← List.append_assoc, ← List.append_assoc, Qd8 _ _ (by simp [t3, u3])]
   have hfst := QbY hlen
   have hsrc := Qc9 hlen
   have hnd : (tgts sp.cks).Nodup := by
    rw [htg]
    rw [← List.append_assoc] at b2
    exact (List.nodup_append.1 b2).1
   have hpn : ((V7 sp.cks (csT ++ (csB ++ csA))).map (·.1)).Nodup := by rw [hfst]; exact hnd
   have hps : ((V7 sp.cks (csT ++ (csB ++ csA))).filterMap (·.2)).Nodup := by rw [hsrc]; exact b1
   have hlow : ∀ i s, (i, s) ∈ V7 sp.cks (csT ++ (csB ++ csA)) → i < σ0.nxt → s = some i := fun i s hi hlt => by
    rw [hpr] at hi
    rcases List.mem_append.1 hi with hi | hi
    ·have : i ∈ tgts (cksT sp.tms ++ cksB sp.bxs) := by
      rw [← QbY (cs := csT ++ csB) (by simp [t3, u3])]; exact List.mem_map.2 ⟨_, hi, rfl⟩
     exact absurd (b3 i this) (Nat.not_le.2 hlt)
    ·exact v3 i s hi
   generalize hpq : V7 sp.cks (csT ++ (csB ++ csA)) = pq at *
   let ι2 : Nat → Value := fun i => match look pq i with | some s => Qj7 ι s | none => ι i
   let N2 : Nat → Prop := fun i => (∃ s, (i, s) ∈ pq) ∨ (N i ∧ i < σ0.nxt)
   have hι2 : ∀ i, i < σ0.nxt → ι2 i = ι i := fun i hi => by
    show (match look pq i with | some s => Qj7 ι s | none => ι i) = ι i
    cases hl : look pq i with
    | none => rfl
    | some s => have := hlow i s (QfA hl) hi; subst this; rfl
   have hpi : ∀ i s, (i, s) ∈ pq → N2 i ∧ ι2 i = Qj7 ι s := fun i s hi => by
    refine ⟨.inl ⟨s, hi⟩, ?_⟩
    show (match look pq i with | some s => Qj7 ι s | none => ι i) = Qj7 ι s
    rw [Qho hpn hi]
   have hM : ∀ i, i < σ0.nxt → N i → N2 i ∧ ι2 i = ι i := fun i hi hNi => ⟨.inr ⟨hNi, hi⟩, hι2 i hi⟩
   have hplant : All2 (RepC w ok1 ι2 N2) (Qh8 sp.cks p) (vT ++ (vB ++ (fsts sp.ars).map ι)) := Qdi h1 hM ht hv b7 (by rw [hpq]; exact hpi)
   obtain ⟨ob1, ob2⟩ := QfD h1 ht hv
   rw [hpq] at ob1
   obtain ⟨pt1, pt2⟩ := Qkm t2 hplant
   have hdrop : All2 (RepC w ok1 ι2 N2) ((Qh8 sp.cks p).drop (cksT sp.tms).length) (vB ++ (fsts sp.ars).map ι) := by
    have hl : (cksT sp.tms).length = vT.length := by rw [← t3, t1.len]
    have := hplant.drop (cksT sp.tms).length
    rw [show (vT ++ (vB ++ (fsts sp.ars).map ι)).drop (cksT sp.tms).length = vB ++ (fsts sp.ars).map ι from by rw [hl, List.drop_left' rfl]] at this
    exact this
   obtain ⟨pb1, pb2⟩ := Qm6 u2 hdrop
   have hkeepN : ∀ c : Cell, c.idsIn N → c.idsIn (· < σ0.nxt) → c.idsIn (fun i => N i ∧ i < σ0.nxt) := fun c h1 h2 => by
    cases c <;> first | trivial | exact ⟨h1, h2⟩ | exact fun c hc => ⟨h1 c hc, h2 c hc⟩
   have hle2 : ∀ i, (N i ∧ i < σ0.nxt) → N2 i := fun i hi => .inr hi
   have hobj : ∀ i o, (sp.mk' σ0 dead p).ob i = some o → N2 i ∧ QN w ok1 ι2 N2 o (ι2 i) ∧ (blk (ι2 i) = none ∨ ∃ s q, σ1.ob s = some q ∧ ι2 i = ι s ∧ ((i ∈ fsts sp.bxs ∧ s = i ∧ ∃ ds, q = .box ds) ∨ ((i, some s) ∈ pq ∧ ∃ e ys m, q = .arr e ys m) ∨ (s = i ∧ i ∉ srcs sp.cks (csT ++ (csB ++ csA)) ∧ i ∉ fsts sp.bxs ∧ i ∉ tgts sp.cks))) := by
    intro i o ho
    obtain ⟨dd, ho⟩ := Qnj ho
    simp only [Spec.mk', QbJ] at ho
    cases hlB : look (putB sp.bxs ((Qh8 sp.cks p).drop (cksT sp.tms).length)) i with
    | some b =>
     rw [hlB] at ho
     obtain ⟨ds, rfl, q1, es, q2⟩ := pb1 i b hlB
     cases ho
     have hin : i ∈ fsts sp.bxs := Classical.byContradiction fun hh => by rw [(pb2 i).2 hh] at hlB; cases hlB
     have hlt := b6 i (List.mem_append_right _ hin)
     have hNi := (h1.objs i _ q2).1
     rw [hι2 i hlt]
     exact ⟨(hM i hlt hNi).1, q1, .inr ⟨i, _, q2, rfl, .inl ⟨hin, rfl, es, rfl⟩⟩⟩
    | none =>
     rw [hlB] at ho
     have hnb : i ∉ fsts sp.bxs := (pb2 i).1 hlB
     cases hlO : look (VR sp.cks p) i with
     | some b =>
      rw [hlO] at ho
      obtain ⟨s, t, xs, mu, m1, rfl, m2, m3⟩ := ob1 i b hlO
      cases ho
      obtain ⟨k1, k2⟩ := hpi i s m1
      rw [k2]
      refine ⟨k1, m2.arr, ?_⟩
      cases s with
      | none => exact .inl rfl
      | some s =>
       obtain ⟨e', ys, m, hs⟩ := m3 s rfl
       exact .inr ⟨s, _, hs, rfl, .inr (.inl ⟨m1, e', ys, m, rfl⟩)⟩
     | none =>
      rw [hlO, Qde] at ho
      dsimp only at ho
      have hnt := ob2 i hlO
      split at ho
      ·cases ho
      ·rename_i hnd'
       cases hl0 : look σ0.hp i with
       | none => rw [hl0] at ho; cases ho
       | some x =>
        rw [hl0] at ho
        cases x with
        | none => cases ho
        | some b =>
         cases ho
         have hob0 : σ0.ob i = some o := by simp [St.ob, hl0]
         obtain ⟨z1, z2⟩ := hobs i o hob0
         have hnar : i ∉ fsts sp.ars := fun hh => hnt (by rw [htg]; exact List.mem_append_right _ hh)
         have hnskip : i ∉ sp.skip := fun hh => by
          rcases List.mem_append.1 hh with hh | hh
          ·exact hnd' hh
          ·rcases List.mem_append.1 hh with hh | hh
           ·exact hnb hh
           ·exact hnar hh
         rcases b9 i _ (QfA hl0) _ hl0 with hh | ⟨o', ho', hu⟩
         ·exact absurd hh hnskip
         ·have e1 := hcl i o' (hfrm.hp i o' ho') z1 hnskip
          have e1 : o' = o := by rw [hob0] at e1; exact (Option.some.inj e1).symm
          rw [e1] at ho'
          have hs1 : σ1.ob i = some o := by simp [St.ob, ho']
          obtain ⟨g1, g2, g3⟩ := h1.objs i _ hs1
          rw [hι2 i z1]
          refine ⟨(hM i z1 g1).1, ?_, .inr ⟨i, _, hs1, rfl, .inr (.inr ⟨rfl, hu, hnb, hnt⟩)⟩⟩
          have hii : o.idsIn (fun i => N i ∧ i < σ0.nxt) := by
           have z3 := g2.ids
           cases hbo : o with
           | box cs => rw [hbo] at z2 z3; exact fun c hc => hkeepN c (z3 c hc) (z2 c hc)
           | arr t xs mu => trivial
          exact QN.mono (Ext.refl _ _) (fun i hi => rfl) hle2 (fun _ _ => ⟨rfl, Ok.At.refl _ _⟩) (g2.chg (ι' := ι2) (fun i hi => hι2 i hi.2) hii)
   refine ⟨ι2, ok1, N2, ⟨fun t => ?_, fun i o ho => ?_, fun i j oi oj b hi hj hij hbi hbj => ?_, h1.oks, h1.keep, ?_, h.defs, fun x hx => ⟨(hM _ (hpin x hx) (h.pins x hx).1).1, by rw [hι2 _ (hpin x hx)]; exact (h.pins x hx).2⟩, h1.pls⟩, fun i hi => ?_, b5⟩
   ·simp only [St.get, Spec.mk', QbJ, Qf9]
    cases hlT : look (putT sp.tms (Qh8 sp.cks p)) t with
    | some av => exact pt1 t av hlT
    | none =>
     simp only
     split
     ·exact trivial
     ·rename_i hnd
      show QR w ok1 ι2 N2 (σ0.get t) _
      have hr := h1.tms t
      rw [hfrm.get, htm t hnd] at hr
      have hi1 := hr.ids
      have hi2 := hids t hnd
      have hii : (σ0.get t).idsIn (fun i => N i ∧ i < σ0.nxt) := by
       cases hx : σ0.get t with
       | val x =>
        rw [hx] at hi1 hi2
        cases x with
        | one c => exact hkeepN c hi1 hi2
        | agg cs => exact fun c hc => hkeepN c (hi1 c hc) (hi2 c hc)
       | tup l =>
        rw [hx] at hi1 hi2
        intro x hxl
        have j1 := hi1 x hxl
        have j2 := hi2 x hxl
        cases x with
        | one c => exact hkeepN c j1 j2
        | agg cs => exact fun c hc => hkeepN c (j1 c hc) (j2 c hc)
      exact QR.mono (Ext.refl _ _) (fun _ _ => rfl) hle2 (hr.chg (ι' := ι2) (fun i hi => hι2 i hi.2) hii)
   ·obtain ⟨q1, q2, q3⟩ := hobj i o ho
    refine ⟨q1, q2, fun b hb => ?_⟩
    rcases q3 with q3 | ⟨s, q, hs, e, _⟩
    ·rw [q3] at hb; cases hb
    ·rw [e] at hb; exact (h1.objs s q hs).2.2 b hb
   ·obtain ⟨_, _, q3⟩ := hobj i oi hi
    obtain ⟨_, _, q4⟩ := hobj j oj hj
    rcases q3 with q3 | ⟨s, q, hs, es, cs1⟩
    ·rw [q3] at hbi; cases hbi
    rcases q4 with q4 | ⟨s', q', hs', es', cs2⟩
    ·rw [q4] at hbj; cases hbj
    rw [es] at hbi
    rw [es'] at hbj
    refine h1.apart s s' q q' b hs hs' (fun e => ?_) hbi hbj
    subst e
    rw [hs] at hs'
    cases hs'
    have hsrcm : ∀ x, (x, some s) ∈ pq → s ∈ srcs sp.cks (csT ++ (csB ++ csA)) := fun x hx => by rw [← hsrc]; exact List.mem_filterMap.2 ⟨_, hx, rfl⟩
    rcases cs1 with ⟨m1, m2, ds, m3⟩ | ⟨m1, e', ys, m, m3⟩ | ⟨m1, m2, m3, m4⟩
    ·rcases cs2 with ⟨n1, n2, es, n3⟩ | ⟨n1, e', ys, m, n3⟩ | ⟨n1, n2, n3, n4⟩
     ·exact hij (m2.symm.trans n2)
     ·rw [m3] at n3; cases n3
     ·subst m2; subst n1; exact hij rfl
    ·rcases cs2 with ⟨n1, n2, es, n3⟩ | ⟨n1, e', ys, m, n3⟩ | ⟨n1, n2, n3, n4⟩
     ·rw [m3] at n3; cases n3
     ·exact hij (Qf3 hps hpn m1 n1)
     ·subst n1; exact n2 (hsrcm _ m1)
    ·rcases cs2 with ⟨n1, n2, es, n3⟩ | ⟨n1, e', ys, m, n3⟩ | ⟨n1, n2, n3, n4⟩
     ·subst m1; subst n2; exact hij rfl
     ·subst m1; exact m2 (hsrcm _ n1)
     ·subst m1; subst n1; exact hij rfl
   ·show a.tmps.size = σ0.n
    rw [h.size, hn]
   ·rcases hi with ⟨s, hi⟩ | hi
    ·have : i ∈ tgts sp.cks := by rw [← hfst]; exact List.mem_map.2 ⟨_, hi, rfl⟩
     rw [htg] at this
     rcases List.mem_append.1 this with hh | hh
     ·exact b4 i hh
     ·exact Nat.lt_of_lt_of_le (b6 i (List.mem_append_left _ hh)) b5
    ·exact Nat.lt_of_lt_of_le hi.2 b5
end
end Go.Abs
namespace Go.Abs
structure Frm (ds : List Nat) (σ σ' : St) : Prop where
 tm : ∀ t, t ∉ ds → σ'.get t = σ.get t
 n : σ'.n = σ.n
 hp : ∀ id o, look σ'.hp id = some (some ⟨false, o⟩) → look σ.hp id = some (some ⟨false, o⟩)
theorem Frm.refl (ds : List Nat) (σ : St) : Frm ds σ σ := ⟨fun _ _ => rfl, rfl, fun _ _ h => h⟩
theorem Frm.trans {ds es : List Nat} {a b c : St} (h : Frm ds a b) (k : Frm es b c) : Frm (app ds es) a c :=
 ⟨fun t ht => by
  rw [Qm, List.mem_append, not_or] at ht
  rw [k.tm t ht.2, h.tm t ht.1], k.n.trans h.n, fun i o ho => h.hp i o (k.hp i o ho)⟩
theorem Frm.trans' {ds : List Nat} {a b c : St} (h : Frm ds a b) (k : Frm ds b c) : Frm ds a c :=
 ⟨fun t ht => by rw [k.tm t ht, h.tm t ht], k.n.trans h.n, fun i o ho => h.hp i o (k.hp i o ho)⟩
theorem Zp.frm {σ σ' : St} (h : Zp σ σ') (ds : List Nat) : Frm ds σ σ' := ⟨fun t _ => h.get t, h.n, h.hp⟩
theorem Frm.put {ds : List Nat} {σ : St} {d : Nat} (hd : d ∈ ds) (v : AV) : Frm ds σ (σ.put (some d) v) :=
 ⟨fun t ht => by rw [St.get_put, if_neg (fun e : d = t => ht (by rw [← e]; exact hd))], rfl, fun _ _ h => h⟩
section
variable {P : Program} {R : Type} {F : Fr} {ι : Nat → Value} {ok : Ok} {N : Nat → Prop} {σ : St} {a : Act} {w : World} {o : Oper} {r : R}
theorem Sim.refine (h : Sim F ι ok N σ a w) {x : AV} {d : Nat} (hx : QR w ok ι N x (a.tmps.getD d undef)) : Sim F ι ok N (σ.put (some d) x) a w where
 tms t := by
  rw [St.get_put]
  split
  ·rename_i e; subst e; exact hx
  ·exact h.tms t
 objs id o ho := h.objs id o (by simpa using ho)
 apart i j o p b hi hj := h.apart i j o p b (by simpa using hi) (by simpa using hj)
 oks := h.oks
 keep := h.keep
 size := h.size
 defs := h.defs
 pins := h.pins
 pls := h.pls
def Below (N : Nat → Prop) (n : Nat) : Prop := ∀ i, N i → i < n
theorem Below.fresh {n nb : Nat} (h : Below N n) (hn : n ≤ nb) : Qba N nb := fun i h1 _ h3 => by have := h i h3; omega
theorem Below.span {nb : Nat} (h : Below N nb) : Below (span N nb) (nb + 16) := fun i hi => by
 rcases hi with hi | hi
 ·have := h i hi; omega
 ·exact hi.2
def QkX {R : Type} (F : Fr) (ds : List Nat) (σ : St) (K : St → Option R) (r : R) (nb : Nat) (next : Act → World → Prop) : Prop :=
 ∀ σ' a' w' ι' ok' N', Sim F ι' ok' N' σ' a' w' → Below N' nb → Frm ds σ σ' → K σ' = some r → next a' w'
theorem QdQ {m : Fu} {Γ : List Summ} (hΓ : ∀ S ∈ Γ, Qau P F S) (h : Sim F ι ok N σ a w) {nb : Nat} (hN : Below N nb) {K : St → Option R} (hr : Qe2 P Γ m nb o σ K = some r) {ds : List Nat} (hd : ∀ d, o.dst = some d → d ∈ ds)
  {next : Act → World → Prop} (Q : Exit → Act → World → Prop) (hnext : QkX F ds σ K r (nb + 16) next) : o.wp P a w next Q := by
 unfold Qe2 at hr
 refine Qj1 hΓ h (hN.fresh (Nat.le_refl _)) hr next Q (fun av σ1 v w' ι' ok' h1 hv hf hK => ?_)
 cases hdst : o.dst with
 | none =>
  rw [hdst] at hK
  exact hnext σ1 _ w' ι' ok' _ h1 hN.span (hf.frm ds) hK
 | some d =>
  rw [hdst] at hK
  cases hb : Nat.blt d σ.n with
  | false => simp [hb] at hK
  | true =>
   simp only [hb, cond_true] at hK
   have hb : d < σ.n := by simpa using hb
   exact hnext _ _ w' ι' ok' _ (h1.put hv (by rw [hf.n]; exact hb)) hN.span ((hf.frm ds).trans' (Frm.put (hd d hdst) av)) hK
theorem QaP (h : Sim F ι ok N σ a w) {nb : Nat} (hN : Below N nb) {K : St → Option R} (hr : Qds o σ K = some r) {ds : List Nat} (hd : ∀ d, o.dst = some d → d ∈ ds)
  {next : Act → World → Prop} (hnext : QkX F ds σ K r (nb + 16) next) : next (a.put o.dst undef) w := by
 unfold Qds at hr
 have hN' : Below N (nb + 16) := fun i hi => by have := hN i hi; omega
 cases hdst : o.dst with
 | none =>
  rw [hdst] at hr
  exact hnext σ _ w ι ok N h hN' (Frm.refl _ _) hr
 | some d =>
  rw [hdst] at hr
  cases hb : Nat.blt d σ.n with
  | false => simp [hb] at hr
  | true =>
   simp only [hb, cond_true] at hr
   have hb : d < σ.n := by simpa using hb
   exact hnext _ _ w ι ok N (h.put (x := .val (.one .skip)) (v := undef) (rfl : undef = _) hb) hN' (Frm.put (hd d hdst) _) hr
theorem VI : ∀ {l : List Oper} {o : Oper} {d : Nat}, o ∈ l → o.dst = some d → d ∈ J5 l
 | [], _, _, h, _ => by cases h
 | x :: r, o, d, h, hd => by
  unfold J5
  rcases List.mem_cons.1 h with rfl | h
  ·rw [hd]; simp
  ·cases x.dst with
   | none => exact VI h hd
   | some e => exact List.mem_cons_of_mem _ (VI h hd)
theorem Qoe (Γ : List Summ) (m : Fu) (all : List Oper) (o : Oper) (l : List Oper) (nb : Nat) (σ : St) (K : St → Option R) :
  aOps P Γ m all (o :: l) nb σ K = Qob P Γ m all nb o σ (fun σ' => aOps P Γ m all l (nb + 16) σ' K) := by
 simp only [aOps, Qob]
theorem Qbe {all : List Oper} {j t : Nat} (h : Vx all j = some t) : ∃ o, all[j]? = some o ∧ o.dst = some t := by
 unfold Vx at h
 split at h
 ·rename_i o ho; exact ⟨o, by rw [← Qnl]; exact ho, h⟩
 ·cases h
theorem QgQ {m : Fu} {Γ : List Summ} (hΓ : ∀ S ∈ Γ, Qau P F S) {ops : Array Oper} (h : Sim F ι ok N σ a w) {nb : Nat} (hN : Below N nb) {K : St → Option R} (hr : Qob P Γ m ops.toList nb o σ K = some r) (ho : o ∈ ops.toList)
  {next : Act → World → Prop} (Q : Exit → Act → World → Prop) (hnext : QkX F (J5 ops.toList) σ K r (nb + 16) next) :
  if Region.wanted o (yielded ops a.tmps) then o.wp P a w next Q ∨ (o.asks P a w ∧ LetsOut Q) else next (a.put o.dst undef) w := by
 have hd : ∀ d, o.dst = some d → d ∈ J5 ops.toList := fun d hd => VI ho hd
 unfold Qob at hr
 cases hg : o.guard with
 | none =>
  rw [hg] at hr
  have : Region.wanted o (yielded ops a.tmps) = true := by simp [Region.wanted, hg]
  rw [if_pos this]
  exact .inl (QdQ hΓ h hN hr hd Q hnext)
 | some g =>
  obtain ⟨j, want⟩ := g
  rw [hg] at hr
  dsimp only at hr
  cases ht : Vx ops.toList j with
  | none => rw [ht] at hr; cases hr
  | some t =>
   rw [ht] at hr
   dsimp only at hr
   obtain ⟨oj, hoj, hdj⟩ := Qbe ht
   have htd : t ∈ J5 ops.toList := VI (List.mem_of_getElem? hoj) hdj
   have hgt := h.tms t
   have hy : ∀ v, a.tmps.getD t undef = v → yielded ops a.tmps j = (match v with | .bool b => some b | _ => none) := fun v hv => by
    unfold yielded
    rw [← Array.getElem?_toList, hoj]
    simp only [Option.bind_some, hdj]
    rw [Array.getD_eq_getD_getElem?] at hv
    cases hx : a.tmps[t]? with
    | none => rw [hx] at hv; simp at hv; subst hv; rfl
    | some u => rw [hx] at hv; simp at hv; subst hv; cases u <;> rfl
   have hw : Region.wanted o (yielded ops a.tmps) = (yielded ops a.tmps j == some want) := by simp [Region.wanted, hg]
   have put : ∀ x, QkX F (J5 ops.toList) (σ.put (some t) x) K r (nb + 16) next := fun x σ' a' w' ι' ok' N' s1 s2 s3 s4 =>
    hnext σ' a' w' ι' ok' N' s1 s2 ((Frm.put htd x).trans' s3) s4
   split at hr
   ·rename_i b hb
    rw [hb] at hgt
    have hv : a.tmps.getD t undef = .bool b := by have : [a.tmps.getD t undef] = [.bool b] := hgt; simpa using this
    rw [hw, hy _ hv]
    have href : ∀ c, b = c → Sim F ι ok N (σ.put (some t) (one .bool c)) a w := fun c hc => by
     subst hc; exact h.refine (x := one .bool b) (by rw [hv]; exact (rfl : [Value.bool b] = _))
    cases want with
    | true =>
     dsimp only at hr
     cases b with
     | true =>
      simp only [cond_true] at hr
      rw [if_pos (by simp)]
      exact .inl (QdQ hΓ (href true rfl) hN hr hd Q (put _))
     | false =>
      simp only [cond_false] at hr
      rw [if_neg (by simp)]
      exact QaP (href false rfl) hN hr hd (put _)
    | false =>
     dsimp only at hr
     cases b with
     | true =>
      simp only [cond_true] at hr
      rw [if_neg (by simp)]
      exact QaP (href true rfl) hN hr hd (put _)
     | false =>
      simp only [cond_false] at hr
      rw [if_pos (by simp)]
      exact .inl (QdQ hΓ (href false rfl) hN hr hd Q (put _))
   ·rename_i hb
    rw [hb] at hgt
    have hv : a.tmps.getD t undef = .tuple #[] := hgt
    rw [hw, hy _ hv, if_neg (by simp)]
    exact QaP h hN hr hd hnext
   ·cases hr
theorem QhN {m : Fu} {Γ : List Summ} (hΓ : ∀ S ∈ Γ, Qau P F S) {ops : Array Oper} {Q : Exit → Act → World → Prop} {K : St → Option R} : ∀ {l : List Oper} {k nb : Nat} {ι : Nat → Value} {ok : Ok} {N : Nat → Prop} {σ : St} {a : Act} {w : World},
  (∀ j, l[j]? = ops.toList[k + j]?) → Sim F ι ok N σ a w → Below N nb → aOps P Γ m ops.toList l nb σ K = some r →
  QkX F (J5 ops.toList) σ K r (nb + 16 * l.length) (Q .normal) → wpOps P ops Q (List.range' k l.length) a w
 | [], k, nb, ι, ok, N, σ, a, w, _, h, hN, hr, hQ => hQ σ a w ι ok N h hN (Frm.refl _ _) hr
 | o :: l, k, nb, ι, ok, N, σ, a, w, hl, h, hN, hr, hQ => by
  have h0 : ops[k]? = some o := by have := hl 0; simpa using this.symm
  rw [Qoe] at hr
  rw [List.length_cons, List.range'_succ, wpOps]
  rw [h0]
  dsimp only
  refine QgQ hΓ h hN hr (by rw [List.mem_iff_getElem?]; exact ⟨k, by rw [Array.getElem?_toList]; exact h0⟩) Q (fun σ' a' w' ι' ok' N' s1 s2 s3 s4 => ?_)
  refine QhN hΓ (fun j => by have := hl (j + 1); rw [List.getElem?_cons_succ] at this; rw [this]; congr 1; omega) s1 s2 s4 (fun σ2 a2 w2 ι2 ok2 N2 t1 t2 t3 t4 => ?_)
  exact hQ σ2 a2 w2 ι2 ok2 N2 t1 (fun i hi => by have := t2 i hi; simp only [List.length_cons]; omega) (s3.trans' t3) t4
end
end Go.Abs
namespace Go.Abs
def Jp (σ : St) (l : List (Nat × Option Ob)) : St := { σ with hp := app l σ.hp }
theorem JM (σ : St) (l m : List (Nat × Option Ob)) : Jp (Jp σ l) m = Jp σ (app m l) := by
 unfold Jp
 simp only [Qm, List.append_assoc]
theorem QaD (σ : St) (l : List (Nat × Option Ob)) (i : Nat) : (Jp σ l).ob i = match look l i with | some (some b) => some b.o | some none => none | none => σ.ob i := by
 unfold St.ob Jp
 simp only [QbJ]
 cases look l i with
 | none => rfl
 | some x => cases x <;> rfl
theorem QiR (σ : St) (i : Nat) (o : AO) : σ.set i o = Jp σ [(i, some ⟨true, o⟩)] := rfl
theorem Qb2 (σ : St) (i : Nat) : σ.kill i = Jp σ [(i, none)] := rfl
theorem Vy {α : Type} : ∀ (a b : List (Nat × α)), fsts (app a b) = app (fsts a) (fsts b)
 | [], _ => rfl
 | (i, x) :: r, b => by simp [app, fsts, Vy r b]
def Qs (l : List (Nat × Option Ob)) : Prop := ∀ x ∈ l, ∀ o, x.2 ≠ some ⟨false, o⟩
theorem Qs.nil : Qs [] := fun x hx => by cases hx
theorem Qs.cons {i : Nat} {o : AO} {l : List (Nat × Option Ob)} (h : Qs l) : Qs ((i, some ⟨true, o⟩) :: l) := fun x hx o' => by
 rcases List.mem_cons.1 hx with rfl | hx
 ·simp
 ·exact h x hx o'
theorem Qs.kill {i : Nat} {l : List (Nat × Option Ob)} (h : Qs l) : Qs ((i, none) :: l) := fun x hx o' => by
 rcases List.mem_cons.1 hx with rfl | hx
 ·simp
 ·exact h x hx o'
theorem Qs.one {i : Nat} {o : AO} : Qs [(i, some ⟨true, o⟩)] := Qs.nil.cons
theorem Qs.app {l m : List (Nat × Option Ob)} (h : Qs l) (k : Qs m) : Qs (app l m) := fun x hx o => by
 rw [Qm] at hx
 rcases List.mem_append.1 hx with hx | hx
 ·exact h x hx o
 ·exact k x hx o
def Zv (l : List Nat) (σ τ : St) : Prop := ∀ i ∈ l, τ.ob i = σ.ob i
theorem Zv.add {l : List Nat} {σ τ : St} (h : Zv l σ τ) (m : List (Nat × Option Ob)) : Zv l (Jp σ m) (Jp τ m) := fun i hi => by rw [QaD, QaD, h i hi]
theorem Zv.sub {l m : List Nat} {σ τ : St} (h : Zv l σ τ) (hs : ∀ i ∈ m, i ∈ l) : Zv m σ τ := fun i hi => h i (hs i hi)
theorem QaM : ∀ (cs : List Cell) (σ : St), ∃ pre, σ.freeze cs = Jp σ pre ∧ (∀ i ∈ fsts pre, i ∈ Qk cs) ∧ (∀ τ, Zv (Qk cs) σ τ → τ.freeze cs = Jp τ pre) ∧ Qs pre
 | [], σ => ⟨[], rfl, (fun i hi => by cases hi), (fun τ _ => rfl), Qs.nil⟩
 | c :: r, σ => by
  have one : ∃ pre, σ.freeze1 c = Jp σ pre ∧ (∀ i ∈ fsts pre, i ∈ c.ids) ∧ (∀ τ, Zv c.ids σ τ → τ.freeze1 c = Jp τ pre) ∧ Qs pre := by
   cases c with
   | own t id =>
    simp only [St.freeze1]
    cases ho : σ.ob id with
    | none => exact ⟨[], rfl, (fun i hi => by cases hi), (fun τ hτ => by rw [hτ id (by simp [Cell.ids]), ho]; rfl), Qs.nil⟩
    | some o =>
     cases o with
     | box cs => exact ⟨[], rfl, (fun i hi => by cases hi), (fun τ hτ => by rw [hτ id (by simp [Cell.ids]), ho]; rfl), Qs.nil⟩
     | arr t' xs mu =>
      cases mu with
      | mp ka va => exact ⟨[], rfl, (fun i hi => by cases hi), (fun τ hτ => by rw [hτ id (by simp [Cell.ids]), ho]; rfl), Qs.nil⟩
      | wr => exact ⟨[(id, some ⟨true, .arr t' xs .fr⟩)], rfl, (fun i hi => by simpa [fsts, Cell.ids] using hi), (fun τ hτ => by rw [hτ id (by simp [Cell.ids]), ho]; rfl), Qs.one⟩
      | cp c => exact ⟨[], rfl, (fun i hi => by cases hi), (fun τ hτ => by rw [hτ id (by simp [Cell.ids]), ho]; rfl), Qs.nil⟩
      | fr => exact ⟨[], rfl, (fun i hi => by cases hi), (fun τ hτ => by rw [hτ id (by simp [Cell.ids]), ho]; rfl), Qs.nil⟩
   | _ => exact ⟨[], rfl, (fun i hi => by cases hi), (fun τ _ => rfl), Qs.nil⟩
  obtain ⟨p1, e1, k1, t1, n1⟩ := one
  obtain ⟨p2, e2, k2, t2, n2⟩ := QaM r (σ.freeze1 c)
  refine ⟨app p2 p1, ?_, fun i hi => ?_, fun τ hτ => ?_, n2.app n1⟩
  ·show (σ.freeze1 c).freeze r = _
   rw [e2, e1, JM]
  ·rw [Vy, Qm] at hi
   simp only [Qk, Qm, List.mem_append]
   rcases List.mem_append.1 hi with hi | hi
   ·exact .inr (k2 i hi)
   ·exact .inl (k1 i hi)
  ·have h1 := t1 τ (hτ.sub fun i hi => by simp [Qk, Qm, hi])
   show (τ.freeze1 c).freeze r = _
   rw [h1, t2 _ ?_, JM]
   rw [e1]
   exact (hτ.sub fun i hi => by simp [Qk, Qm, hi]).add p1
theorem Qca {σ τ : St} {c : Cell} (h : Zv c.ids σ τ) (t : Ty) : c.toDatS τ t = c.toDatS σ t := by
 cases c with
 | own e id => simp only [Cell.toDatS]; rw [h id (by simp [Cell.ids])]
 | _ => rfl
theorem QlV {σ τ : St} {c : Cell} (h : Zv c.ids σ τ) (t : Ty) : c.toDat τ t = c.toDat σ t := by
 cases c with
 | own e id => simp only [Cell.toDat]; rw [h id (by simp [Cell.ids])]
 | _ => rfl
theorem QcN {σ τ : St} : ∀ {t : Ty} {cs : List Cell}, Zv (Qk cs) σ τ → Jy τ t cs = Jy σ t cs ∧ ∀ x r, Jy σ t cs = some (x, r) → ∀ i ∈ Qk r, i ∈ Qk cs := by
 have base : ∀ {t : Ty} {c : Cell} {r : List Cell}, Zv (Qk (c :: r)) σ τ → ((c.toDatS τ t).map fun x => (x, r)) = ((c.toDatS σ t).map fun x => (x, r)) ∧ ∀ x r', ((c.toDatS σ t).map fun x => (x, r)) = some (x, r') → ∀ i ∈ Qk r', i ∈ Qk (c :: r) := fun {t c r} h => by
  refine ⟨by rw [Qca (h.sub fun i hi => by simp [Qk, Qm, hi])], fun x r' hx i hi => ?_⟩
  cases hd : c.toDatS σ t with
  | none => rw [hd] at hx; cases hx
  | some y => rw [hd] at hx; cases hx; simp [Qk, Qm, hi]
 intro t
 induction t with
 | int k => intro cs h; cases cs with | nil => exact ⟨rfl, fun x r hx => by cases hx⟩ | cons c r => exact base h
 | bool => intro cs h; cases cs with | nil => exact ⟨rfl, fun x r hx => by cases hx⟩ | cons c r => exact base h
 | str => intro cs h; cases cs with | nil => exact ⟨rfl, fun x r hx => by cases hx⟩ | cons c r => exact base h
 | sl e _ => intro cs h; cases cs with | nil => exact ⟨rfl, fun x r hx => by cases hx⟩ | cons c r => exact base h
 | pl wl => intro cs h; cases cs with | nil => exact ⟨rfl, fun x r hx => by cases hx⟩ | cons c r => exact base h
 | un => intro cs h; exact ⟨by simp [Jy], fun x r hx => by simp [Jy] at hx; rw [hx]; exact fun i hi => hi⟩
 | pr t u iht ihu =>
  intro cs h
  obtain ⟨a1, a2⟩ := iht h
  cases h1 : Jy σ t cs with
  | none => exact ⟨by simp only [Jy, a1, h1], fun x r hx => by simp [Jy, h1] at hx⟩
  | some y =>
   obtain ⟨y, r1⟩ := y
   obtain ⟨b1, b2⟩ := ihu (cs := r1) (h.sub (a2 y r1 h1))
   refine ⟨by simp only [Jy, a1, h1, b1], fun x r hx => ?_⟩
   simp only [Jy, h1] at hx
   cases h2 : Jy σ u r1 with
   | none => rw [h2] at hx; cases hx
   | some z =>
    obtain ⟨z, r2⟩ := z
    rw [h2] at hx
    cases hx
    exact fun i hi => a2 y r1 h1 i (b2 z _ h2 i hi)
theorem Qa8 : ∀ (ps : List (Nat × AV)) (σ : St), ∃ pre, freezeParts σ ps = Jp σ pre ∧ (∀ i ∈ fsts pre, i ∈ Qbq ps) ∧ (∀ τ, Zv (Qbq ps) σ τ → freezeParts τ ps = Jp τ pre) ∧ Qs pre
 | [], σ => ⟨[], rfl, (fun i hi => by cases hi), (fun τ _ => rfl), Qs.nil⟩
 | (j, .tup l) :: r, σ => by
  obtain ⟨p, e, k, t, n⟩ := Qa8 r σ
  exact ⟨p, e, (fun i hi => by simp [Qbq, AV.ids, Qm, k i hi]), (fun τ hτ => t τ (hτ.sub fun i hi => by simp [Qbq, AV.ids, Qm, hi])), n⟩
 | (j, .val x) :: r, σ => by
  obtain ⟨p1, e1, k1, t1, n1⟩ := QaM x.cells σ
  obtain ⟨p2, e2, k2, t2, n2⟩ := Qa8 r (σ.freeze x.cells)
  refine ⟨app p2 p1, ?_, fun i hi => ?_, fun τ hτ => ?_, n2.app n1⟩
  ·show freezeParts (σ.freeze x.cells) r = _
   rw [e2, e1, JM]
  ·rw [Vy, Qm] at hi
   simp only [Qbq, AV.ids, Qm, List.mem_append]
   rcases List.mem_append.1 hi with hi | hi
   ·exact .inr (k2 i hi)
   ·exact .inl (k1 i hi)
  ·have h1 := t1 τ (hτ.sub fun i hi => by simp [Qbq, AV.ids, Qm, hi])
   show freezeParts (τ.freeze x.cells) r = _
   rw [h1, t2 _ ?_, JM]
   rw [e1]
   exact (hτ.sub fun i hi => by simp [Qbq, AV.ids, Qm, hi]).add p1
theorem QdC : ∀ (cs : List Cell) {σ σ' : St} {cs' : List Cell}, planeC σ cs = some (cs', σ') → ∃ pre, σ' = Jp σ pre ∧ (∀ i ∈ fsts pre, i ∈ Qk cs) ∧ (∀ τ, Zv (Qk cs) σ τ → planeC τ cs = some (cs', Jp τ pre)) ∧ Qs pre ∧
  ∀ i ∈ Qk cs', i ∈ Qk cs
 | [], σ, σ', cs', hp => by cases hp; exact ⟨[], rfl, (fun i hi => by cases hi), (fun τ _ => rfl), Qs.nil, fun i hi => hi⟩
 | c :: r, σ, σ', cs', hp => by
  unfold planeC at hp
  split at hp
  ·rename_i t id
   split at hp
   ·rename_i xs hid
    split at hp
    ·rename_i cs1 σ1 hp1
     cases hp
     obtain ⟨p2, e2, k2, t2, n2, s2⟩ := QdC r hp1
     refine ⟨app p2 [(id, none)], by rw [e2, Qb2, JM], fun i hi => ?_, fun τ hτ => ?_, n2.app Qs.nil.kill, fun i hi => ?_⟩
     ·rw [Vy, Qm] at hi
      simp only [Qk, Qm, List.mem_append]
      rcases List.mem_append.1 hi with hi | hi
      ·exact .inr (k2 i hi)
      ·exact .inl (by simpa [fsts, Cell.ids] using hi)
     ·have h1 : τ.ob id = some (.arr (.int .u8) xs .wr) := by rw [hτ id (by simp [Qk, Qm, Cell.ids])]; exact hid
      have h2 := t2 (τ.kill id) (by rw [Qb2, Qb2]; exact (hτ.sub fun i hi => by simp [Qk, Qm, hi]).add _)
      simp only [planeC, h1, h2]
      rw [Qb2, JM]
     ·simp only [Qk, Qm, List.mem_append] at hi ⊢
      rcases hi with hi | hi
      ·cases hi
      ·exact .inr (s2 i hi)
    ·cases hp
   ·cases hp
  ·rename_i hne
   split at hp
   ·rename_i cs1 σ1 hp1
    cases hp
    obtain ⟨p2, e2, k2, t2, n2, s2⟩ := QdC r hp1
    refine ⟨p2, e2, fun i hi => ?_, fun τ hτ => ?_, n2, fun i hi => ?_⟩
    ·simp only [Qk, Qm, List.mem_append]; exact .inr (k2 i hi)
    ·have h2 := t2 τ (hτ.sub fun i hi => by simp [Qk, Qm, hi])
     unfold planeC
     split
     ·rename_i t id; exact absurd rfl (hne t id)
     ·rw [h2]
    ·simp only [Qk, Qm, List.mem_append] at hi ⊢
     exact hi.imp id (s2 i)
   ·cases hp
theorem Qe9 : ∀ (ps : List (Nat × AV)) {σ σ' : St} {ps' : List (Nat × AV)}, planePs σ ps = some (ps', σ') → ∃ pre, σ' = Jp σ pre ∧ (∀ i ∈ fsts pre, i ∈ Qbq ps) ∧ (∀ τ, Zv (Qbq ps) σ τ → planePs τ ps = some (ps', Jp τ pre)) ∧ Qs pre ∧
  ∀ i ∈ Qbq ps', i ∈ Qbq ps
 | [], σ, σ', ps', hp => by cases hp; exact ⟨[], rfl, (fun i hi => by cases hi), (fun τ _ => rfl), Qs.nil, fun i hi => hi⟩
 | (j, .tup l) :: r, σ, σ', ps', hp => by cases hp
 | (j, .val x) :: r, σ, σ', ps', hp => by
  unfold planePs at hp
  split at hp
  ·rename_i cs1 σ1 hc
   split at hp
   ·rename_i l σ2 hl
    cases hp
    obtain ⟨p1, e1, k1, t1, n1, s1⟩ := QdC x.cells hc
    obtain ⟨p2, e2, k2, t2, n2, s2⟩ := Qe9 r hl
    refine ⟨app p2 p1, by rw [e2, e1, JM], fun i hi => ?_, fun τ hτ => ?_, n2.app n1, fun i hi => ?_⟩
    ·rw [Vy, Qm] at hi
     simp only [Qbq, AV.ids, Qm, List.mem_append]
     rcases List.mem_append.1 hi with hi | hi
     ·exact .inr (k2 i hi)
     ·exact .inl (k1 i hi)
    ·have h1 := t1 τ (hτ.sub fun i hi => by simp [Qbq, AV.ids, Qm, hi])
     have h2 := t2 (Jp τ p1) (by rw [e1]; exact (hτ.sub fun i hi => by simp [Qbq, AV.ids, Qm, hi]).add p1)
     unfold planePs
     rw [h1]
     dsimp only
     rw [h2, JM]
    ·simp only [Qbq, AV.ids, Qm, List.mem_append] at hi ⊢
     refine hi.imp (fun hi => ?_) (s2 i)
     cases x with
     | one c =>
      cases cs1 with
      | nil => exact hi
      | cons c' r' => exact s1 i (by simp only [V1.like, V1.cells, Qk, Qm, List.append_nil, List.mem_append] at hi ⊢; exact .inl hi)
     | agg l => exact s1 i hi
   ·cases hp
  ·cases hp
theorem Qcj {σ τ : St} {u : Ty} : ∀ {ps : List (Nat × AV)} {k : Nat}, Zv (Qbq ps) σ τ → V8 τ u k ps = V8 σ u k ps
 | [], k, _ => rfl
 | (i, .tup l) :: r, k, _ => rfl
 | (i, .val x) :: r, k, h => by
  simp only [V8]
  rw [(QcN (h.sub fun i hi => by simp [Qbq, AV.ids, Qm, hi])).1]
  have ih := Qcj (u := u) (ps := r) (k := k + 1) (h.sub fun i hi => by simp [Qbq, AV.ids, Qm, hi])
  simp only [ih]
end Go.Abs
namespace Go.Abs
section
variable {P : Program} {R : Type}
theorem Jm {α β : Type} (b : Bool) (x y : Option α) (K : α → Option β) : (cond b x y).bind K = cond b (x.bind K) (y.bind K) := by cases b <;> rfl
theorem Qc0 (t : TypeId) (cs : List Cell) (off : Nat) (K : AV → Option R) : Qe1 P t cs off K = (Qe1 P t cs off some).bind K := by
 unfold Qe1
 split
 ·simp_all [Jm]
 ·split <;> simp_all
 ·simp_all
theorem Qod (c a b : AV) (K : AV → Option R) : QkR c a b K = (QkR c a b some).bind K := by
 unfold QkR
 split
 ·split <;> simp_all [Jm]
 ·simp_all
theorem Qms (t : TypeId) (ps : List (Nat × AV)) (K : AV → Option R) : QgW P t ps K = (QgW P t ps some).bind K := by
 unfold QgW
 split
 ·simp_all
 ·split
  ·split
   ·split <;> simp_all
   ·simp_all
  ·split
   ·split <;> simp_all
   ·simp_all
  ·simp_all
theorem Qpb (op : BinOp) (k : IntKind) (x y : Int) (K : AV → Option R) : aInt op k x y K = (aInt op k x y some).bind K := by
 unfold aInt
 split <;> simp_all [Jm]
theorem Qo8 (op : BinOp) (x y : List Int) (K : AV → Option R) : aStr op x y K = (aStr op x y some).bind K := by
 unfold aStr
 split <;> simp_all [Jm]
theorem Qpd (op : BinOp) (xt : TypeId) (x y : AV) (K : AV → Option R) : aBin P op xt x y K = (aBin P op xt x y some).bind K := by
 unfold aBin
 split
 ·split
  ·simp_all [Jm]
  ·simp_all [Jm]
  ·rw [Qpb _ _ _ _ K]; simp_all [Jm]
 ·split <;> simp_all
 ·rw [Qo8 _ _ _ K]
 ·split <;> simp_all
 ·split <;> simp_all [Jm]
 ·simp_all
theorem Qqg (op : UnOp) (x : AV) (K : AV → Option R) : aUn op x K = (aUn op x some).bind K := by
 unfold aUn
 split <;> simp_all
theorem Qg6 (s : TypeId) (x : AV) (f : Nat) (K : AV → Option R) : QaR P s x f K = (QaR P s x f some).bind K := by
 unfold QaR
 split
 ·split
  ·split <;> simp_all [Jm]
  ·simp_all
 ·simp_all
theorem Qmq (s : TypeId) (x : AV) (f : Nat) (K : AV → Option R) : QgV P s x f K = (QgV P s x f some).bind K := by
 unfold QgV
 split
 ·split
  ·split
   ·rw [Qc0 _ _ _ K]
   ·simp_all
  ·simp_all
 ·simp_all
theorem Qmp (t : TypeId) (x i : AV) (K : AV → Option R) : QgU P t x i K = (QgU P t x i some).bind K := by
 unfold QgU
 split
 ·split
  ·simp_all [Jm]
  ·split
   ·rw [Qc0 _ _ _ K]; simp_all [Jm]
   ·simp_all
  ·simp_all
 ·simp_all
theorem Qj4 (x : AV) (i : Nat) (K : AV → Option R) : Qcr x i K = (Qcr x i some).bind K := by
 unfold Qcr
 split
 ·split <;> simp_all
 ·simp_all
theorem QgS (f : Int → Int → Int) (l : List AV) (K : AV → Option R) : Qcq f l K = (Qcq f l some).bind K := by
 unfold Qcq
 split
 ·split <;> simp_all
 ·simp_all
theorem Qoh (t : TypeId) (a : AV) (σ : St) (K : AV → Option R) : Qfs P t a σ K = (Qfs P t a σ some).bind K := by
 unfold Qfs
 split
 ·split
  ·rw [Qc0 _ _ _ K]
  ·simp_all
 ·rw [Qc0 _ _ _ K]
 ·split
  ·rw [Qc0 _ _ _ K]; simp_all [Jm]
  ·simp_all
 ·split <;> simp_all
 ·simp_all
theorem Qf2 (i : Int) (g : Nat → AV) (K : AV → Option R) : ∀ (n j : Nat), Qg1 i (fun k => K (g k)) n j = (Qg1 i (fun k => some (g k)) n j).bind K
 | 0, _ => rfl
 | n + 1, j => by
  unfold Qg1
  rw [Qf2 i g K n (j + 1)]
  cases i == (j : Int) <;> rfl
theorem Qna (i : Int) (id n : Nat) (K : AV → Option R) : Qg1 i (fun j => K (.val (.one (.ptr id j)))) n 0 = (Qg1 i (fun j => some (.val (.one (.ptr id j)))) n 0).bind K := Qf2 i (fun j => .val (.one (.ptr id j))) K n 0
theorem Qg5 (t : TypeId) (x i : AV) (σ : St) (K : AV → Option R) : VL P t x i σ K = (VL P t x i σ some).bind K := by
 unfold VL
 split
 ·split
  ·split
   ·simp_all [Jm]
   ·split <;> simp_all [Jm]
   ·simp_all [Jm]
   ·split
    ·rw [Jm, Qna]; rfl
    ·rfl
   ·rfl
  ·split
   ·rename_i x2 k i x1 n e hu x0 id off
    have := Qf2 (R := R) i (fun j => AV.val (.one (.ptr id (off + j * P.cellsOf e)))) K n 0
    rw [Jm, this]
    rfl
   ·simp_all
  ·simp_all
 ·simp_all
theorem Qpa (t : TypeId) (x : AV) (σ : St) (K : AV → Option R) : aLen P t x σ K = (aLen P t x σ some).bind K := by
 unfold aLen
 split
 ·simp_all
 ·simp_all
 ·simp_all
 ·simp_all
 ·simp_all [Jm]
 ·split <;> simp_all [Jm]
 ·simp_all [Jm]
 ·simp_all
theorem Qmo {t : TypeId} {x : AV} {σ τ : St} (h : Zv x.ids σ τ) (K : AV → Option R) : Qfs P t x τ K = Qfs P t x σ K := by
 cases x with
 | tup l => rfl
 | val x => cases x with
  | agg cs => rfl
  | one c => cases c with
   | ptr id off => simp only [Qfs]; rw [h id (by simp [AV.ids, V1.cells, Qk, Cell.ids, Qm])]
   | eptr u id i off => simp only [Qfs]; rw [h id (by simp [AV.ids, V1.cells, Qk, Cell.ids, Qm])]
   | _ => rfl
theorem QgT {t : TypeId} {x i : AV} {σ τ : St} (h : Zv x.ids σ τ) (K : AV → Option R) : VL P t x i τ K = VL P t x i σ K := by
 have key : ∀ e j, x = .val (.one (.own e j)) → τ.ob j = σ.ob j := fun e j hx => h j (by subst hx; simp [AV.ids, V1.cells, Qk, Cell.ids, Qm])
 unfold VL
 split
 ·split
  ·cases he : QbB P t with
   | none =>
    cases x with
    | tup l => rfl
    | val x => cases x with
     | agg cs => rfl
     | one c => cases c <;> rfl
   | some eu =>
    cases x with
    | tup l => simp
    | val x => cases x with
     | agg cs => simp
     | one c => cases c with
      | own e j => simp only [key e j rfl]
      | dat t' y => cases t' with
       | pl wl => cases wl <;> rfl
       | _ => rfl
      | _ => rfl
  ·rfl
  ·rfl
 ·rfl
theorem Qoi {t : TypeId} {x : AV} {σ τ : St} (h : Zv x.ids σ τ) (K : AV → Option R) : aLen P t x τ K = aLen P t x σ K := by
 have key : ∀ e j, x = .val (.one (.own e j)) → τ.ob j = σ.ob j := fun e j hx => h j (by subst hx; simp [AV.ids, V1.cells, Qk, Cell.ids, Qm])
 unfold aLen
 cases hu : P.underlying t with
 | none => cases x with
  | tup l => rfl
  | val x => cases x with
   | agg cs => rfl
   | one c => cases c <;> rfl
 | some d => cases d <;> first
  | rfl
  | (cases x with
    | tup l => rfl
    | val x => cases x with
     | agg cs => rfl
     | one c => cases c with
      | own e j => first | rfl | simp only [key e j rfl]
      | dat t x => cases t with
       | pl wl => cases wl <;> rfl
       | _ => rfl
      | _ => rfl)
end
end Go.Abs
namespace Go.Abs
section
variable {P : Program} {R : Type} {σ τ : St} {o : Oper} {r : R} {nb : Nat} {m : Fu} {Γ : List Summ}
structure Fra (P : Program) (Γ : List Summ) (m : Fu) (o : Oper) (nb : Nat) (σ : St) (rd wr : List Nat) (v : AV) (pre : List (Nat × Option Ob)) : Prop where
 keys : ∀ i ∈ fsts pre, i ∈ wr
 go : ∀ τ, (∀ x ∈ o.op.operands.toList, τ.ev x = σ.ev x) → Zv rd σ τ → ∀ (R' : Type) (K' : AV → St → Option R'), aOp P Γ m nb o τ K' = K' v (Jp τ pre)
 nc : Qs pre
theorem Qek : ∀ {l : List Operand}, (∀ x ∈ l, τ.ev x = σ.ev x) → evs τ l = evs σ l
 | [], _ => rfl
 | x :: r, h => by simp only [evs]; rw [h x (by simp), Qek fun y hy => h y (by simp [hy])]
theorem Qel : ∀ {l : List (Nat × Operand)}, (∀ x ∈ l.map (·.2), τ.ev x = σ.ev x) → evPs τ l = evPs σ l
 | [], _ => rfl
 | (i, x) :: r, h => by simp only [evPs]; rw [h x (by simp), Qel fun y hy => h y (by simp at hy ⊢; exact .inr hy)]
theorem QiA {x : Option Operand} (h : ∀ y ∈ x.toArray.toList, τ.ev y = σ.ev y) : bnd τ x = bnd σ x := by
 cases x with
 | none => rfl
 | some x => simp only [bnd]; rw [h x (by simp)]
theorem Fra.pure {wr rd : List Nat} {G : (R' : Type) → St → (AV → Option R') → Option R'} (hop : ∀ τ (R' : Type) (K' : AV → St → Option R'), aOp P Γ m nb o τ K' = G R' τ (fun v => K' v τ))
  (hsame : ∀ τ, (∀ x ∈ o.op.operands.toList, τ.ev x = σ.ev x) → Zv rd σ τ → ∀ (R' : Type) K', G R' τ K' = (G AV σ some).bind K') {K : AV → St → Option R} (hr : aOp P Γ m nb o σ K = some r) : ∃ v pre, Fra P Γ m o nb σ rd wr v pre := by
 rw [hop, hsame σ (fun _ _ => rfl) (fun _ _ => rfl)] at hr
 cases hg : G AV σ some with
 | none => rw [hg] at hr; cases hr
 | some v => exact ⟨v, [], (fun i hi => by cases hi), (fun τ h1 h2 R' K' => by rw [hop, hsame τ h1 h2, hg]; rfl), Qs.nil⟩
theorem Qco : ∀ {cs : List Cell}, Zv (Qk cs) σ τ → ∀ ts, Qa3 τ ts cs = Qa3 σ ts cs
 | [], _, ts => by cases ts <;> rfl
 | c :: r, h, ts => by
  cases ts with
  | nil => rfl
  | cons t ts =>
   simp only [Qa3]
   rw [Qca (σ := σ) (τ := τ) (c := c) (h.sub fun i hi => by simp [Qk, Qm, hi]), Qco (h.sub fun i hi => by simp [Qk, Qm, hi]) ts]
theorem Qka {c : Cell} (h : Zv c.ids σ τ) (t : Ty) : c.toDatL τ t = c.toDatL σ t := by
 cases c with
 | own e id => simp only [Cell.toDatL]; rw [h id (by simp [Cell.ids])]
 | dat u x => rfl
 | _ => exact Qca h t
theorem QcP : ∀ {cs : List Cell}, Zv (Qk cs) σ τ → ∀ ts, QbP τ ts cs = QbP σ ts cs
 | [], _, ts => by cases ts <;> rfl
 | c :: r, h, ts => by
  cases ts with
  | nil => rfl
  | cons t ts =>
   simp only [QbP]
   rw [Qka (σ := σ) (τ := τ) (c := c) (h.sub fun i hi => by simp [Qk, Qm, hi]), QcP (h.sub fun i hi => by simp [Qk, Qm, hi]) ts]
theorem Qj8 {ln : Bool} {ag : Bool} {ts : List Ty} {x : AV} (h : Zv x.ids σ τ) : Zb ln τ (.val ag ts) x = Zb ln σ (.val ag ts) x := by
 cases x with
 | tup l => cases ag <;> rfl
 | val v =>
  cases ag with
  | false => cases v with
   | one c => cases ln with
    | false => exact Qco h ts
    | true => exact QcP h ts
   | agg cs => rfl
  | true => cases v with
   | one c => rfl
   | agg cs => cases ln with
    | false => exact Qco h ts
    | true => exact QcP h ts
theorem Qko {ln : Bool} {t : Ty} {x : AV} (h : Zv x.ids σ τ) : Zb ln τ (.own t) x = Zb ln σ (.own t) x := by
 cases x with
 | tup l => rfl
 | val v => cases v with
  | agg cs => rfl
  | one c => cases c with
   | own e id =>
    show (Cell.own e id).toOwnF τ t = (Cell.own e id).toOwnF σ t
    simp only [Cell.toOwnF]
    rw [h id (by simp [AV.ids, V1.cells, Qk, Cell.ids, Qm])]
   | _ => rfl
theorem Ql3 {ln : Bool} {t : Ty} {x : AV} (h : Zv x.ids σ τ) : Zb ln τ (.ow t) x = Zb ln σ (.ow t) x := by
 cases x with
 | tup l => rfl
 | val v => cases v with
  | agg cs => rfl
  | one c => cases c with
   | own e id =>
    show (Cell.own e id).toOwnW τ t = (Cell.own e id).toOwnW σ t
    simp only [Cell.toOwnW]
    rw [h id (by simp [AV.ids, V1.cells, Qk, Cell.ids, Qm])]
   | _ => rfl
theorem VS {σ : St} {i : Nat} : ∀ {l : List Nat}, i ∈ Zu σ l ↔ i ∈ l ∨ ∃ j ∈ l, ∃ cs, Q4 σ j = some cs ∧ i ∈ Qk cs
 | [] => by simp [Zu]
 | k :: r => by
  simp only [Zu, Qm, List.mem_cons, List.mem_append, VS (l := r)]
  constructor
  ·rintro (h | h | h | ⟨j, h1, cs, h2, h3⟩)
   ·exact .inl (.inl h)
   ·cases hb : Q4 σ k with
    | none => rw [hb] at h; cases h
    | some cs => rw [hb] at h; exact .inr ⟨k, .inl rfl, cs, hb, h⟩
   ·exact .inl (.inr h)
   ·exact .inr ⟨j, .inr h1, cs, h2, h3⟩
  ·rintro ((h | h) | ⟨j, h1 | h1, cs, h2, h3⟩)
   ·exact .inl h
   ·exact .inr (.inr (.inl h))
   ·subst h1; rw [h2]; exact .inr (.inl h3)
   ·exact .inr (.inr (.inr ⟨j, h1, cs, h2, h3⟩))
theorem QjK {σ : St} {l l' : List Nat} (h : ∀ i ∈ l, i ∈ l') : ∀ i ∈ Zu σ l, i ∈ Zu σ l' := fun i hi => by
 rcases VS.1 hi with hi | ⟨j, h1, cs, h2, h3⟩
 ·exact VS.2 (.inl (h i hi))
 ·exact VS.2 (.inr ⟨j, h j h1, cs, h2, h3⟩)
theorem QhC {σ τ : St} (h : ∀ i, Q4 τ i = Q4 σ i) (l : List Nat) : Zu τ l = Zu σ l := by
 induction l with
 | nil => rfl
 | cons k r ih => simp only [Zu, h k, ih]
theorem Qff {σ τ : St} : ∀ {l : List Nat}, Zv l σ τ → Zu τ l = Zu σ l
 | [], _ => rfl
 | i :: r, h => by
  simp only [Zu]
  rw [show Q4 τ i = Q4 σ i from by simp only [Q4, h i (by simp)], Qff (l := r) (h.sub fun j hj => by simp [hj])]
theorem QjF (σ : St) (c : Cell) (i : Nat) : Q4 (σ.freeze1 c) i = Q4 σ i := by
 cases c with
 | own t id =>
  simp only [St.freeze1]
  cases ho : σ.ob id with
  | none => rfl
  | some o =>
   cases o with
   | box cs => rfl
   | arr t' xs mu =>
    cases mu with
    | wr =>
     have e : ({ σ with hp := (id, some ⟨true, .arr t' xs .fr⟩) :: σ.hp } : St).ob i = if id = i then some (.arr t' xs .fr) else σ.ob i := St.ob_set σ id _ i
     simp only [Q4, e]
     by_cases h : id = i
     ·subst h; simp [ho]
     ·simp [h]
    | _ => rfl
 | _ => rfl
theorem Qby : ∀ (cs : List Cell) (σ : St) (i : Nat), Q4 (σ.freeze cs) i = Q4 σ i
 | [], _, _ => rfl
 | c :: r, σ, i => (Qby r (σ.freeze1 c) i).trans (QjF σ c i)
theorem Qdt (σ : St) (id i : Nat) : Q4 (J6 σ id) i = Q4 σ i := by
 unfold J6
 split
 ·exact Qby _ _ _
 ·rfl
theorem QkK {ln : Bool} {ts : List Ty} {x : AV} (h : Zv (Zu σ x.ids) σ τ) : Zb ln τ (.box ts) x = Zb ln σ (.box ts) x := by
 cases x with
 | tup l => rfl
 | val v => cases v with
  | agg cs => rfl
  | one c => cases c with
   | ptr id off =>
    have hid : id ∈ (AV.val (.one (.ptr id off))).ids := by simp [AV.ids, V1.cells, Qk, Cell.ids, Qm]
    have e : Q4 τ id = Q4 σ id := by simp only [Q4, h id (VS.2 (.inl hid))]
    show (bif Nat.beq off 0 then match Q4 τ id with | some cs => Qa3 τ ts cs | none => none else none) = (bif Nat.beq off 0 then match Q4 σ id with | some cs => Qa3 σ ts cs | none => none else none)
    rw [e]
    cases hb : Q4 σ id with
    | none => rfl
    | some cs =>
     dsimp only
     rw [Qco (h.sub fun i hi => VS.2 (.inr ⟨id, hid, cs, hb, hi⟩)) ts]
   | _ => rfl
theorem Qb6 {x : AV} {xs : List AV} : ∀ i ∈ Zu σ x.ids, i ∈ Zu σ (VA (x :: xs)) := QjK fun i hi => by simp [VA, Qm, hi]
theorem Qb5 {x : AV} {xs : List AV} : ∀ i ∈ Zu σ (VA xs), i ∈ Zu σ (VA (x :: xs)) := QjK fun i hi => by simp [VA, Qm, hi]
theorem QaZ {ln : Bool} : ∀ {ks : List PK}, Vp ks = true → ∀ {xs : List AV}, Zv (Zu σ (VA xs)) σ τ → JP ln τ ks xs = JP ln σ ks xs
 | [], _, xs, _ => by cases xs <;> rfl
 | .val ag ts :: r, hk, [], _ => rfl
 | .val ag ts :: r, hk, x :: xs, h => by
  simp only [JP]
  rw [Qj8 (h.sub fun i hi => Qb6 i (VS.2 (.inl hi))), QaZ (ks := r) hk (h.sub Qb5)]
 | .own t :: r, hk, [], _ => rfl
 | .own t :: r, hk, x :: xs, h => by
  simp only [JP]
  rw [Qko (h.sub fun i hi => Qb6 i (VS.2 (.inl hi))), QaZ (ks := r) hk (h.sub Qb5)]
 | .ow t :: r, hk, [], _ => rfl
 | .ow t :: r, hk, x :: xs, h => by
  simp only [JP]
  rw [Ql3 (h.sub fun i hi => Qb6 i (VS.2 (.inl hi))), QaZ (ks := r) hk (h.sub Qb5)]
 | .box ts :: r, hk, [], _ => rfl
 | .box ts :: r, hk, x :: xs, h => by
  simp only [JP]
  rw [QkK (h.sub Qb6), QaZ (ks := r) hk (h.sub Qb5)]
 | .fn _ _ :: _, hk, _, _ => by simp [Vp] at hk
theorem QaY : ∀ {ks : List PK}, Vp ks = true → ∀ {xs : List AV}, (∀ i ∈ held ks xs, QdD ks = true ∧ i ∈ VA xs)
 | [], _, xs => fun i hi => (by cases xs <;> cases hi)
 | .val ag ts :: r, hk, [] => fun i hi => (by cases hi)
 | .val ag ts :: r, hk, x :: xs => by
  have a3 := QaY (ks := r) hk (xs := xs)
  intro i hi
  have : QaH (.val ag ts) x = [] := by
   cases x <;> rfl
  simp only [held, this, app] at hi
  exact ⟨(a3 i hi).1, by simp [VA, Qm, (a3 i hi).2]⟩
 | .own t :: r, hk, [] => fun i hi => (by cases hi)
 | .own t :: r, hk, x :: xs => by
  have a3 := QaY (ks := r) hk (xs := xs)
  intro i hi
  refine ⟨rfl, ?_⟩
  simp only [held, Qm, List.mem_append] at hi
  simp only [VA, Qm, List.mem_append]
  rcases hi with hi | hi
  ·left
   cases x with
   | tup l => cases hi
   | val v => cases v with
    | agg cs => cases hi
    | one c => cases c with
     | own e id =>
      have : i = id := by simpa [QaH] using hi
      subst this
      simp [AV.ids, V1.cells, Qk, Cell.ids, Qm]
     | _ => cases hi
  ·exact .inr (a3 i hi).2
 | .ow t :: r, hk, [] => fun i hi => (by cases hi)
 | .ow t :: r, hk, x :: xs => by
  have a3 := QaY (ks := r) hk (xs := xs)
  intro i hi
  refine ⟨rfl, ?_⟩
  simp only [held, Qm, List.mem_append] at hi
  simp only [VA, Qm, List.mem_append]
  rcases hi with hi | hi
  ·left
   cases x with
   | tup l => cases hi
   | val v => cases v with
    | agg cs => cases hi
    | one c => cases c with
     | own e id =>
      have : i = id := by simpa [QaH] using hi
      subst this
      simp [AV.ids, V1.cells, Qk, Cell.ids, Qm]
     | _ => cases hi
  ·exact .inr (a3 i hi).2
 | .box t :: r, hk, [] => fun i hi => (by cases hi)
 | .box t :: r, hk, x :: xs => by
  have a3 := QaY (ks := r) hk (xs := xs)
  intro i hi
  refine ⟨rfl, ?_⟩
  simp only [held, Qm, List.mem_append] at hi
  simp only [VA, Qm, List.mem_append]
  rcases hi with hi | hi
  ·left
   cases x with
   | tup l => cases hi
   | val v => cases v with
    | agg cs => cases hi
    | one c => cases c with
     | ptr id off =>
      have : i = id := by simpa [QaH] using hi
      subst this
      simp [AV.ids, V1.cells, Qk, Cell.ids, Qm]
     | _ => cases hi
  ·exact .inr (a3 i hi).2
 | .fn _ _ :: _, hk, _ => by simp [Vp] at hk
theorem Qay : ∀ {ks : List PK}, Vp ks = true → ∀ (xs : List AV) (p : (tupT (Je ks)).den), ∃ pre, (∀ τ, Vs τ ks xs p = Jp τ pre) ∧ (∀ i ∈ fsts pre, QdD ks = true ∧ i ∈ VA xs) ∧ Qs pre
 | [], _, xs, p => ⟨[], (fun τ => by cases xs <;> rfl), (fun i hi => by cases hi), Qs.nil⟩
 | .val ag ts :: r, hk, [], p => ⟨[], (fun τ => rfl), (fun i hi => by cases hi), Qs.nil⟩
 | .val ag ts :: r, hk, x :: xs, p => by
  obtain ⟨q, e, k, n⟩ := Qay (ks := r) hk xs p
  exact ⟨q, e, (fun i hi => ⟨(k i hi).1, by simp [VA, Qm, (k i hi).2]⟩), n⟩
 | .own t :: r, hk, [], p => ⟨[], (fun τ => rfl), (fun i hi => by cases hi), Qs.nil⟩
 | .own t :: r, hk, x :: xs, p => by
  obtain ⟨q, e, k, n⟩ := Qay (ks := r) hk xs p
  exact ⟨q, e, (fun i hi => ⟨rfl, by simp [VA, Qm, (k i hi).2]⟩), n⟩
 | .ow t :: r, hk, [], p => ⟨[], (fun τ => rfl), (fun i hi => by cases hi), Qs.nil⟩
 | .ow t :: r, hk, x :: xs, p => by
  obtain ⟨q, e, k, n⟩ := Qay (ks := r) hk xs p
  exact ⟨q, e, (fun i hi => ⟨rfl, by simp [VA, Qm, (k i hi).2]⟩), n⟩
 | .box ts :: r, hk, [], p => ⟨[], (fun τ => rfl), (fun i hi => by cases hi), Qs.nil⟩
 | .box ts :: r, hk, x :: xs, p => by
  cases x with
  | tup l => exact ⟨[], (fun τ => rfl), (fun i hi => by cases hi), Qs.nil⟩
  | val v => cases v with
   | agg cs => exact ⟨[], (fun τ => rfl), (fun i hi => by cases hi), Qs.nil⟩
   | one c => cases c with
    | ptr id off =>
     obtain ⟨q, e, k, n⟩ := Qay (ks := r) hk xs (tsnd ts (Je r) p)
     refine ⟨app q [(id, some ⟨true, .box (VT ts (tfst ts (Je r) p))⟩)], fun τ => ?_, fun i hi => ⟨rfl, ?_⟩, n.app Qs.one⟩
     ·show Vs (τ.set id (.box (VT ts (tfst ts (Je r) p)))) r xs _ = _
      rw [e, QiR, JM]
     ·rw [Vy, Qm] at hi
      rcases List.mem_append.1 hi with hi | hi
      ·simp [VA, Qm, (k i hi).2]
      ·have : i = id := by simpa [fsts] using hi
       subst this
       simp [VA, AV.ids, V1.cells, Qk, Cell.ids, Qm]
    | _ => exact ⟨[], (fun τ => rfl), (fun i hi => by cases hi), Qs.nil⟩
 | .fn _ _ :: _, hk, _, _ => by simp [Vp] at hk
theorem Qfc : ∀ (l : List Nat), ∃ pre, (∀ τ, Qaq τ l = Jp τ pre) ∧ (∀ i ∈ fsts pre, i ∈ l) ∧ Qs pre
 | [] => ⟨[], fun τ => rfl, (fun i hi => by cases hi), Qs.nil⟩
 | j :: r => by
  obtain ⟨p, e, k, n⟩ := Qfc r
  refine ⟨app p [(j, none)], fun τ => ?_, fun i hi => ?_, n.app (Qs.kill Qs.nil)⟩
  ·show Qaq (τ.kill j) r = _
   rw [e, Qb2, JM]
  ·rw [Vy, Qm] at hi
   rcases List.mem_append.1 hi with hi | hi
   ·exact List.mem_cons_of_mem _ (k i hi)
   ·have : i = j := by simpa [fsts] using hi
    subst this; simp
theorem Qg3 (id : Nat) (σ : St) : ∃ pre, J6 σ id = Jp σ pre ∧ (∀ i ∈ fsts pre, i ∈ Zu σ [id]) ∧ (∀ τ, Zv (Zu σ [id]) σ τ → J6 τ id = Jp τ pre) ∧ Qs pre := by
 have e : ∀ τ, Zv (Zu σ [id]) σ τ → Q4 τ id = Q4 σ id := fun τ h => by simp only [Q4, h id (VS.2 (.inl (by simp)))]
 cases hb : Q4 σ id with
 | none => exact ⟨[], by unfold J6; rw [hb]; rfl, (fun i hi => by cases hi), (fun τ h => by unfold J6; rw [e τ h, hb]; rfl), Qs.nil⟩
 | some cs =>
  obtain ⟨p, f1, f2, f3, f4⟩ := QaM cs σ
  have hs : ∀ i ∈ Qk cs, i ∈ Zu σ [id] := fun i hi => VS.2 (.inr ⟨id, by simp, cs, hb, hi⟩)
  exact ⟨p, by unfold J6; rw [hb]; exact f1, (fun i hi => hs i (f2 i hi)), (fun τ h => by unfold J6; rw [e τ h, hb]; exact f3 τ (h.sub hs)), f4⟩
theorem JX : ∀ {ks : List PK}, Vp ks = true → ∀ (xs : List AV) (σ : St) (i : Nat), Q4 (freezeArgs σ ks xs) i = Q4 σ i
 | [], _, xs, σ, i => by cases xs <;> rfl
 | .val ag ts :: r, hk, [], σ, i => rfl
 | .val ag ts :: r, hk, .tup l :: xs, σ, i => JX (ks := r) hk xs σ i
 | .val ag ts :: r, hk, .val x :: xs, σ, i => (JX (ks := r) hk xs _ i).trans (Qby _ _ _)
 | .ow t :: r, hk, [], σ, i => rfl
 | .ow t :: r, hk, .tup l :: xs, σ, i => JX (ks := r) hk xs σ i
 | .ow t :: r, hk, .val x :: xs, σ, i => JX (ks := r) hk xs σ i
 | .own t :: r, hk, [], σ, i => rfl
 | .own t :: r, hk, .tup l :: xs, σ, i => JX (ks := r) hk xs σ i
 | .own t :: r, hk, .val x :: xs, σ, i => (JX (ks := r) hk xs _ i).trans (Qby _ _ _)
 | .box ts :: r, hk, [], σ, i => rfl
 | .box ts :: r, hk, .tup l :: xs, σ, i => JX (ks := r) hk xs σ i
 | .box ts :: r, hk, .val (.agg cs) :: xs, σ, i => JX (ks := r) hk xs σ i
 | .box ts :: r, hk, .val (.one c) :: xs, σ, i => by
  cases c with
  | ptr id off => exact (JX (ks := r) hk xs _ i).trans (Qdt _ _ _)
  | _ => exact JX (ks := r) hk xs σ i
 | .fn _ _ :: _, hk, _, _, _ => by simp [Vp] at hk
theorem Qe6 : ∀ {ks : List PK}, Vp ks = true → ∀ (xs : List AV) (σ : St), ∃ pre, freezeArgs σ ks xs = Jp σ pre ∧ (∀ i ∈ fsts pre, i ∈ Zu σ (VA xs)) ∧ (∀ τ, Zv (Zu σ (VA xs)) σ τ → freezeArgs τ ks xs = Jp τ pre) ∧ Qs pre
 | [], _, xs, σ => ⟨[], by cases xs <;> rfl, (fun i hi => by cases hi), (fun τ _ => by cases xs <;> rfl), Qs.nil⟩
 | .val ag ts :: r, hk, [], σ => ⟨[], rfl, (fun i hi => by cases hi), (fun τ _ => rfl), Qs.nil⟩
 | .own t :: r, hk, [], σ => ⟨[], rfl, (fun i hi => by cases hi), (fun τ _ => rfl), Qs.nil⟩
 | .ow t :: r, hk, [], σ => ⟨[], rfl, (fun i hi => by cases hi), (fun τ _ => rfl), Qs.nil⟩
 | .box t :: r, hk, [], σ => ⟨[], rfl, (fun i hi => by cases hi), (fun τ _ => rfl), Qs.nil⟩
 | k :: r, hk, x :: xs, σ => by
  have hk2 : Vp r = true := by cases k <;> first | exact hk | simp [Vp] at hk
  have first : ∃ g : St → St, (∀ τ, freezeArgs τ (k :: r) (x :: xs) = freezeArgs (g τ) r xs) ∧ (∀ τ i, Q4 (g τ) i = Q4 τ i) ∧
    ∃ p, g σ = Jp σ p ∧ (∀ i ∈ fsts p, i ∈ Zu σ x.ids) ∧ (∀ τ, Zv (Zu σ x.ids) σ τ → g τ = Jp τ p) ∧ Qs p := by
   have none' : ∀ (h : ∀ τ, freezeArgs τ (k :: r) (x :: xs) = freezeArgs τ r xs), ∃ g : St → St, (∀ τ, freezeArgs τ (k :: r) (x :: xs) = freezeArgs (g τ) r xs) ∧ (∀ τ i, Q4 (g τ) i = Q4 τ i) ∧
    ∃ p, g σ = Jp σ p ∧ (∀ i ∈ fsts p, i ∈ Zu σ x.ids) ∧ (∀ τ, Zv (Zu σ x.ids) σ τ → g τ = Jp τ p) ∧ Qs p := fun h =>
    ⟨id, h, fun _ _ => rfl, [], rfl, (fun i hi => by cases hi), (fun τ _ => rfl), Qs.nil⟩
   have cells' : ∀ y, x = .val y → (∀ τ, freezeArgs τ (k :: r) (x :: xs) = freezeArgs (τ.freeze y.cells) r xs) → ∃ g : St → St, (∀ τ, freezeArgs τ (k :: r) (x :: xs) = freezeArgs (g τ) r xs) ∧ (∀ τ i, Q4 (g τ) i = Q4 τ i) ∧
    ∃ p, g σ = Jp σ p ∧ (∀ i ∈ fsts p, i ∈ Zu σ x.ids) ∧ (∀ τ, Zv (Zu σ x.ids) σ τ → g τ = Jp τ p) ∧ Qs p := fun y hy h => by
    obtain ⟨p1, e1, k1, t1, n1⟩ := QaM y.cells σ
    have hs : ∀ i ∈ Qk y.cells, i ∈ Zu σ x.ids := fun i hi => VS.2 (.inl (by rw [hy]; exact hi))
    exact ⟨fun τ => τ.freeze y.cells, h, fun τ i => Qby _ _ _, p1, e1, (fun i hi => hs i (k1 i hi)), (fun τ hτ => t1 τ (hτ.sub hs)), n1⟩
   cases k with
   | fn _ _ => simp [Vp] at hk
   | val ag ts => cases x with
    | tup l => exact none' fun _ => rfl
    | val y => exact cells' y rfl fun _ => rfl
   | own t => cases x with
    | tup l => exact none' fun _ => rfl
    | val y => exact cells' y rfl fun _ => rfl
   | ow t => cases x <;> exact none' fun _ => rfl
   | box ts => cases x with
    | tup l => exact none' fun _ => rfl
    | val y => cases y with
     | agg cs => exact none' fun _ => rfl
     | one c => cases c with
      | ptr id off =>
       obtain ⟨p1, e1, k1, t1, n1⟩ := Qg3 id σ
       have e : (AV.val (.one (.ptr id off))).ids = [id] := rfl
       exact ⟨fun τ => J6 τ id, fun _ => rfl, fun τ i => Qdt _ _ _, p1, e1, by rw [e]; exact k1, by rw [e]; exact t1, n1⟩
      | _ => exact none' fun _ => rfl
  obtain ⟨g, g1, g2, p1, e1, k1, t1, n1⟩ := first
  obtain ⟨p2, e2, k2, t2, n2⟩ := Qe6 (ks := r) hk2 xs (g σ)
  have hdc : ∀ l, Zu (g σ) l = Zu σ l := fun l => QhC (g2 σ) l
  refine ⟨app p2 p1, ?_, fun i hi => ?_, fun τ hτ => ?_, n2.app n1⟩
  ·rw [g1, e2, e1, JM]
  ·rw [Vy, Qm] at hi
   rcases List.mem_append.1 hi with hi | hi
   ·exact Qb5 i (by rw [← hdc]; exact k2 i hi)
   ·exact Qb6 i (k1 i hi)
  ·have h1 := t1 τ (hτ.sub Qb6)
   rw [g1, t2 (g τ) ?_, h1, JM]
   rw [hdc, e1, h1]
   exact (hτ.sub Qb5).add p1
theorem Qeb : ∀ {ks : List CK} (nb : Nat) (p : (tupT (pay ks)).den), ∃ pre, (∀ τ, obsN nb τ ks p = Jp τ pre) ∧ (∀ i ∈ fsts pre, nb ≤ i ∧ i < nb + owns ks) ∧ Qs pre
 | [], nb, _ => ⟨[], fun τ => rfl, (fun i hi => by cases hi), Qs.nil⟩
 | .cst _ :: ks, nb, p => Qeb (ks := ks) nb p
 | .dat _ :: ks, nb, p => Qeb (ks := ks) nb _
 | .own t b mu :: ks, nb, p => by
  obtain ⟨p2, e, k, n⟩ := Qeb (ks := ks) (nb + 1) (ttl (.sl t) (pay ks) p)
  refine ⟨app p2 [(nb, some ⟨true, .arr t (thd (.sl t) (pay ks) p) mu⟩)], fun τ => ?_, fun i hi => ?_, n.app Qs.one⟩
  ·show obsN (nb + 1) (τ.set nb _) ks _ = _
   rw [QiR, e, JM]
  ·rw [Vy, Qm] at hi
   simp only [owns]
   rcases List.mem_append.1 hi with hi | hi
   ·have := k i hi; omega
   ·simp [fsts] at hi; omega
theorem QfU : ∀ {l : List (Bool × List CK)} (nb : Nat) (p : (tupT (JV l)).den), ∃ pre, (∀ τ, QcC nb τ l p = Jp τ pre) ∧ (∀ i ∈ fsts pre, nb ≤ i ∧ i < nb + VO l) ∧ Qs pre
 | [], nb, _ => ⟨[], fun τ => rfl, (fun i hi => by cases hi), Qs.nil⟩
 | (ag, ks) :: r, nb, p => by
  obtain ⟨p1, e1, k1, n1⟩ := Qeb (ks := ks) nb (tfst (pay ks) (JV r) p)
  obtain ⟨p2, e2, k2, n2⟩ := QfU (l := r) (nb + owns ks) (tsnd (pay ks) (JV r) p)
  refine ⟨app p2 p1, fun τ => ?_, fun i hi => ?_, n2.app n1⟩
  ·simp only [QcC]
   rw [e1, e2, JM]
  ·rw [Vy, Qm] at hi
   simp only [VO]
   rcases List.mem_append.1 hi with hi | hi
   ·have := k2 i hi; omega
   ·have := k1 i hi; omega
theorem Qhn {nb i : Nat} (h1 : nb ≤ i) (h2 : i < nb + 16) : i ∈ Qhb nb := by
 simp only [Qhb, List.mem_cons, List.not_mem_nil, or_false]
 omega
theorem Qj5 {S : Summ} {xs : List AV} (hv : Vp S.sig.pars = true) (nb : Nat) (σ : St) :
  ∃ res : Option (Option (AV × List (Nat × Option Ob))), (∀ τ, Zv (Zu σ (VA xs)) σ τ → ∀ (R' : Type) (K' : AV → St → Option R'), Qew m nb S xs τ K' = res.map fun x => x.bind fun y => K' y.1 (Jp τ y.2)) ∧
   ∀ y, res = some (some y) → (∀ i ∈ fsts y.2, ((Qdy S.sig || QdD S.sig.pars) = true ∧ i ∈ Zu σ (VA xs)) ∨ (VO S.sig.res ≠ 0 ∧ i ∈ Qhb nb)) ∧ Qs y.2 := by
 obtain ⟨pre, f1, f2, f3, f4⟩ := Qe6 hv xs σ
 have h1 := QaY hv (xs := xs)
 obtain ⟨pk, ek, kk, nk⟩ := Qfc (held S.sig.pars xs)
 have hdeep : ∀ i ∈ VA xs, i ∈ Zu σ (VA xs) := fun i hi => VS.2 (.inl hi)
 have hkk : ∀ i ∈ fsts pk, ((Qdy S.sig || QdD S.sig.pars) = true ∧ i ∈ Zu σ (VA xs)) := fun i hi => by
  obtain ⟨a, b⟩ := h1 i (kk i hi)
  exact ⟨by rw [a, Bool.or_true], hdeep i b⟩
 have hg : ∀ τ, Zv (Zu σ (VA xs)) σ τ → JP (!Qdy S.sig) (freezeArgs τ S.sig.pars xs) S.sig.pars xs = JP (!Qdy S.sig) (freezeArgs σ S.sig.pars xs) S.sig.pars xs := fun τ hτ => by
  refine QaZ hv ?_
  rw [QhC (JX hv xs σ), f3 τ hτ, f1]
  exact hτ.add pre
 cases hp : JP (!Qdy S.sig) (freezeArgs σ S.sig.pars xs) S.sig.pars xs with
 | none =>
  refine ⟨none, fun τ hτ R' K' => ?_, fun y hy => by cases hy⟩
  unfold Qew
  rw [hg τ hτ, hp]; rfl
 | some p =>
  cases hb : Qbt (held S.sig.pars xs) && Nat.ble (VO S.sig.res) 16 && QbT S.sig.res with
  | false =>
   refine ⟨none, fun τ hτ R' K' => ?_, fun y hy => by cases hy⟩
   unfold Qew
   rw [hg τ hτ, hp]
   dsimp only
   rw [hb]; rfl
  | true =>
   have hle : VO S.sig.res ≤ 16 := by
    simp only [Bool.and_eq_true] at hb
    exact Nat.le_of_ble_eq_true hb.1.2
   cases hr : S.fn m p with
   | none =>
    refine ⟨some none, fun τ hτ R' K' => ?_, fun y hy => by cases hy⟩
    unfold Qew
    rw [hg τ hτ, hp]
    dsimp only
    rw [hb, hr]; rfl
   | some rr =>
    obtain ⟨p2, e2, k2, n2⟩ := QfU (l := S.sig.res) nb (tfst (JV S.sig.res) (Je S.sig.pars) rr)
    obtain ⟨p3, e3, k3, n3⟩ := Qay hv xs (tsnd (JV S.sig.res) (Je S.sig.pars) rr)
    have hk3 : ∀ i ∈ fsts p3, ((Qdy S.sig || QdD S.sig.pars) = true ∧ i ∈ Zu σ (VA xs)) := fun i hi => by
     obtain ⟨a, b⟩ := k3 i hi
     exact ⟨by rw [a, Bool.or_true], hdeep i b⟩
    cases hsl : Qdy S.sig with
    | false =>
     refine ⟨some (some (Qg0 (QcB nb S.sig.res (tfst (JV S.sig.res) (Je S.sig.pars) rr)), app p2 (app p3 pk))), fun τ hτ R' K' => ?_, fun y hy => ?_⟩
     rotate_left
     ·cases hy
      refine ⟨fun i hi => ?_, n2.app (n3.app nk)⟩
      rw [Vy, Qm] at hi
      rcases List.mem_append.1 hi with hi | hi
      ·refine .inr ⟨fun h0 => ?_, Qhn (k2 i hi).1 (by have := (k2 i hi).2; omega)⟩
       have := k2 i hi; omega
      ·rw [Vy, Qm] at hi
       rcases List.mem_append.1 hi with hi | hi
       ·have := hk3 i hi
        rw [hsl] at this
        exact .inl this
       ·have := hkk i hi
        rw [hsl] at this
        exact .inl this
     ·unfold Qew
      rw [hg τ hτ, hp]
      dsimp only
      rw [hb, hr, hsl]
      simp only [cond_true, cond_false, Option.bind_some, Option.map_some, ek, e3, e2, JM]
    | true =>
     refine ⟨some (some (Qg0 (QcB nb S.sig.res (tfst (JV S.sig.res) (Je S.sig.pars) rr)), app p2 (app p3 (app pk pre)))), fun τ hτ R' K' => ?_, fun y hy => ?_⟩
     rotate_left
     ·cases hy
      refine ⟨fun i hi => ?_, n2.app (n3.app (nk.app f4))⟩
      rw [Vy, Qm] at hi
      rcases List.mem_append.1 hi with hi | hi
      ·refine .inr ⟨fun h0 => ?_, Qhn (k2 i hi).1 (by have := (k2 i hi).2; omega)⟩
       have := k2 i hi; omega
      ·rw [Vy, Qm] at hi
       rcases List.mem_append.1 hi with hi | hi
       ·have := hk3 i hi
        rw [hsl] at this
        exact .inl this
       ·rw [Vy, Qm] at hi
        rcases List.mem_append.1 hi with hi | hi
        ·have := hkk i hi
         rw [hsl] at this
         exact .inl this
        ·exact .inl ⟨by simp, f2 i hi⟩
     ·unfold Qew
      rw [hg τ hτ, hp]
      dsimp only
      rw [hb, hr, hsl]
      simp only [cond_true, Option.bind_some, Option.map_some, ek, e3, e2, f3 τ hτ, JM]
theorem Qfm {g : FuncId} {xs : List AV} (nb : Nat) (σ : St) : ∀ {Γ : List Summ}, Qc5 g Γ = true →
  ∃ res : Option (AV × List (Nat × Option Ob)), (∀ τ, Zv (Zu σ (VA xs)) σ τ → ∀ (R' : Type) (K' : AV → St → Option R'), Qc1 m nb g xs τ K' Γ = res.bind fun y => K' y.1 (Jp τ y.2)) ∧
   ∀ y, res = some y → (∀ i ∈ fsts y.2, (QeC g Γ = true ∧ i ∈ Zu σ (VA xs)) ∨ (Qda g Γ = true ∧ i ∈ Qhb nb)) ∧ Qs y.2
 | [], _ => ⟨none, fun τ _ R' K' => rfl, fun y hy => by cases hy⟩
 | S :: Γ, h => by
  simp only [Qc5, Bool.and_eq_true] at h
  obtain ⟨res2, a1, a2⟩ := Qfm (xs := xs) nb σ (Γ := Γ) h.2
  have up : ∀ y, res2 = some y → (∀ i ∈ fsts y.2, (QeC g (S :: Γ) = true ∧ i ∈ Zu σ (VA xs)) ∨ (Qda g (S :: Γ) = true ∧ i ∈ Qhb nb)) ∧ Qs y.2 := fun y hy => by
   obtain ⟨b1, b2⟩ := a2 y hy
   refine ⟨fun i hi => ?_, b2⟩
   rcases b1 i hi with ⟨c1, c2⟩ | ⟨c1, c2⟩
   ·exact .inl ⟨by simp [QeC, c1], c2⟩
   ·exact .inr ⟨by simp [Qda, c1], c2⟩
  cases hb0 : Nat.beq S.f g && (Qey S).isNone with
  | false => exact ⟨res2, fun τ hτ R' K' => by simp only [Qc1, hb0, cond_false]; exact a1 τ hτ R' K', up⟩
  | true =>
   have hb : Nat.beq S.f g = true := by
    rw [Bool.and_eq_true] at hb0
    exact hb0.1
   have hv : Vp S.sig.pars = true := by
    have h1 := h.1
    rw [hb] at h1
    simpa using h1
   obtain ⟨res1, b1, b2⟩ := Qj5 (m := m) (xs := xs) hv nb σ
   cases hr : res1 with
   | none => exact ⟨res2, fun τ hτ R' K' => by simp only [Qc1, hb0, cond_true]; rw [b1 τ hτ, hr]; exact a1 τ hτ R' K', up⟩
   | some x =>
    refine ⟨x, fun τ hτ R' K' => by simp only [Qc1, hb0, cond_true]; rw [b1 τ hτ, hr]; rfl, fun y hy => ?_⟩
    obtain ⟨c1, c2⟩ := b2 y (by rw [hr, hy])
    refine ⟨fun i hi => ?_, c2⟩
    rcases c1 i hi with ⟨d1, d2⟩ | ⟨d1, d2⟩
    ·refine .inl ⟨?_, d2⟩
     simp only [QeC, hb, d1, Bool.true_and, Bool.true_or]
    ·refine .inr ⟨?_, d2⟩
     have : Nat.beq (VO S.sig.res) 0 = false := by
      cases hh : Nat.beq (VO S.sig.res) 0 with
      | false => rfl
      | true => exact absurd (Nat.eq_of_beq_eq_true hh) d1
     simp [Qda, hb, this]
end
end Go.Abs
namespace Go.Abs
section
variable {P : Program} {R : Type} {σ τ : St} {o : Oper} {r : R} {nb : Nat} {m : Fu} {Γ : List Summ}
theorem Fra.fixed {rd wr : List Nat} (v : AV) (pre : List (Nat × Option Ob)) (hk : ∀ i ∈ fsts pre, i ∈ wr) (h : ∀ τ, (∀ x ∈ o.op.operands.toList, τ.ev x = σ.ev x) → Zv rd σ τ → ∀ (R' : Type) (K' : AV → St → Option R'), aOp P Γ m nb o τ K' = K' v (Jp τ pre))
 (hn : Qs pre := by first | exact Qs.nil | exact Qs.one | exact (Qs.nil.kill).cons) :
 ∃ v pre, Fra P Γ m o nb σ rd wr v pre := ⟨v, pre, hk, h, hn⟩
theorem Qov {t : TypeId} {a x : Operand} (hop : o.op = .store t a x) {K : AV → St → Option R} (hr : aOp P Γ m nb o σ K = some r) :
  ∃ v pre, Fra P Γ m o nb σ (app (σ.ev a).ids (σ.ev x).ids) (app (σ.ev a).ids (σ.ev x).ids) v pre := by
 have e : ∀ τ (R' : Type) (K' : AV → St → Option R'), aOp P Γ m nb o τ K' = Qfj P t (τ.ev a) (τ.ev x) τ (fun s => K' (.val (.one .skip)) s) := fun τ R' K' => by unfold aOp; rw [hop]
 have hops : ∀ τ : St, (∀ x ∈ o.op.operands.toList, τ.ev x = σ.ev x) → τ.ev a = σ.ev a ∧ τ.ev x = σ.ev x := fun τ h => by
  rw [hop] at h; simp only [Op.operands] at h
  exact ⟨h a (by simp), h x (by simp)⟩
 rw [e] at hr
 unfold Qfj at hr
 cases hx : σ.ev x with
 | tup l => rw [hx] at hr; cases hr
 | val xv =>
  rw [hx] at hr
  dsimp only at hr
  cases hc : Nat.beq xv.cells.length (P.cellsOf t) && Nat.blt 0 (P.cellsOf t) && QbN xv.cells with
  | false => rw [hc] at hr; cases hr
  | true =>
   rw [hc] at hr
   simp only [cond_true] at hr
   cases ha : σ.ev a with
   | tup l => rw [ha] at hr; cases hr
   | val av =>
    cases av with
    | agg cs => rw [ha] at hr; cases hr
    | one c =>
     cases c with
     | ptr id off =>
      rw [ha] at hr
      dsimp only at hr
      cases ho : σ.ob id with
      | none => rw [ho] at hr; cases hr
      | some ob =>
       cases ob with
       | arr _ _ _ => rw [ho] at hr; cases hr
       | box cs =>
        rw [ho] at hr
        dsimp only at hr
        cases hl : Nat.ble (off + P.cellsOf t) cs.length with
        | false => rw [hl] at hr; cases hr
        | true =>
         refine Fra.fixed (.val (.one .skip)) [(id, some ⟨true, .box (splice cs off xv.cells)⟩)] (fun i hi => ?_) (fun τ h1 h2 R' K' => ?_)
         ·simp [fsts] at hi; subst hi; simp [AV.ids, V1.cells, Qk, Cell.ids, Qm]
         ·obtain ⟨k1, k2⟩ := hops τ h1
          have k3 : τ.ob id = σ.ob id := h2 id (by simp [AV.ids, V1.cells, Qk, Cell.ids, Qm])
          rw [e]
          unfold Qfj
          rw [k1, k2, ha, hx]
          dsimp only
          rw [hc]
          simp only [cond_true]
          rw [k3, ho]
          dsimp only
          rw [hl]
          rfl
     | eptr u id i off =>
      rw [ha] at hr
      dsimp only at hr
      obtain ⟨pf, f1, f2, f3, f4⟩ := QaM xv.cells σ
      cases ho : (σ.freeze xv.cells).ob id with
      | none => rw [ho] at hr; cases hr
      | some ob =>
       cases ob with
       | box _ => rw [ho] at hr; cases hr
       | arr u' xs mu =>
        cases mu with
        | fr => rw [ho] at hr; cases hr
        | mp _ _ => rw [ho] at hr; cases hr
        | cp _ => rw [ho] at hr; cases hr
        | wr =>
         rw [ho] at hr
         dsimp only at hr
         cases hl : u'.beq u && Nat.ble (off + P.cellsOf t) u'.sz && Nat.blt i (List.length xs) with
         | false => rw [hl] at hr; cases hr
         | true =>
          rw [hl] at hr
          simp only [cond_true] at hr
          have hel : ∀ x ∈ Qk (splice (ZU u' (List.getD xs i u'.zero)) off xv.cells), x ∈ Qk xv.cells := by
           have app_ids : ∀ (a b : List Cell), Qk (a ++ b) = Qk a ++ Qk b := by
            intro a b
            induction a with
            | nil => rfl
            | cons c r ih => simp [Qk, ih, Qm]
           have ex : ∀ (t : Ty) (x : t.den), Qk (ZU t x) = [] := by
            intro t
            induction t with
            | pr a b iha ihb => intro x; simp [ZU, app_ids, iha, ihb]
            | _ => intro x; rfl
           have tk : ∀ (n : Nat) (l : List Cell), Qk l = [] → Qk (l.take n) = [] ∧ Qk (l.drop n) = [] := fun n l hl => by
            have := app_ids (l.take n) (l.drop n)
            rw [List.take_append_drop, hl] at this
            have := this.symm
            rw [List.append_eq_nil_iff] at this
            exact this
           intro y hy
           unfold splice at hy
           rw [app_ids, app_ids, (tk _ _ (ex _ _)).1, (tk _ _ (ex _ _)).2] at hy
           simpa using hy
          have him : ∀ τ, Zv (app (AV.val (.one (.eptr u id i off))).ids (AV.val xv).ids) σ τ → Jy (τ.freeze xv.cells) u' (splice (ZU u' (List.getD xs i u'.zero)) off xv.cells) = Jy (σ.freeze xv.cells) u' (splice (ZU u' (List.getD xs i u'.zero)) off xv.cells) := fun τ h2 => by
           refine (QcN ?_).1
           rw [f1, f3 τ (h2.sub fun i hi => by rw [Qm]; exact List.mem_append_right _ hi)]
           exact (h2.sub fun i hi => by rw [Qm]; exact List.mem_append_right _ (hel i hi)).add pf
          cases hd : Jy (σ.freeze xv.cells) u' (splice (ZU u' (List.getD xs i u'.zero)) off xv.cells) with
          | none => rw [hd] at hr; cases hr
          | some dr =>
           obtain ⟨d, rest⟩ := dr
           cases rest with
           | cons _ _ => rw [hd] at hr; cases hr
           | nil =>
            refine Fra.fixed (.val (.one .skip)) ((id, some ⟨true, .arr u' (List.set xs i d) .wr⟩) :: pf) (fun j hj => ?_) (fun τ h1 h2 R' K' => ?_) f4.cons
            ·rw [Qm]
             simp only [fsts, List.mem_cons] at hj
             rcases hj with rfl | hj
             ·exact List.mem_append_left _ (by simp [AV.ids, V1.cells, Qk, Cell.ids, Qm])
             ·exact List.mem_append_right _ (f2 j hj)
            ·obtain ⟨k1, k2⟩ := hops τ h1
             have kf := f3 τ (h2.sub fun i hi => by rw [Qm]; exact List.mem_append_right _ hi)
             have k3 : (τ.freeze xv.cells).ob id = (σ.freeze xv.cells).ob id := by
              rw [kf, f1, QaD, QaD, h2 id (by rw [Qm]; exact List.mem_append_left _ (by simp [AV.ids, V1.cells, Qk, Cell.ids, Qm]))]
             rw [e]
             unfold Qfj
             rw [k1, k2, ha, hx]
             dsimp only
             rw [hc]
             simp only [cond_true]
             rw [k3, ho]
             dsimp only
             rw [hl]
             simp only [cond_true]
             rw [him τ h2, hd]
             dsimp only
             rw [kf]
             rfl
     | wptr =>
      rw [ha] at hr
      dsimp only at hr
      split at hr
      ·rename_i hxc
       refine Fra.fixed (.val (.one .skip)) [] (fun i hi => by cases hi) (fun τ h1 h2 R' K' => ?_) Qs.nil
       obtain ⟨k1, k2⟩ := hops τ h1
       rw [e]
       unfold Qfj
       rw [k1, k2, ha, hx]
       dsimp only
       rw [hc]
       simp only [cond_true]
       rw [hxc]
       rfl
      ·cases hr
     | _ => rw [ha] at hr; cases hr
end
end Go.Abs
namespace Go.Abs
section
variable {P : Program} {R : Type} {σ τ : St} {o : Oper} {r : R} {nb : Nat} {m : Fu} {Γ : List Summ}
theorem Qkr {l : List Nat} {x : Option Ob} : ∀ i ∈ fsts [(nb, x)], i ∈ nb :: l := fun i hi => by simp [fsts] at hi; simp [hi]
theorem Qiz {t : TypeId} {n : Nat} {ps : Array (Nat × Operand)} (hop : o.op = .buildSlice t n ps) {K : AV → St → Option R} (hr : aOp P Γ m nb o σ K = some r) :
  ∃ v pre, Fra P Γ m o nb σ (Qbq (evPs σ ps.toList)) (nb :: Qbq (evPs σ ps.toList)) v pre := by
 have e0 : ∀ τ (R' : Type) (K' : AV → St → Option R'), aOp P Γ m nb o τ K' = (match Qd7 Γ with
  | true => Qdp P nb t n (evPs τ ps.toList) τ K'
  | false => V0 P nb t n (evPs τ ps.toList) τ K') := fun τ R' K' => by unfold aOp; rw [hop]; cases Qd7 Γ <;> rfl
 have hops : ∀ τ : St, (∀ x ∈ o.op.operands.toList, τ.ev x = σ.ev x) → evPs τ ps.toList = evPs σ ps.toList := fun τ h => by
  rw [hop] at h; simp only [Op.operands] at h
  exact Qel fun x hx => h x (by simpa using hx)
 cases hq : Qd7 Γ with
 | true =>
  rw [e0, hq] at hr
  dsimp only at hr
  unfold Qdp at hr
  split at hr
  case h_2 => cases hr
  rename_i el u ps' σ1 he hpl
  cases hb : Nat.ble (n * u.sz) 16777216 && VD P el u && Nat.beq (evPs σ ps.toList).length n with
  | false => rw [hb] at hr; cases hr
  | true =>
   rw [hb] at hr
   simp only [cond_true] at hr
   split at hr
   case h_2 => cases hr
   rename_i xs hxs
   obtain ⟨pf, f1, f2, f3, f4, f5⟩ := Qe9 (evPs σ ps.toList) hpl
   refine Fra.fixed (.val (.one (.own u.plz nb))) ((nb, some ⟨true, .arr u.plz xs .wr⟩) :: pf) (fun i hi => ?_) (fun τ h1 h2 R' K' => ?_) f4.cons
   ·simp only [fsts, List.mem_cons] at hi ⊢
    exact hi.imp id (f2 i)
   ·rw [e0, hq, hops τ h1]
    dsimp only
    unfold Qdp
    rw [he, f3 τ h2]
    dsimp only
    rw [hb]
    simp only [cond_true]
    have hl : V8 (Jp τ pf) u.plz 0 ps' = V8 σ1 u.plz 0 ps' := Qcj (by
     rw [f1]; exact (h2.sub f5).add pf)
    rw [hl, hxs]
    rfl
 | false =>
 have e : ∀ τ (R' : Type) (K' : AV → St → Option R'), aOp P Γ m nb o τ K' = V0 P nb t n (evPs τ ps.toList) τ K' := fun τ R' K' => by rw [e0, hq]
 rw [e] at hr
 unfold V0 at hr
 split at hr
 case h_2 he =>
  split at hr
  case h_2 => cases hr
  rename_i el he2
  cases hb : Nat.blt 0 n && Nat.ble n 64 with
  | false => rw [hb] at hr; cases hr
  | true =>
   rw [hb] at hr
   simp only [cond_true] at hr
   split at hr
   case h_2 => cases hr
   rename_i cs hcs
   refine Fra.fixed (.val (.one (.bsl nb n))) [(nb, some ⟨true, .box cs⟩)] Qkr (fun τ h1 h2 R' K' => ?_)
   rw [e, hops τ h1]
   unfold V0
   rw [he, he2]
   dsimp only
   rw [hb, hcs]; rfl
 rename_i el u he
 cases hb : Nat.ble (n * u.sz) 16777216 && VD P el u && Nat.beq (evPs σ ps.toList).length n with
 | false => rw [hb] at hr; cases hr
 | true =>
  rw [hb] at hr
  simp only [cond_true] at hr
  split at hr
  case h_2 => cases hr
  rename_i xs hxs
  obtain ⟨pf, f1, f2, f3, f4⟩ := Qa8 (evPs σ ps.toList) σ
  refine Fra.fixed (.val (.one (.own u nb))) ((nb, some ⟨true, .arr u xs .wr⟩) :: pf) (fun i hi => ?_) (fun τ h1 h2 R' K' => ?_) f4.cons
  ·simp only [fsts, List.mem_cons] at hi ⊢
   exact hi.imp id (f2 i)
  ·rw [e, hops τ h1]
   unfold V0
   rw [he]
   dsimp only
   rw [hb]
   simp only [cond_true]
   have hl : V8 (freezeParts τ (evPs σ ps.toList)) u 0 (evPs σ ps.toList) = V8 (freezeParts σ (evPs σ ps.toList)) u 0 (evPs σ ps.toList) := Qcj (by
    rw [f1, f3 τ h2]; exact h2.add pf)
   rw [hl, hxs]
   dsimp only
   rw [f3 τ h2]
   rfl
theorem Qgb {x : AV} (h : Zv x.ids σ τ) (u : Ty) : Qgc τ u x = Qgc σ u x := by
 cases x with
 | tup l => rfl
 | val x => cases x with
  | agg cs => rfl
  | one c => exact QlV (h.sub fun i hi => by simp [AV.ids, V1.cells, Qk, Qm, hi]) _
theorem Qet {x : AV} (h : Zv x.ids σ τ) (u : Ty) : QbM τ u x = QbM σ u x := by
 unfold QbM
 split
 ·rfl
 ·exact Qgb h u
theorem Qdd {x : AV} (h : Zv x.ids σ τ) (ka : Bool) (k : Ty) (va : Bool) (v : Ty) : Qf6 τ ka k va v x = Qf6 σ ka k va v x := by
 cases x with
 | tup l => rfl
 | val x => cases x with
  | agg cs => rfl
  | one c => cases c with
   | own t id =>
    have := h id (by simp [AV.ids, V1.cells, Qk, Cell.ids, Qm])
    simp only [Qf6, this]
   | _ => rfl
theorem Qen {x : AV} (h : Zv x.ids σ τ) (ag : Bool) (t : Ty) : elAt τ ag t x = elAt σ ag t x := by
 cases x with
 | tup l => rfl
 | val x =>
  have := (QcN (t := t) (cs := x.cells) (σ := σ) (τ := τ) (by exact h)).1
  simp only [elAt, this]
theorem Qj2 {t : TypeId} {x y : AV} {okb : Bool} (h1 : Zv x.ids σ τ) (h2 : Zv y.ids σ τ) {R : Type} (K : AV → Option R) : QbQ P t x y okb τ K = QbQ P t x y okb σ K := by
 unfold QbQ
 split
 ·rw [Qdd h1, Qen h2]
 ·rfl
theorem QkU {R : Type} (t : TypeId) (x y : AV) (okb : Bool) (σ : St) (K : AV → Option R) : QbQ P t x y okb σ K = (QbQ P t x y okb σ some).bind K := by
 unfold QbQ
 split
 ·split
  ·cases okb <;> rfl
  ·rfl
 ·rfl
theorem Qj3 {t : TypeId} {x : AV} (h1 : Zv x.ids σ τ) {R : Type} (K : AV → Option R) : QbR P t x τ K = QbR P t x σ K := by
 unfold QbR
 split
 ·rw [Qdd h1]
 ·rfl
theorem QkV {R : Type} (t : TypeId) (x : AV) (σ : St) (K : AV → Option R) : QbR P t x σ K = (QbR P t x σ some).bind K := by
 unfold QbR
 split
 ·split <;> rfl
 ·rfl
theorem Qmj {s d : TypeId} {x : Operand} (hop : o.op = .convert s d x) {K : AV → St → Option R} (hr : aOp P Γ m nb o σ K = some r) : ∃ v pre, Fra P Γ m o nb σ (σ.ev x).ids (bif Nat.beq s d then nb :: (σ.ev x).ids else [nb]) v pre := by
 have nb_in' : ∀ {y : Option Ob}, ∀ i ∈ fsts [(nb, y)], i ∈ (bif Nat.beq s d then nb :: (σ.ev x).ids else [nb]) := fun i hi => by
  simp [fsts] at hi; subst hi; cases Nat.beq s d <;> simp
 have e : ∀ τ (R' : Type) (K' : AV → St → Option R'), aOp P Γ m nb o τ K' = QaW P nb s d (τ.ev x) τ K' := fun τ R' K' => by unfold aOp; rw [hop]
 have hops : ∀ τ : St, (∀ x ∈ o.op.operands.toList, τ.ev x = σ.ev x) → τ.ev x = σ.ev x := fun τ h => by
  rw [hop] at h; exact h x (by simp [Op.operands])
 rw [e] at hr
 unfold QaW at hr
 split at hr
 ·rename_i k0 k k1 n hs hd hx
  refine Fra.fixed (one (.int k) (k.wrap n)) [] (fun i hi => by cases hi) (fun τ h1 h2 R' K' => ?_)
  rw [e, hops τ h1]; unfold QaW; rw [hs, hd, hx]; rfl
 ·rename_i s0 hs hd hx
  refine Fra.fixed (one .str s0) [] (fun i hi => by cases hi) (fun τ h1 h2 R' K' => ?_)
  rw [e, hops τ h1]; unfold QaW; rw [hs, hd, hx]; rfl
 ·rename_i el s0 hs hd hx
  split at hr
  ·rename_i hu
   refine Fra.fixed (.val (.one (.own (.int .u8) nb))) [(nb, some ⟨true, .arr (.int .u8) s0 .wr⟩)] nb_in' (fun τ h1 h2 R' K' => ?_)
   rw [e, hops τ h1]; unfold QaW; rw [hs, hd, hx]; dsimp only; rw [hu]; rfl
  ·cases hr
 ·rename_i el hs hd
  split at hr
  ·rename_i hu
   split at hr
   ·rename_i s0 hl
    refine Fra.fixed (one .str s0) [] (fun i hi => by cases hi) (fun τ h1 h2 R' K' => ?_)
    rw [e, hops τ h1]; unfold QaW; rw [hs, hd]; dsimp only; rw [hu]; dsimp only; rw [Qgb h2, hl]; rfl
   ·cases hr
  ·cases hr
 ·rename_i e' el t id hs hd hx
  split at hr
  ·rename_i u xs mu hsd hu hob
   split at hr
   ·cases hr
   ·rename_i y0 ys
    have hsd2 : Nat.beq s d = true := hsd
    cases hm : mu.isSl with
    | false => rw [hm] at hr; cases hr
    | true =>
    refine Fra.fixed (.val (.one (.own t id))) [(id, some ⟨true, .arr u (y0 :: ys : List u.den) mu⟩)] (fun i hi => ?_) (fun τ h1 h2 R' K' => ?_)
    ·simp [fsts] at hi
     subst hi
     rw [hsd2, hx]
     simp [AV.ids, V1.cells, Qk, Cell.ids, Qm]
    ·have h3 : τ.ob id = σ.ob id := by
      refine h2 id ?_
      rw [hx]; simp [AV.ids, V1.cells, Qk, Cell.ids, Qm]
     rw [e, hops τ h1]; unfold QaW; rw [hs, hd, hx]; dsimp only; rw [hsd2, hu, h3, hob]; dsimp only; rw [hm]; rfl
  ·cases hr
 ·cases hr
theorem Qdn {x : AV} (h : Zv x.ids σ τ) : Qeq τ x = Qeq σ x := by
 cases x with
 | tup l => rfl
 | val x => cases x with
  | agg cs => rfl
  | one c => cases c with
   | own t id =>
    have := h id (by simp [AV.ids, V1.cells, Qk, Cell.ids, Qm])
    simp only [Qeq, this]
   | _ => rfl
theorem QlD {x : AV} {q : Nat × Nat × (t : Ty) × List t.den} (h : Qeq σ x = some q) : q.1 ∈ x.ids := by
 obtain ⟨e, rfl, _⟩ := QeW h
 simp [AV.ids, V1.cells, Qk, Cell.ids, Qm]
theorem Qox {t : TypeId} {x : Operand} {lo hi mx : Option Operand} (hop : o.op = .slice t x lo hi mx) {K : AV → St → Option R} (hr : aOp P Γ m nb o σ K = some r) : ∃ v pre, Fra P Γ m o nb σ (σ.ev x).ids (nb :: (σ.ev x).ids) v pre := by
 have hops : ∀ τ : St, (∀ x ∈ o.op.operands.toList, τ.ev x = σ.ev x) → τ.ev x = σ.ev x ∧ bnd τ lo = bnd σ lo ∧ bnd τ hi = bnd σ hi ∧ bnd τ mx = bnd σ mx := fun τ h => by
  rw [hop] at h; simp only [Op.operands] at h
  exact ⟨h x (by simp), QiA fun y hy => h y (by simp at hy ⊢; simp [hy]), QiA fun y hy => h y (by simp at hy ⊢; simp [hy]), QiA fun y hy => h y (by simp at hy ⊢; simp [hy])⟩
 have e0 : ∀ τ (R' : Type) (K' : AV → St → Option R'), aOp P Γ m nb o τ K' = (match Qeq τ (τ.ev x) with
  | some q => aCut P nb t q (bnd τ lo) (bnd τ hi) (bnd τ mx) τ K'
  | none => Qfk P t (τ.ev x) (bnd τ lo) (bnd τ hi) (bnd τ mx) τ K') := fun τ R' K' => by unfold aOp; rw [hop]; rfl
 cases hq : Qeq σ (σ.ev x) with
 | some q =>
  rw [e0, hq] at hr
  dsimp only at hr
  unfold aCut at hr
  split at hr
  case h_2 => cases hr
  rename_i hv hbl hbh hbm
  split at hr
  case h_2 => cases hr
  rename_i e' u he
  cases hc : q.2.2.1.beq u && (decide (0 ≤ hv) && decide (hv ≤ (q.2.1 : Int))) with
  | false => rw [hc] at hr; cases hr
  | true =>
   refine Fra.fixed (.val (.one (.own q.2.2.1 nb))) [(nb, some ⟨true, .arr q.2.2.1 ((q.2.2.2 ++ List.replicate (q.2.1 - q.2.2.2.length) q.2.2.1.zero).take hv.toNat) .wr⟩), (q.1, none)] (fun i hi => ?_) (fun τ h1 h2 R' K' => ?_)
   ·simp [fsts] at hi
    rcases hi with rfl | rfl
    ·simp
    ·exact List.mem_cons_of_mem _ (QlD hq)
   ·obtain ⟨k1, k2, k3, k4⟩ := hops τ h1
    rw [e0, k1, k2, k3, k4, Qdn h2, hq]
    dsimp only
    unfold aCut
    rw [hbl, hbh, hbm]
    dsimp only
    rw [he]
    dsimp only
    rw [hc]
    rfl
 | none =>
 have e : ∀ τ, (∀ x ∈ o.op.operands.toList, τ.ev x = σ.ev x) → Zv (σ.ev x).ids σ τ → ∀ (R' : Type) (K' : AV → St → Option R'), aOp P Γ m nb o τ K' = Qfk P t (τ.ev x) (bnd τ lo) (bnd τ hi) (bnd τ mx) τ K' := fun τ h1 h2 R' K' => by
  rw [e0, (hops τ h1).1, Qdn h2, hq]
 rw [e σ (fun _ _ => rfl) (fun _ _ => rfl)] at hr
 unfold Qfk at hr
 split at hr
 case h_2 => cases hr
 rename_i bl bh bm hbl hbh hbm
 split at hr
 ·rename_i s hu hx
  split at hr
  ·dsimp only at hr
   cases hc : decide (0 ≤ bl.getD 0) && decide (bl.getD 0 ≤ bh.getD (List.length s)) && decide (bh.getD (List.length s) ≤ (List.length s : Int)) with
   | false => rw [hc] at hr; cases hr
   | true =>
    refine Fra.fixed (one .str ((s.take (bh.getD (List.length s)).toNat).drop (bl.getD 0).toNat)) [] (fun i hi => by cases hi) (fun τ h1 h2 R' K' => ?_)
    obtain ⟨k1, k2, k3, k4⟩ := hops τ h1
    rw [e τ h1 h2, k1, k2, k3, k4]; unfold Qfk; rw [hbl, hbh, hbm]; dsimp only; rw [hu, hx]; dsimp only; rw [hc]; rfl
  ·cases hr
 ·rename_i el c hu hx
  split at hr
  ·cases hr
  ·rename_i hhm
   split at hr
   case h_2 => cases hr
   rename_i eu u he
   split at hr
   case h_2 => cases hr
   rename_i xs hxs
   dsimp only at hr
   cases hc : decide (0 ≤ bl.getD 0) && decide (bl.getD 0 ≤ bh.getD (List.length xs)) && decide (bh.getD (List.length xs) ≤ bm.getD (List.length xs)) && decide (bm.getD (List.length xs) ≤ (List.length xs : Int)) with
   | false => rw [hc] at hr; cases hr
   | true =>
    obtain ⟨pf, f1, f2, f3, f4⟩ := QaM [c] σ
    have hids : (σ.ev x).ids = Qk [c] := by rw [hx]; rfl
    refine Fra.fixed (.val (.one (.dat (.sl (c.elTy u)) ((List.take (bh.getD (List.length xs)).toNat xs).drop (bl.getD 0).toNat)))) pf (fun i hi => List.mem_cons_of_mem _ (by rw [hids]; exact f2 i hi)) (fun τ h1 h2 R' K' => ?_) f4
    obtain ⟨k1, k2, k3, k4⟩ := hops τ h1
    have h2' : Zv (Qk [c]) σ τ := by rw [← hids]; exact h2
    have kf : τ.freeze1 c = Jp τ pf := f3 τ h2'
    have kf0 : σ.freeze1 c = Jp σ pf := f1
    have ks : c.toDatS (τ.freeze1 c) (.sl (c.elTy u)) = c.toDatS (σ.freeze1 c) (.sl (c.elTy u)) := Qca (σ := σ.freeze1 c) (τ := τ.freeze1 c) (c := c) (by rw [kf, kf0]; exact (h2'.sub fun i hi => by simp [Qk, Qm, hi]).add pf) _
    rw [e τ h1 h2, k1, k2, k3, k4]
    unfold Qfk
    rw [hbl, hbh, hbm]
    dsimp only
    rw [hu, hx]
    dsimp only
    cases bh with
    | none =>
     cases bm with
     | some mm => exact (hhm mm rfl rfl).elim
     | none =>
      dsimp only
      rw [he]
      dsimp only
      rw [ks, hxs]
      dsimp only
      rw [hc, kf]
      rfl
    | some hh =>
     dsimp only
     rw [he]
     dsimp only
     rw [ks, hxs]
     dsimp only
     rw [hc, kf]
     rfl
 ·cases hr
theorem Qjj {t : TypeId} {l c : Operand} (hop : o.op = .makeSlice t l c) {K : AV → St → Option R} (hr : aOp P Γ m nb o σ K = some r) : ∃ v pre, Fra P Γ m o nb σ [] [nb] v pre := by
 have e0 : ∀ τ (R' : Type) (K' : AV → St → Option R'), aOp P Γ m nb o τ K' = (match QkG l c with
  | some n => Qdo P nb t n τ K'
  | none => match Qd7 Γ with
   | true => QdR P nb t (τ.ev l) (τ.ev c) τ K'
   | false => QaQ P nb t (τ.ev l) (τ.ev c) τ K') := fun τ R' K' => by unfold aOp; rw [hop]; dsimp only; cases QkG l c <;> cases Qd7 Γ <;> rfl
 cases hq : QkG l c with
 | some n =>
  rw [e0, hq] at hr
  dsimp only at hr
  unfold Qdo at hr
  split at hr
  case h_2 => cases hr
  rename_i el u he
  cases hz : VD P el u && Nat.blt 0 n && Nat.ble n 65536 with
  | false => rw [hz] at hr; cases hr
  | true =>
   refine Fra.fixed (.val (.one (.own u nb))) [(nb, some ⟨true, .arr u [] (.cp n)⟩)] Qkr (fun τ h1 h2 R' K' => ?_)
   rw [e0, hq]; dsimp only; unfold Qdo; rw [he]; dsimp only; rw [hz]; rfl
 | none =>
 have hops : ∀ τ : St, (∀ x ∈ o.op.operands.toList, τ.ev x = σ.ev x) → τ.ev l = σ.ev l ∧ τ.ev c = σ.ev c := fun τ h => by
  rw [hop] at h; simp only [Op.operands] at h
  exact ⟨h l (by simp), h c (by simp)⟩
 cases hqm : Qd7 Γ with
 | true =>
  have e : ∀ τ (R' : Type) (K' : AV → St → Option R'), aOp P Γ m nb o τ K' = QdR P nb t (τ.ev l) (τ.ev c) τ K' := fun τ R' K' => by rw [e0, hq, hqm]
  rw [e] at hr
  unfold QdR at hr
  split at hr
  case h_2 => cases hr
  rename_i el u n mm he hl hc
  cases hz : VD P el u with
  | false => rw [hz] at hr; cases hr
  | true =>
   rw [hz] at hr
   simp only [cond_true] at hr
   cases hb : decide ((0 : Int) = n) && decide ((n : Int) ≤ mm) && decide ((mm : Int) ≤ 4294967296) with
   | false => rw [hb] at hr; cases hr
   | true =>
    refine Fra.fixed (.val (.one (.own u.plz nb))) [(nb, some ⟨true, .arr u.plz [] .wr⟩)] Qkr (fun τ h1 h2 R' K' => ?_)
    obtain ⟨k1, k2⟩ := hops τ h1
    rw [e, k1, k2]; unfold QdR; rw [he, hl, hc]; dsimp only; rw [hz]; simp only [cond_true]; rw [hb]; rfl
 | false =>
 have e : ∀ τ (R' : Type) (K' : AV → St → Option R'), aOp P Γ m nb o τ K' = QaQ P nb t (τ.ev l) (τ.ev c) τ K' := fun τ R' K' => by rw [e0, hq, hqm]
 rw [e] at hr
 unfold QaQ at hr
 split at hr
 case h_2 => cases hr
 rename_i el u n mm he hl hc
 cases hz : VD P el u with
 | false => rw [hz] at hr; cases hr
 | true =>
  rw [hz] at hr
  simp only [cond_true] at hr
  cases hb : decide ((0 : Int) ≤ n) && decide ((n : Int) ≤ mm) && decide ((mm : Int) ≤ 4294967296) with
  | false => rw [hb] at hr; cases hr
  | true =>
   refine Fra.fixed (.val (.one (.own u nb))) [(nb, some ⟨true, .arr u (List.replicate (Int.toNat n) u.zero) .wr⟩)] Qkr (fun τ h1 h2 R' K' => ?_)
   obtain ⟨k1, k2⟩ := hops τ h1
   rw [e, k1, k2]; unfold QaQ; rw [he, hl, hc]; dsimp only; rw [hz]; simp only [cond_true]; rw [hb]; rfl
theorem Qn5 {c : Call} (hop : o.op = .call c) (hc : c.callee = .builtin .append) {s x : AV} (hargs : evs σ c.args.toList = [s, x]) {K : AV → St → Option R} (hr : aOp P Γ m nb o σ K = some r) :
  ∃ v pre, Fra P Γ m o nb σ (app s.ids x.ids) (nb :: s.ids) v pre := by
 have hops : ∀ τ : St, (∀ x ∈ o.op.operands.toList, τ.ev x = σ.ev x) → evs τ c.args.toList = [s, x] := fun τ h => by
  rw [← hargs]
  refine Qek fun y hy => h y ?_
  rw [hop]
  simp only [Op.operands, Call.operands]
  simp at hy ⊢
  exact .inr hy
 have e0 : ∀ τ (R' : Type) (K' : AV → St → Option R'), evs τ c.args.toList = [s, x] → aOp P Γ m nb o τ K' = (match Qeq τ s with
  | some q => Qdq P nb c.argTypes.toList q x τ K'
  | none => Qc2 P nb c.argTypes.toList s x τ K') := fun τ R' K' h => by unfold aOp; rw [hop]; dsimp only; rw [hc]; dsimp only; rw [h]; rfl
 cases hq : Qeq σ s with
 | some q =>
  rw [e0 σ _ _ hargs, hq] at hr
  dsimp only at hr
  unfold Qdq at hr
  split at hr
  case h_2 => cases hr
  rename_i st xt hat
  split at hr
  case h_2 => cases hr
  rename_i el u he hint
  split at hr
  case h_2 => cases hr
  rename_i ys hys
  cases hb : q.2.2.1.beq u && Nat.ble (List.length q.2.2.2 + List.length ys) q.2.1 with
  | false => rw [hb] at hr; cases hr
  | true =>
   refine Fra.fixed (.val (.one (.own q.2.2.1 nb))) [(nb, some ⟨true, .arr q.2.2.1 (q.2.2.2 ++ ys) (.cp q.2.1)⟩), (q.1, none)] (fun i hi => ?_) (fun τ h1 h2 R' K' => ?_)
   ·simp [fsts] at hi
    rcases hi with rfl | rfl
    ·simp
    ·exact List.mem_cons_of_mem _ (QlD hq)
   ·have hsu : Zv s.ids σ τ := h2.sub fun i hi => by rw [Qm]; exact List.mem_append_left _ hi
    have hxu : Zv x.ids σ τ := h2.sub fun i hi => by rw [Qm]; exact List.mem_append_right _ hi
    rw [e0 τ _ _ (hops τ h1), Qdn hsu, hq]
    dsimp only
    unfold Qdq
    rw [hat]; dsimp only; rw [he, hint]; dsimp only; rw [Qet hxu, hys]; dsimp only; rw [hb]; rfl
 | none =>
 have e : ∀ τ (R' : Type) (K' : AV → St → Option R'), Zv (app s.ids x.ids) σ τ → evs τ c.args.toList = [s, x] → aOp P Γ m nb o τ K' = Qc2 P nb c.argTypes.toList s x τ K' := fun τ R' K' h2 h => by
  rw [e0 τ _ _ h, Qdn (h2.sub fun i hi => by rw [Qm]; exact List.mem_append_left _ hi), hq]
 rw [e σ _ _ (fun _ _ => rfl) hargs] at hr
 unfold Qc2 at hr
 split at hr
 case h_2 => cases hr
 rename_i st xt hat
 split at hr
 case h_2 => cases hr
 rename_i el u0 he hint
 cases hz : VD P el u0 with
 | false => rw [hz] at hr; cases hr
 | true =>
  rw [hz] at hr
  simp only [cond_true] at hr
  generalize hu : QkM u0 s x = u at hr
  split at hr
  case h_2 => cases hr
  rename_i ys hys
  have hay : ∀ τ, Zv (app s.ids x.ids) σ τ → QbM τ u x = some ys := fun τ h => by rw [Qet (h.sub fun i hi => by rw [Qm]; exact List.mem_append_right _ hi), hys]
  cases s with
  | tup l => cases hr
  | val sv =>
   cases sv with
   | agg cs => cases hr
   | one sc =>
    cases sc with
    | nils =>
     dsimp only at hr
     cases hb : Nat.ble (List.length ys) (lim P el) with
     | false => rw [hb] at hr; cases hr
     | true =>
      refine Fra.fixed (.val (.one (.own u nb))) [(nb, some ⟨true, .arr u ys .wr⟩)] Qkr (fun τ h1 h2 R' K' => ?_)
      rw [e τ _ _ h2 (hops τ h1)]; unfold Qc2; rw [hat]; dsimp only; rw [he, hint]; dsimp only; rw [hz]; simp only [cond_true]; rw [hu, hay τ h2]; dsimp only; rw [hb]; rfl
    | own u' id =>
     dsimp only at hr
     cases hob : σ.ob id with
     | none => rw [hob] at hr; cases hr
     | some oo =>
      cases oo with
      | box _ => rw [hob] at hr; cases hr
      | arr u'' xs mu =>
       rw [hob] at hr
       dsimp only at hr
       cases hb : mu.isSl && (u''.beq u && u'.beq u) with
       | false => rw [hb] at hr; cases hr
       | true =>
        rw [hb] at hr
        simp only [cond_true] at hr
        cases hto : (Ty.sl u'').to (.sl u) xs with
        | none => rw [hto] at hr; cases hr
        | some xs' =>
         rw [hto] at hr
         dsimp only at hr
         cases hl : Nat.ble (List.length xs' + List.length ys) (lim P el) with
         | false => rw [hl] at hr; cases hr
         | true =>
          refine Fra.fixed (.val (.one (.own u nb))) [(nb, some ⟨true, .arr u (xs' ++ ys) mu⟩), (id, none)] (fun i hi => ?_) (fun τ h1 h2 R' K' => ?_)
          ·simp [fsts] at hi
           rcases hi with rfl | rfl
           ·simp
           ·simp [AV.ids, V1.cells, Qk, Cell.ids, Qm]
          ·have k : τ.ob id = σ.ob id := h2 id (by rw [Qm]; exact List.mem_append_left _ (by simp [AV.ids, V1.cells, Qk, Cell.ids, Qm]))
           rw [e τ _ _ h2 (hops τ h1)]; unfold Qc2; rw [hat]; dsimp only; rw [he, hint]; dsimp only; rw [hz]; simp only [cond_true]; rw [hu, hay τ h2]; dsimp only
           rw [k, hob]; dsimp only; rw [hb]; simp only [cond_true]; rw [hto]; dsimp only; rw [hl]; rfl
    | _ => cases hr
end
end Go.Abs
namespace Go.Abs
section
variable {P : Program} {R : Type} {σ τ : St} {o : Oper} {r : R} {nb : Nat} {m : Fu} {Γ : List Summ}
theorem Qo7 (q : Spc) (xs : List AV) (σ : St) (K : AV → Option R) : aWin m q xs σ K = (aWin m q xs σ some).bind K := by
 unfold aWin
 cases q with
 | win t fn =>
  dsimp only
  split
  ·split
   ·split
    ·rename_i xs' _
     cases fn m (xs', _) <;> rfl
    ·rfl
   ·rfl
  ·rfl
 | rd k fn =>
  dsimp only
  split
  ·split
   ·split
    ·rename_i y _
     cases fn m (y, _) <;> rfl
    ·rfl
   ·rfl
  ·rfl
theorem Qoa {q : Spc} {xs : List AV} (h : Zv (VA xs) σ τ) {R : Type} (K : AV → Option R) : aWin m q xs τ K = aWin m q xs σ K := by
 unfold aWin
 cases q with
 | win t fn =>
  dsimp only
  split
  ·rename_i e id n
   rw [h id (by simp [VA, AV.ids, V1.cells, Qk, Cell.ids, Qm])]
  ·rfl
 | rd k fn =>
  dsimp only
  split
  ·rename_i id n
   rw [h id (by simp [VA, AV.ids, V1.cells, Qk, Cell.ids, Qm])]
  ·rfl
theorem Qln {ka va : Bool} {k v : Ty} {x : AV} {id : Nat} {xs : List (k.den × v.den)} (h : Qf6 σ ka k va v x = some (id, xs)) : id ∈ x.ids := by
 cases x with
 | tup l => cases h
 | val x => cases x with
  | agg cs => cases h
  | one c => cases c with
   | own t j =>
    simp only [Qf6] at h
    split at h
    ·rename_i u ys ka' va' ho
     cases hb : (ka == ka') && (va == va') && u.beq (.pr k v) with
     | false => rw [hb] at h; cases h
     | true =>
      rw [hb] at h
      simp only [cond_true] at h
      split at h
      ·cases h; simp [AV.ids, V1.cells, Qk, Cell.ids, Qm]
      ·cases h
    ·cases h
   | _ => cases h
end
end Go.Abs
end
