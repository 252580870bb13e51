/- The frame of the proofs, part 2: an executor over plain data, and that what it yields is what the machine does. -/
import Derived.Test.YtnnfjeofdcjfoaaA1
import Derived.WalkSpells
import Derived.Lib.LazyBuf
import Derived.Scope
import Derived.WalkKit
import Derived.ProofKit
import Derived.OpenShut
import Derived.ChangeArms
import Derived.SizedLaws
import Derived.Carry
import Derived.Below
import Derived.ChangeSame
import Derived.ChangeOld
import Derived.JoinedOf
/- Abs, part T: calls, III: results. -/
namespace Go.Abs

/-! ## What has no slices -/
theorem hasSlL_app : ∀ (a b : List Ty), hasSlL (app a b) = (hasSlL a || hasSlL b)
  | [], b => by simp [app, hasSlL]
  | t :: r, b => by simp [app, hasSlL, hasSlL_app r b, Bool.or_assoc]

section
variable {w w' : World} {ok ok' : Nat → Nat → Prop}

theorem RepTs.flat : ∀ {ts : List Ty}, hasSlL ts = false → ∀ {x : (tupT ts).den} {vs : List Value}, RepTs w ok ts x vs → RepTs w ok' ts x vs
  | [], _, _, _, h => h
  | t :: r, hf, x, vs, ⟨v, vs', e, h1, h2⟩ => by
    simp only [hasSlL, Bool.or_eq_false_iff] at hf
    exact ⟨v, vs', e, RepD.flat hf.1 h1, RepTs.flat hf.2 h2⟩

theorem BoxRep.flat (hle : ∀ b j, ok' b j → ok b j) {ts : List Ty} (hf : hasSlL ts = false) {x : (tupT ts).den} {v : Value} {B : Nat} (h : BoxRep w ok ts x v B) : BoxRep w ok' ts x v B := by
  obtain ⟨e, c, T, h1, h2, h3⟩ := h
  exact ⟨e, c, T, h1, RepTs.flat hf h2, fun j hj => h3 j (hle _ _ hj)⟩

theorem CapsOut.flat (hle : ∀ b j, ok' b j → ok b j) : ∀ {caps : List (List Ty)}, hasSlL (concatT caps) = false → ∀ {x : (tupT (concatT caps)).den} {vs : List Value}, CapsOut w ok caps x vs → CapsOut w ok' caps x vs
  | [], _, _, _, h => h
  | ts :: r, hf, x, vs, ⟨v, vs', B, e, h1, h2⟩ => by
    rw [concatT, hasSlL_app, Bool.or_eq_false_iff] at hf
    exact ⟨v, vs', B, e, h1.flat hle hf.1, CapsOut.flat hle hf.2 h2⟩

theorem OutsRep.flat (hle : ∀ b j, ok' b j → ok b j) : ∀ {ks : List PK}, hasSlL (outsP ks) = false → ∀ {x : (tupT (outsP ks)).den} {vs : List Value}, OutsRep w ok ks x vs → OutsRep w ok' ks x vs
  | [], _, _, _, h => h
  | .box ts :: r, hf, x, vs, ⟨v, vs', B, e, h1, h2⟩ => by
    rw [outsP, hasSlL_app, Bool.or_eq_false_iff] at hf
    exact ⟨v, vs', B, e, h1.flat hle hf.1, OutsRep.flat hle hf.2 h2⟩
  | .fn f caps :: r, hf, x, vs, ⟨vs1, vs', v, e, e2, h1, h2⟩ => by
    rw [outsP, hasSlL_app, Bool.or_eq_false_iff] at hf
    exact ⟨vs1, vs', v, e, e2, h1.flat hle hf.1, OutsRep.flat hle hf.2 h2⟩
  | .val _ _ :: r, hf, x, vs, ⟨v, vs', e, h2⟩ => by
    rw [outsP, hasSlL_app, Bool.or_eq_false_iff] at hf
    exact ⟨v, vs', e, OutsRep.flat hle hf.2 h2⟩
  | .own _ :: r, hf, x, vs, ⟨v, vs', e, h2⟩ => by
    rw [outsP, hasSlL_app, Bool.or_eq_false_iff] at hf
    exact ⟨v, vs', e, OutsRep.flat hle hf.2 h2⟩

theorem noC {c : Cell} {v : Value} (h : RepC w ok noι noN c v) (hf : ∀ t x, c ≠ .dat t x) (hg : ∀ t x o, c ≠ .vptr t x o) : RepC w' ok' noι noN c v := by
  cases c with
  | any => trivial
  | skip => exact h
  | dat t x => exact absurd rfl (hf t x)
  | nils => exact h
  | nilp => exact h
  | own t id => exact h.1.elim
  | ptr id off => exact h.1.elim
  | vptr t x off => exact absurd rfl (hg t x off)
  | eptr t id i off => exact h.1.elim
  | fn f caps => exact h
end

section
variable {w w' : World} {ok ok' : Nat → Nat → Prop}
theorem CksRep.flat : ∀ {ks : List CK}, hasSlL (pay ks) = false → cstB ks = true → ∀ {p : (tupT (pay ks)).den} {vs : List Value} {bs : List Nat}, CksRep w ok ks p vs bs → CksRep w ok' ks p vs bs
  | [], _, _, _, _, _, h => h
  | .cst c :: ks, hf, hc, p, vs, bs, ⟨v, vs', e, h1, h2⟩ => by
    have hc1 : (∀ t x, c ≠ .dat t x) ∧ (∀ t x o, c ≠ .vptr t x o) ∧ cstB ks = true := by
      cases c with
      | fn f caps => cases caps <;> simp_all [cstB]
      | _ => simp_all [cstB]
    exact ⟨v, vs', e, noC h1 hc1.1 hc1.2.1, CksRep.flat (ks := ks) hf hc1.2.2 h2⟩
  | .dat t :: ks, hf, hc, p, vs, bs, ⟨v, vs', e, h1, h2⟩ => by
    simp only [pay, hasSlL, Bool.or_eq_false_iff] at hf
    exact ⟨v, vs', e, RepD.flat hf.1 h1, CksRep.flat hf.2 (by simpa [cstB] using hc) h2⟩
  | .own t tg mu :: ks, hf, hc, p, vs, bs, h => by
    simp [pay, hasSlL, hasSl] at hf

theorem ResRep.flat : ∀ {l : List (Bool × List CK)}, hasSlL (resTs l) = false → resCst l = true → ∀ {p : (tupT (resTs l)).den} {vs : List Value} {bs : List Nat}, ResRep w ok l p vs bs → ResRep w ok' l p vs bs
  | [], _, _, _, _, _, h => h
  | (ag, ks) :: r, hf, hc, p, vs, bs, ⟨v, vs', b1, b2, e1, e2, h1, h2⟩ => by
    rw [resTs, hasSlL_app, Bool.or_eq_false_iff] at hf
    simp only [resCst, Bool.and_eq_true] at hc
    refine ⟨v, vs', b1, b2, e1, e2, ?_, ResRep.flat hf.2 hc.2 h2⟩
    cases ag with
    | false => exact ⟨h1.1, CksRep.flat hf.1 hc.1 h1.2⟩
    | true => obtain ⟨us, e3, h3⟩ := h1; exact ⟨us, e3, CksRep.flat hf.1 hc.1 h3⟩
end

/-! ## New objects -/
section
variable {P : Program} {R : Type} {F : Fr} {ι : Nat → Value} {ok : Nat → Nat → Prop} {N : Nat → Prop} {σ : St} {a : Act} {w : World} {o : Oper} {r : R}

theorem noC_rep {c : Cell} {v : Value} (h : RepC w ok noι noN c v) : RepC w ok ι N c v := by
  cases c with
  | any => trivial
  | skip => exact h
  | dat t x => exact h
  | nils => exact h
  | nilp => exact h
  | own t id => exact h.1.elim
  | ptr id off => exact h.1.elim
  | vptr t x off => exact h
  | eptr t id i off => exact h.1.elim
  | fn f caps =>
    obtain ⟨vs, e, h⟩ := h
    refine ⟨vs, e, All2.mono (fun c v hc => hc.1.elim) h⟩

structure Grown (F : Fr) (ι : Nat → Value) (ok : Nat → Nat → Prop) (N : Nat → Prop) (a : Act) (w : World) (σ : St) (nb k : Nat) (bs : List Nat) (ι' : Nat → Value) (N' : Nat → Prop) (σ' : St) : Prop where
  sim : Sim F ι' ok N' σ' a w
  same : ∀ i, N i → ι' i = ι i
  le : ∀ i, N i → N' i
  ge : ∀ i, N' i → N i ∨ (nb ≤ i ∧ i < nb + k)
  frm : OpFrm σ σ'
  bb : ∀ i p, σ'.ob i = some p → σ.ob i = some p ∨ ∀ b, blk (ι' i) = some b → b ∈ bs

theorem Grown.refl (h : Sim F ι ok N σ a w) (nb : Nat) : Grown F ι ok N a w σ nb 0 [] ι N σ := ⟨h, fun _ _ => rfl, fun _ h => h, fun _ h => .inl h, OpFrm.refl _, fun _ _ h => .inl h⟩

theorem Grown.trans {nb k k' : Nat} {b1 b2 : List Nat} {ι1 ι2 : Nat → Value} {N1 N2 : Nat → Prop} {σ1 σ2 : St} (h : Grown F ι ok N a w σ nb k b1 ι1 N1 σ1) (h' : Grown F ι1 ok N1 a w σ1 (nb + k) k' b2 ι2 N2 σ2) :
    Grown F ι ok N a w σ nb (k + k') (b1 ++ b2) ι2 N2 σ2 :=
  ⟨h'.sim, fun i hi => (h'.same i (h.le i hi)).trans (h.same i hi), fun i hi => h'.le i (h.le i hi), fun i hi => by
    rcases h'.ge i hi with hh | hh
    · rcases h.ge i hh with h2 | h2
      · exact .inl h2
      · exact .inr ⟨h2.1, by omega⟩
    · exact .inr ⟨by omega, by omega⟩, h.frm.trans h'.frm, fun i p hp => by
    rcases h'.bb i p hp with hh | hh
    · rcases h.bb i p hh with h2 | h2
      · exact .inl h2
      · refine .inr fun b hb => ?_
        have hN := (h.sim.objs i p hh).1
        rw [h'.same i hN] at hb
        exact List.mem_append_left _ (h2 b hb)
    · exact .inr fun b hb => List.mem_append_right _ (hh b hb)⟩

theorem obsN_ok : ∀ {ks : List CK} {nb : Nat} {p : (tupT (pay ks)).den} {vs : List Value} {bs : List Nat} {ι : Nat → Value} {N : Nat → Prop} {σ : St}, Sim F ι ok N σ a w → (∀ i, nb ≤ i → i < nb + owns ks → ¬N i) → CksRep w ok ks p vs bs → bs.Nodup →
    (∀ b ∈ bs, (F.w0.heap.size ≤ b ∨ b ∈ F.S) ∧ ∀ i p, σ.ob i = some p → blk (ι i) ≠ some b) →
    ∃ ι' N', Grown F ι ok N a w σ nb (owns ks) bs ι' N' (obsN nb σ ks p) ∧ All2 (RepC w ok ι' N') (plantN nb ks p) vs
  | [], nb, p, vs, bs, ι, N, σ, h, _, ⟨e1, e2⟩, _, _ => by subst e1; subst e2; exact ⟨ι, N, Grown.refl h nb, trivial⟩
  | .cst c :: ks, nb, p, vs, bs, ι, N, σ, h, hN, ⟨v, vs', e, h1, h2⟩, hd, hb => by
    subst e
    obtain ⟨ι', N', g, hr⟩ := obsN_ok (ks := ks) h hN h2 hd hb
    exact ⟨ι', N', g, noC_rep h1, hr⟩
  | .dat t :: ks, nb, p, vs, bs, ι, N, σ, h, hN, ⟨v, vs', e, h1, h2⟩, hd, hb => by
    subst e
    obtain ⟨ι', N', g, hr⟩ := obsN_ok (ks := ks) h hN h2 hd hb
    exact ⟨ι', N', g, h1, hr⟩
  | .own t tg mu :: ks, nb, p, vs, bs, ι, N, σ, h, hN, ⟨v, vs', bs', e, eb, h1, h2⟩, hd, hb => by
    subst e
    subst eb
    have hl : nb < nb + (owns ks + 1) := by omega
    have hnb : ¬N nb := hN nb (Nat.le_refl _) hl
    have hnew := h.newOb (id := nb) hnb (o := .arr t (thd (.sl t) (pay ks) p) mu) (V := v) h1 (fun b hbv => hb b (by simp [hbv]))
    rw [List.nodup_append] at hd
    have g1 : Grown F ι ok N a w σ nb 1 (blk v).toList (upd ι nb v) (plus N nb) (σ.set nb (.arr t (thd (.sl t) (pay ks) p) mu)) :=
      ⟨hnew, fun i hi => upd_other _ _ _ (fun e => hnb (e ▸ hi)), le_plus, fun i hi => hi.imp id (fun e => by subst e; exact ⟨Nat.le_refl _, by omega⟩), OpFrm.set _ _ _, fun i q hq => by
        rw [St.ob_set] at hq
        split at hq
        · rename_i e; subst e; right; intro b hbv; rw [upd_same] at hbv; simp [hbv]
        · exact .inl hq⟩
    obtain ⟨ι', N', g, hr⟩ := obsN_ok (ks := ks) (nb := nb + 1) hnew (fun i h1 h2 hi => by
      rcases hi with hi | hi
      · exact hN i (by omega) (by simp only [owns]; omega) hi
      · omega) h2 hd.2.1 (fun b hbm => ⟨(hb b (List.mem_append_right _ hbm)).1, fun i q hq hbi => by
        rw [St.ob_set] at hq
        split at hq
        · rename_i e; subst e
          rw [upd_same] at hbi
          exact hd.2.2 b (by simp [hbi]) b hbm rfl
        · rw [upd_other ι nb v (fun e => hnb (e ▸ (h.objs i q hq).1))] at hbi
          exact (hb b (List.mem_append_right _ hbm)).2 i q hq hbi⟩)
    have gg := g1.trans g
    rw [Nat.add_comm 1] at gg
    refine ⟨ι', N', gg, ⟨?_, hr⟩⟩
    refine ⟨g.le nb plus_self, ?_, ?_⟩
    · rw [g.same nb plus_self, upd_same]
    · obtain ⟨A, cap, e, _⟩ := h1
      exact ⟨_, _, _, e⟩

theorem mkV1_ok {ag : Bool} {ks : List CK} {p : (tupT (pay ks)).den} {v : Value} {bs : List Nat} {nb : Nat} (hlen : ∀ q : (tupT (pay ks)).den, ks.length = 1 → (plantN nb ks q).length = 1) (h : V1Rep w ok ag ks p v bs) :
    ∃ vs, CksRep w ok ks p vs bs ∧ ∀ (ι : Nat → Value) (N : Nat → Prop), All2 (RepC w ok ι N) (plantN nb ks p) vs → RepV1 w ok ι N (mkV1 ag (plantN nb ks p)) v := by
  cases ag with
  | false =>
    obtain ⟨hk, h⟩ := h
    refine ⟨[v], h, fun ι N hv => ?_⟩
    have hl := hlen p hk
    cases hc : plantN nb ks p with
    | nil => rw [hc] at hl; cases hl
    | cons c r => cases r with
      | nil => rw [hc] at hv; exact hv.1
      | cons _ _ => rw [hc] at hl; simp at hl
  | true =>
    obtain ⟨vs, e, h⟩ := h
    exact ⟨vs, h, fun ι N hv => ⟨vs, e, hv⟩⟩

theorem plantN_len : ∀ (ks : List CK) (nb : Nat) (p : (tupT (pay ks)).den), (plantN nb ks p).length = ks.length
  | [], _, _ => rfl
  | .cst c :: ks, nb, p => by simp [plantN, plantN_len ks nb]
  | .dat t :: ks, nb, p => by simp [plantN, plantN_len ks nb]
  | .own t tg mu :: ks, nb, p => by simp [plantN, plantN_len ks (nb + 1)]

theorem resObs_ok : ∀ {l : List (Bool × List CK)} {nb : Nat} {p : (tupT (resTs l)).den} {vs : List Value} {bs : List Nat} {ι : Nat → Value} {N : Nat → Prop} {σ : St}, Sim F ι ok N σ a w → (∀ i, nb ≤ i → i < nb + resOwns l → ¬N i) → ResRep w ok l p vs bs → bs.Nodup →
    (∀ b ∈ bs, (F.w0.heap.size ≤ b ∨ b ∈ F.S) ∧ ∀ i p, σ.ob i = some p → blk (ι i) ≠ some b) →
    ∃ ι' N', Grown F ι ok N a w σ nb (resOwns l) bs ι' N' (resObs nb σ l p) ∧ All2 (RepV1 w ok ι' N') (resVals nb l p) vs
  | [], nb, p, vs, bs, ι, N, σ, h, _, ⟨e1, e2⟩, _, _ => by subst e1; subst e2; exact ⟨ι, N, Grown.refl h nb, trivial⟩
  | (ag, ks) :: r, nb, p, vs, bs, ι, N, σ, h, hN, ⟨v, vs', b1, b2, e1, e2, h1, h2⟩, hd, hb => by
    subst e1
    subst e2
    rw [List.nodup_append] at hd
    obtain ⟨us, hu, hval⟩ := mkV1_ok (nb := nb) (fun q hk => by rw [plantN_len]; exact hk) h1
    obtain ⟨ι1, N1, g1, hr1⟩ := obsN_ok (ks := ks) h (fun i h1 h2 => hN i h1 (by simp only [resOwns]; omega)) hu hd.1 (fun b hbm => hb b (List.mem_append_left _ hbm))
    obtain ⟨ι2, N2, g2, hr2⟩ := resObs_ok (l := r) (nb := nb + owns ks) g1.sim (fun i h1 h2 hi => by
      rcases g1.ge i hi with hh | hh
      · exact hN i (by omega) (by simp only [resOwns]; omega) hh
      · omega) h2 hd.2.1 (fun b hbm => ⟨(hb b (List.mem_append_right _ hbm)).1, fun i q hq hbi => by
        rcases g1.bb i q hq with hh | hh
        · rw [g1.same i (h.objs i q hh).1] at hbi
          exact (hb b (List.mem_append_right _ hbm)).2 i q hh hbi
        · exact hd.2.2 b (hh b hbi) b hbm rfl⟩)
    refine ⟨ι2, N2, g1.trans g2, ?_, hr2⟩
    exact hval ι2 N2 (All2.mono (fun _ _ hc => RepC.mono (Ext.refl _ _) g2.same g2.le hc) hr1)
end
end Go.Abs

/- Abs, part U: calls, IV: the operation; all operations. -/
namespace Go.Abs
section
variable {P : Program} {R : Type} {F : Fr} {ι : Nat → Value} {ok : Nat → Nat → Prop} {N : Nat → Prop} {σ : St} {a : Act} {w : World} {o : Oper} {r : R}

theorem aCallF_some {m : Fu} {nb : Nat} {g : FuncId} {args : List AV} {K : AV → St → Option R} : ∀ {Γ : List Summ}, aCallF m nb g args σ K Γ = some r → ∃ S ∈ Γ, S.f = g ∧ aCallS m nb S args σ K = some (some r)
  | [], h => by simp [aCallF] at h
  | S :: Γ, h => by
    simp only [aCallF] at h
    cases hb : Nat.beq S.f g with
    | true =>
      simp only [hb, cond_true] at h
      split at h
      · rename_i x hx; exact ⟨S, by simp, Nat.eq_of_beq_eq_true hb, by rw [hx, h]⟩
      · obtain ⟨S', h1, h2⟩ := aCallF_some h; exact ⟨S', by simp [h1], h2⟩
    | false =>
      simp only [hb, cond_false] at h
      obtain ⟨S', h1, h2⟩ := aCallF_some h; exact ⟨S', by simp [h1], h2⟩

theorem capAVs_rep : ∀ {caps : List (Nat × Nat)} {vs : List Value}, All2 (ptrAt ι N) caps vs → All2 (RepAV w ok ι N) (capAVs caps) vs
  | [], [], _ => trivial
  | (i, o) :: r, v :: vs, h => ⟨h.1, capAVs_rep h.2⟩
  | [], _ :: _, h => h.elim
  | _ :: _, [], h => h.elim

theorem resAV_rep {l : List V1} {vs : List Value} (h : All2 (RepV1 w ok ι N) l vs) : RepAV w ok ι N (resAV l) (tupV vs) := by
  cases l with
  | nil => cases vs with
    | nil => exact (rfl : tupV [] = _)
    | cons _ _ => exact h.elim
  | cons x l => cases vs with
    | nil => exact h.elim
    | cons v vs => cases l with
      | nil => cases vs with
        | nil => exact h.1
        | cons _ _ => exact h.2.elim
      | cons y l => cases vs with
        | nil => exact h.2.elim
        | cons u vs => exact ⟨v :: u :: vs, rfl, h⟩

theorem killAll_get : ∀ (l : List Nat) (σ : St) (t : Nat), (killAll σ l).get t = σ.get t
  | [], _, _ => rfl
  | i :: r, σ, t => (killAll_get r (σ.kill i) t).trans rfl
theorem killAll_n : ∀ (l : List Nat) (σ : St), (killAll σ l).n = σ.n
  | [], _ => rfl
  | i :: r, σ => (killAll_n r (σ.kill i)).trans rfl
theorem killAll_ob : ∀ (l : List Nat) (σ : St) (i : Nat) (p : AO), (killAll σ l).ob i = some p → σ.ob i = some p ∧ i ∉ l
  | [], _, _, _, h => ⟨h, by simp⟩
  | j :: r, σ, i, p, h => by
    obtain ⟨h1, h2⟩ := killAll_ob r (σ.kill j) i p h
    rw [St.ob_kill] at h1
    split at h1
    · cases h1
    · rename_i hne; exact ⟨h1, by simp [h2]; exact fun e => hne e.symm⟩
theorem killAll_frm : ∀ (l : List Nat) (σ : St), OpFrm σ (killAll σ l)
  | [], σ => OpFrm.refl σ
  | i :: r, σ => (OpFrm.kill σ i).trans (killAll_frm r _)

/-- What the caller has when a call has come back. -/
theorem call_core {τ : St} {okT ok1 : Nat → Nat → Prop} (h1 : Sim F ι okT N τ a w) (hle1 : ∀ b j, okT b j → ok1 b j) {sig : Sig} {args : List AV} {vs : List Value} (hargs : All2 (RepAV w okT ι N) args vs) (hheld : ∀ id ∈ held sig.pars args, ∃ o, τ.ob id = some o)
    {rr : sig.outs.den} {v : Value} {w' : World} {ok2 : Nat → Nat → Prop} {rs : List Value} {rbs : List Nat} (hA : After w (bsOf ι (held sig.pars args)) ok1 sig vs rr v w' ok2 rs rbs) {nb : Nat} (hN : Fresh N nb) (h16 : resOwns sig.res ≤ 16) (hcst : resCst sig.res = true)
    (okB : Nat → Nat → Prop) (hB1 : ∀ b j, okT b j → okB b j) (hB2 : ∀ b j, okB b j → ok2 b j) (hB : ∀ b j, okB b j → okT b j ∨ w.heap.size ≤ b ∨ b ∈ bsOf ι (held sig.pars args))
    (hfl : okB = ok2 ∨ hasSlL (app (resTs sig.res) (outsP sig.pars)) = false) :
    ∃ ι' N', Sim F ι' okB N' (resObs nb (setBoxes (killAll τ (held sig.pars args)) sig.pars args (tsnd (resTs sig.res) (outsP sig.pars) rr)) sig.res (tfst (resTs sig.res) (outsP sig.pars) rr)) a w' ∧
      (∀ i, N' i → span N nb i) ∧ RepAV w' okB ι' N' (resAV (resVals nb sig.res (tfst (resTs sig.res) (outsP sig.pars) rr))) v ∧
      OpFrm τ (resObs nb (setBoxes (killAll τ (held sig.pars args)) sig.pars args (tsnd (resTs sig.res) (outsP sig.pars) rr)) sig.res (tfst (resTs sig.res) (outsP sig.pars) rr)) := by
  obtain ⟨a1, a2, a3, a4, a5, a6, a7⟩ := hA
  have hbs : ∀ b ∈ bsOf ι (held sig.pars args), F.w0.heap.size ≤ b ∨ b ∈ F.S := fun b hb => by
    simp only [bsOf, List.mem_flatMap] at hb
    obtain ⟨id, hid, hb⟩ := hb
    obtain ⟨o, ho⟩ := hheld id hid
    exact (h1.objs id o ho).2.2 b (by simpa using hb)
  have hk : Sim F ι okB N (killAll τ (held sig.pars args)) a w' :=
    h1.after a2 hle1 hbs hB1 hB (fun b j hb => a3 b j (hB2 b j hb)) (killAll_get _ _) (killAll_n _ _) (fun i p hp => by
      obtain ⟨g1, g2⟩ := killAll_ob _ _ _ _ hp
      refine ⟨g1, fun b hb hm => ?_⟩
      simp only [bsOf, List.mem_flatMap] at hm
      obtain ⟨id, hid, hb2⟩ := hm
      obtain ⟨o, ho⟩ := hheld id hid
      exact h1.apart i id p o b g1 ho (fun e => g2 (e ▸ hid)) hb (by simpa using hb2))
  have a4' : ResRep w' okB sig.res (tfst (resTs sig.res) (outsP sig.pars) rr) rs rbs := by
    rcases hfl with rfl | hfl
    · exact a4
    · rw [hasSlL_app, Bool.or_eq_false_iff] at hfl
      exact ResRep.flat hfl.1 hcst a4
  have a5' : OutsRep w' okB sig.pars (tsnd (resTs sig.res) (outsP sig.pars) rr) vs := by
    rcases hfl with rfl | hfl
    · exact a5
    · rw [hasSlL_app, Bool.or_eq_false_iff] at hfl
      exact OutsRep.flat hB2 hfl.2 a5
  have hback := setBoxes_ok h1 (BB := boxBs sig.pars vs) (Backs.refl (τ := τ) hk (fun i p hp => ⟨p, (killAll_ob _ _ _ _ hp).1⟩)) a5' hargs hheld (fun b hb => hb)
  obtain ⟨ι', N', g, hr⟩ := resObs_ok (l := sig.res) (nb := nb) hback.sim (fun i h1 h2 => hN i h1 (by omega)) a4' a6 (fun b hb => by
    obtain ⟨n1, n2⟩ := a7 b hb
    refine ⟨?_, fun i p hp hbi => ?_⟩
    · rcases n1 with n1 | n1
      · exact .inl (Nat.le_trans h1.keep.size n1)
      · exact hbs b n1
    · rcases hback.bb i p hp with hh | hh
      · obtain ⟨g1, g2⟩ := killAll_ob _ _ _ _ hh
        rcases n1 with n1 | n1
        · exact absurd ((h1.objs i p g1).2.1.lt hbi) (Nat.not_lt.2 n1)
        · simp only [bsOf, List.mem_flatMap] at n1
          obtain ⟨id, hid, hb2⟩ := n1
          obtain ⟨o, ho⟩ := hheld id hid
          exact h1.apart i id p o b g1 ho (fun e => g2 (e ▸ hid)) hbi (by simpa using hb2)
      · exact n2 (hh b hbi))
  refine ⟨ι', N', g.sim, fun i hi => ?_, by rw [a1]; exact resAV_rep hr, ((killAll_frm _ _).trans hback.frm).trans g.frm⟩
  rcases g.ge i hi with hh | hh
  · exact .inl hh
  · exact .inr ⟨hh.1, by omega⟩

theorem leads_call {m : Fu} {Γ : List Summ} (hΓ : ∀ S ∈ Γ, Sound P S) (h : Sim F ι ok N σ a w) {nb : Nat} (hN : Fresh N nb) {c : Call} (ho : o.op = .call c) {f : Operand} (hc : c.callee = .value f) {g : FuncId} {caps : List (Nat × Nat)} (hf : σ.ev f = .val (.one (.fn g caps))) {K : AV → St → Option R}
    (hr0 : aCallF m nb g (app (evs σ c.args.toList) (capAVs caps)) σ K Γ = some r) : Leads P o F (span N nb) a w σ K r := by
  obtain ⟨S, hSm, rfl, hr⟩ := aCallF_some hr0
  clear hr0
  have hS := hΓ S hSm
  have hfv := h.ev f
  rw [hf] at hfv
  obtain ⟨vsc, hfe, hcaps⟩ := hfv
  have hexec : ∀ w, (execOp a.eval o).run P w = (callFunc S.f (c.args.toList.map a.eval ++ vsc).toArray).run P w := fun w => by
    have e1 : (c.args.toList.map a.eval ++ vsc).toArray = c.args.map a.eval ++ vsc.toArray := by
      apply Array.ext'; simp
    rw [e1]
    simp [execOp, ho, resolve, hc, hfe, Deferred.ofValue, invoke]
  rw [app_eq] at hr
  have hargs : All2 (RepAV w ok ι N) (evs σ c.args.toList ++ capAVs caps) (c.args.toList.map a.eval ++ vsc) := All2.app (h.evs _) (capAVs_rep hcaps)
  generalize evs σ c.args.toList ++ capAVs caps = args at hr hargs
  generalize c.args.toList.map a.eval ++ vsc = vs at hexec hargs
  unfold aCallS at hr
  split at hr
  · cases hr
  · rename_i p hp
    simp only at hr
    cases hb : nodupB (held S.sig.pars args) && Nat.ble (resOwns S.sig.res) 16 && resCst S.sig.res with
    | false => simp [hb] at hr
    | true =>
      simp only [hb, cond_true] at hr
      simp only [Bool.and_eq_true] at hb
      obtain ⟨⟨b1, b2⟩, b3⟩ := hb
      have b1 := (nodupB_iff _).1 b1
      have b2 := Nat.le_of_ble_eq_true b2
      obtain ⟨ok1, h1, l1⟩ := h.freezeArgs S.sig.pars args
      have hargs1 : All2 (RepAV w ok1 ι N) args vs := All2.mono (fun _ _ hc => RepAV.mono (ext_ok l1) (fun _ _ => rfl) (fun _ h => h) hc) hargs
      obtain ⟨q1, q2⟩ := grabArgs_rep h1 hp hargs1
      have hfo : ∀ i o, (freezeArgs σ S.sig.pars args).ob i = some o → ∃ o', σ.ob i = some o' := freezeArgs_ob _ _ _
      cases hfn : S.fn m p with
      | none => simp [hfn] at hr
      | some rr =>
        simp only [hfn, Option.bind_some, Option.some.injEq] at hr
        have hE := hS m p rr hfn w ok1 vs (bsOf ι (held S.sig.pars args)) q1 (h1.nodup b1 q2) h1.oks
        intro next Q hnext
        have core : ∀ v w', (∃ ok' rs rbs, After w (bsOf ι (held S.sig.pars args)) ok1 S.sig vs rr v w' ok' rs rbs) → next (a.put o.dst v) w' := by
          rintro v w' ⟨ok2, rs, rbs, hA⟩
          cases hsl : hasSlL (app (resTs S.sig.res) (outsP S.sig.pars)) with
          | true =>
            simp only [hsl, cond_true] at hr
            obtain ⟨ι', N', k1, k2, k3, k4⟩ := call_core h1 (fun _ _ h => h) hargs1 q2 hA hN b2 b3 ok2 (fun b j hb => (hA.keep.kept b j hb).1) (fun _ _ h => h) (fun b j hb => hA.keep.new b j hb) (.inl rfl)
            exact hnext _ _ v w' ι' ok2 (k1.more k2) (RepAV.mono (Ext.refl _ _) (fun _ _ => rfl) k2 k3) ((freezeArgs_frm _ _ _).trans k4) hr
          | false =>
            simp only [hsl, cond_false] at hr
            obtain ⟨ι', N', k1, k2, k3, k4⟩ := call_core h l1 hargs (fun id hid => by obtain ⟨o', ho'⟩ := q2 id hid; exact hfo id o' ho') hA hN b2 b3 ok (fun _ _ h => h) (fun b j hb => (hA.keep.kept b j (l1 b j hb)).1) (fun b j hb => .inl hb) (.inr hsl)
            exact hnext _ _ v w' ι' ok (k1.more k2) (RepAV.mono (Ext.refl _ _) (fun _ _ => rfl) k2 k3) k4 hr
        unfold Oper.wp
        rw [hexec]
        unfold Ends at hE
        generalize (callFunc S.f vs.toArray).run P w = res at hE ⊢
        cases res with
        | halt x w' => exact hE.elim
        | ok n w' =>
          cases n <;> simp only at hE
          case value v => exact core v w' hE
          case enter g as =>
            refine Calls.mono hE ?_
            rintro e w'' ⟨v, he, hR⟩
            subst he
            exact core v w'' hR
end
end Go.Abs

/- Abs, part V: all operations. -/
namespace Go.Abs
section
variable {P : Program} {R : Type} {F : Fr} {ι : Nat → Value} {ok : Nat → Nat → Prop} {N : Nat → Prop} {σ : St} {a : Act} {w : World} {o : Oper} {r : R}

/-- An operation that only yields a value. -/
theorem leads_ok (h : Sim F ι ok N σ a w) {nb : Nat} {K : AV → Option R} (hx : ∃ av z, K av = some r ∧ (execOp a.eval o).run P w = .ok (.value z) w ∧ RepAV w ok ι N av z) :
    Leads P o F (span N nb) a w σ (fun v _ => K v) r := by
  obtain ⟨av, z, h1, h2, h3⟩ := hx
  exact Leads.value h2 h h3 (OpFrm.refl _) h1 le_span

theorem leads_st (h : Sim F ι ok N σ a w) {nb : Nat} {K : AV → St → Option R} (hx : ∃ av z, K av σ = some r ∧ (execOp a.eval o).run P w = .ok (.value z) w ∧ RepAV w ok ι N av z) :
    Leads P o F (span N nb) a w σ K r := by
  obtain ⟨av, z, h1, h2, h3⟩ := hx
  exact Leads.value h2 h h3 (OpFrm.refl _) h1 le_span

theorem ptrsOf_ok : ∀ {l : List AV} {ps : List (Nat × Nat)} {vs : List Value}, ptrsOf l = some ps → All2 (RepAV w ok ι N) l vs → All2 (ptrAt ι N) ps vs := by
  intro l
  induction l with
  | nil => intro ps vs hp hv; cases hp; cases vs with
    | nil => trivial
    | cons _ _ => exact hv.elim
  | cons x l ih =>
    intro ps vs hp hv
    cases vs with
    | nil => exact hv.elim
    | cons v vs =>
      unfold ptrsOf at hp
      split at hp
      · rename_i h; cases h
      · rename_i i o r h
        cases h
        split at hp
        · rename_i l' hl
          cases hp
          exact ⟨hv.1, ih hl hv.2⟩
        · cases hp
      · cases hp

theorem aOp_sound {m : Fu} {Γ : List Summ} (hΓ : ∀ S ∈ Γ, Sound P S) (h : Sim F ι ok N σ a w) {nb : Nat} (hN : Fresh N nb) {K : AV → St → Option R} (hr : aOp P Γ m nb o σ K = some r) : Leads P o F (span N nb) a w σ K r := by
  unfold aOp at hr
  split at hr
  case h_1 x hop => exact leads_st h ⟨_, a.eval x, hr, by simp [execOp, hop], h.ev x⟩
  case h_2 x hop => exact leads_st h ⟨_, a.eval x, hr, by simp [execOp, hop], h.ev x⟩
  case h_3 c x y hop =>
    obtain ⟨av, b, h1, h2, h3⟩ := aPick_ok (h.ev c) (h.ev x) (h.ev y) hr
    exact leads_st h ⟨av, _, h1, by simp [execOp, hop, h2, asBool], h3⟩
  case h_4 t hop => exact leads_alloc h hN hop hr
  case h_5 t x hop => exact leads_box h hN hop hr
  case h_6 t ps hop =>
    obtain ⟨av, z, h1, h2, h3⟩ := aBuild_ok (qs := ps.map fun (i, x) => (i, a.eval x)) (by simpa using h.evPs ps.toList) hr
    exact leads_st h ⟨av, z, h1, by simp [execOp, hop, h2], h3⟩
  case h_7 t n ps hop => exact leads_buildSlice h hN hop hr
  case h_8 t x hop =>
    obtain ⟨av, z, h1, h2, h3⟩ := aLoad_ok (P := P) h (h.ev x) hr
    exact leads_st h ⟨av, z, h1, by simp [execOp, hop, h2], h3⟩
  case h_9 t x y hop => exact leads_store h hN hop hr
  case h_10 x hop =>
    have hx := h.ev x
    split at hr
    case h_1 i f hx' =>
      rw [hx'] at hx
      obtain ⟨_, B, _, e⟩ := id hx
      exact leads_st h ⟨_, a.eval x, hr, by simp [execOp, hop, e], hx⟩
    case h_2 t d f hx' =>
      rw [hx'] at hx
      obtain ⟨b, oo, us, e, _⟩ := id hx
      exact leads_st h ⟨_, a.eval x, hr, by simp [execOp, hop, e], hx⟩
    case h_3 t i j f hx' =>
      rw [hx'] at hx
      obtain ⟨_, b, oo, n, cap, _, e⟩ := id hx
      exact leads_st h ⟨_, a.eval x, hr, by simp [execOp, hop, e], hx⟩
    case h_4 f cs hx' =>
      rw [hx'] at hx
      obtain ⟨vs, e, _⟩ := id hx
      exact leads_st h ⟨_, a.eval x, hr, by simp [execOp, hop, e], hx⟩
    case h_5 => cases hr
  case h_11 op xt x y yt hop =>
    have hx := h.ev x
    have hy := h.ev y
    have hnilv : (σ.ev y) = .val (.one .nils) → a.eval y = .slice none 0 0 := fun e => by rw [e] at hy; exact hy
    unfold aNil at hr
    split at hr
    case h_1 _ e e' xs hu hx' hy' =>
      rw [hx'] at hx
      obtain ⟨A, cap, e1, _, _, h3⟩ := hx
      have e1 : a.eval x = .slice A xs.length cap := by simpa using e1
      have hg := run_eqGuard_plain (P := P) (w := w) .eql xt x y (.slice A xs.length cap) (.slice none 0 0) (by simp) (by simp)
      have hrun : (execOp a.eval o).run P w = .ok (.value (.bool A.isNone)) w := by
        simp [execOp, hop, e1, hnilv hy', hg, Lib.run_eql_slice_nil w xt _ A xs.length cap 0 0 hu]
      split at hr
      · obtain ⟨r1, r2⟩ := same2_some hr
        refine leads_st h ⟨one .bool A.isNone, _, ?_, hrun, rep_bool _⟩
        cases A with
        | none => exact r1
        | some _ => exact r2
      · rename_i y0 ys
        rcases h3 with h3 | ⟨b, oo, rfl, _⟩
        · cases h3
        · exact leads_st h ⟨one .bool false, _, hr, hrun, rep_bool _⟩
    case h_2 _ e e' xs hu hx' hy' =>
      rw [hx'] at hx
      obtain ⟨A, cap, e1, _, _, h3⟩ := hx
      have e1 : a.eval x = .slice A xs.length cap := by simpa using e1
      have hg := run_eqGuard_plain (P := P) (w := w) .neq xt x y (.slice A xs.length cap) (.slice none 0 0) (by simp) (by simp)
      have hrun : (execOp a.eval o).run P w = .ok (.value (.bool (!A.isNone))) w := by
        simp [execOp, hop, e1, hnilv hy', hg, run_neq_slice_nil_any w xt _ A xs.length cap 0 0 hu]
      split at hr
      · obtain ⟨r1, r2⟩ := same2_some hr
        refine leads_st h ⟨one .bool (!A.isNone), _, ?_, hrun, rep_bool _⟩
        cases A with
        | none => exact r2
        | some _ => exact r1
      · rename_i y0 ys
        rcases h3 with h3 | ⟨b, oo, rfl, _⟩
        · cases h3
        · exact leads_st h ⟨one .bool true, _, hr, hrun, rep_bool _⟩
    case h_3 _ e hu hx' hy' =>
      rw [hx'] at hx
      have e1 : a.eval x = .slice none 0 0 := hx
      have hg := run_eqGuard_plain (P := P) (w := w) .eql xt x y (.slice none 0 0) (.slice none 0 0) (by simp) (by simp)
      exact leads_st h ⟨one .bool true, .bool true, hr, by simp [execOp, hop, e1, hnilv hy', hg, Lib.run_eql_slice_nil w xt _ none 0 0 0 0 hu], rep_bool _⟩
    case h_4 _ e hu hx' hy' =>
      rw [hx'] at hx
      have e1 : a.eval x = .slice none 0 0 := hx
      have hg := run_eqGuard_plain (P := P) (w := w) .neq xt x y (.slice none 0 0) (.slice none 0 0) (by simp) (by simp)
      exact leads_st h ⟨one .bool false, .bool false, hr, by simp [execOp, hop, e1, hnilv hy', hg, run_neq_slice_nil_any w xt _ none 0 0 0 0 hu], rep_bool _⟩
    case h_5 =>
      obtain ⟨av, z, h1, h2, h3⟩ := aBin_ok hx hy hr x y
      exact leads_st h ⟨av, z, h1, by simp only [execOp, hop, Sem.run_bind, h2, Result.andThen_ok]; rfl, h3⟩
  case h_12 op xt x hop =>
    obtain ⟨av, z, h1, h2, h3⟩ := aUn_ok (P := P) (h.ev x) hr
    exact leads_st h ⟨av, z, h1, by simp [execOp, hop, h2], h3⟩
  case h_13 s d x hop => exact leads_convert h hN hop hr
  case h_14 t x lo hi mx hop => exact leads_slice h hN hop hr
  case h_15 s x f hop =>
    obtain ⟨av, z, h1, h2, h3⟩ := aFieldAddr_ok (h.ev x) hr
    exact leads_st h ⟨av, z, h1, by simp [execOp, hop, h2], h3⟩
  case h_16 s x f hop =>
    obtain ⟨av, z, h1, h2, h3⟩ := aField_ok (h.ev x) hr
    exact leads_st h ⟨av, z, h1, by simp [execOp, hop, h2], h3⟩
  case h_17 t x i hop =>
    obtain ⟨av, z, h1, h2, h3⟩ := aIndexAddr_ok h (h.ev x) (h.ev i) hr
    exact leads_st h ⟨av, z, h1, by simp [execOp, hop, h2], h3⟩
  case h_18 t x i hop =>
    obtain ⟨av, z, h1, h2, h3⟩ := aIndex_ok (h.ev x) (h.ev i) hr
    exact leads_st h ⟨av, z, h1, by simp [execOp, hop, h2], h3⟩
  case h_19 x i hop =>
    obtain ⟨av, z, h1, h2, h3⟩ := aExtract_ok (P := P) (h.ev x) hr
    exact leads_st h ⟨av, z, h1, by simp [execOp, hop, h2], h3⟩
  case h_20 t l c hop => exact leads_makeSlice h hN hop hr
  case h_21 f first caps hop =>
    split at hr
    · rename_i ps hfirst hps
      have hv := ptrsOf_ok hps (h.evs caps.toList)
      have hf0 : first = #[] := by cases first; simp_all
      subst hf0
      refine leads_st h ⟨_, .func (.func f) #[] (caps.toList.map a.eval).toArray, hr, ?_, ⟨_, rfl, hv⟩⟩
      have e1 : (caps.toList.map a.eval).toArray = caps.map a.eval := by apply Array.ext'; simp
      rw [e1]
      simp [execOp, hop, Instr.makeFunc]
    · cases hr
  case h_22 c hop =>
    split at hr
    case h_1 hc =>
      split at hr
      · rename_i x t hx ht
        obtain ⟨y, hl, he⟩ := evs_one hx
        have hx := h.ev y
        rw [he] at hx
        obtain ⟨av, z, h1, h2, h3⟩ := aLen_ok (ty := o.type) h hx hr
        have e1 : c.argTypes = #[t] := by apply Array.ext'; simpa using ht
        exact leads_st h ⟨av, z, h1, by simp [execOp, hop, resolve, hc, invoke, builtin, hl, e1, h2], h3⟩
      · cases hr
    case h_2 hc =>
      split at hr
      · rename_i s x hx
        exact leads_append h hN hop hc hx hr
      · cases hr
    case h_3 hc =>
      have hv := h.evs c.args.toList
      obtain ⟨av, z, v0, rest, h1, h2, h3, h4⟩ := aMinMax_ok (P := P) (g := Builtin.max2) (fun k x y => by simp [Builtin.max2, mxI]) mx_in hv hr
      refine leads_st h ⟨av, z, h1, ?_, h4⟩
      simp [execOp, hop, resolve, hc, invoke, builtin, Builtin.max_, h2, h3]
    case h_4 hc =>
      have hv := h.evs c.args.toList
      obtain ⟨av, z, v0, rest, h1, h2, h3, h4⟩ := aMinMax_ok (P := P) (g := Builtin.min2) (fun k x y => by simp [Builtin.min2, mnI]) mn_in hv hr
      refine leads_st h ⟨av, z, h1, ?_, h4⟩
      simp [execOp, hop, resolve, hc, invoke, builtin, Builtin.min_, h2, h3]
    case h_5 f hc =>
      split at hr
      · rename_i g caps hf
        exact leads_call hΓ h hN hop hc hf hr
      · cases hr
    case h_6 => cases hr
  case h_23 => cases hr
end
end Go.Abs

/- Abs, part W: what a spec takes. -/
namespace Go.Abs

def Cell.idsIn (M : Nat → Prop) : Cell → Prop
  | .own _ id => M id
  | .ptr id _ => M id
  | .eptr _ id _ _ => M id
  | .fn _ caps => ∀ c ∈ caps, M c.1
  | _ => True
def V1.idsIn (M : Nat → Prop) : V1 → Prop
  | .one c => c.idsIn M
  | .agg cs => ∀ c ∈ cs, c.idsIn M
def AV.idsIn (M : Nat → Prop) : AV → Prop
  | .val x => x.idsIn M
  | .tup l => ∀ x ∈ l, x.idsIn M
def AO.idsIn (M : Nat → Prop) : AO → Prop
  | .box cs => ∀ c ∈ cs, c.idsIn M
  | .arr _ _ _ => True

section
variable {P : Program} {R : Type} {F : Fr} {ι ι' : Nat → Value} {ok : Nat → Nat → Prop} {N M : Nat → Prop} {σ σ0 : St} {a : Act} {w : World} {o : Oper} {r : R}

theorem All2.left {α β : Type} {Q : α → β → Prop} {Z : α → Prop} (hz : ∀ a b, Q a b → Z a) : ∀ {l : List α} {m : List β}, All2 Q l m → ∀ x ∈ l, Z x
  | [], [], _, x, hx => by cases hx
  | a :: l, b :: m, h, x, hx => by
    rcases List.mem_cons.1 hx with rfl | hx
    · exact hz _ _ h.1
    · exact All2.left hz h.2 x hx
  | [], _ :: _, h, _, _ => h.elim
  | _ :: _, [], h, _, _ => h.elim

theorem All2.monoL {α β : Type} {Q Q' : α → β → Prop} : ∀ {l : List α} {m : List β}, (∀ a ∈ l, ∀ b, Q a b → Q' a b) → All2 Q l m → All2 Q' l m
  | [], [], _, _ => trivial
  | a :: l, b :: m, hq, h => ⟨hq a (by simp) b h.1, All2.monoL (fun x hx => hq x (by simp [hx])) h.2⟩
  | [], _ :: _, _, h => h.elim
  | _ :: _, [], _, h => h.elim

theorem RepC.ids {c : Cell} {v : Value} (h : RepC w ok ι N c v) : c.idsIn N := by
  cases c with
  | own t id => exact h.1
  | ptr id off => exact h.1
  | eptr t id i off => exact h.1
  | fn f caps => obtain ⟨vs, _, h⟩ := h; exact All2.left (fun _ _ hc => hc.1) h
  | _ => trivial
theorem RepV1.ids {x : V1} {v : Value} (h : RepV1 w ok ι N x v) : x.idsIn N := by
  cases x with
  | one c => exact RepC.ids h
  | agg cs => obtain ⟨vs, _, h⟩ := h; exact All2.left (fun _ _ hc => RepC.ids hc) h
theorem RepAV.ids {x : AV} {v : Value} (h : RepAV w ok ι N x v) : x.idsIn N := by
  cases x with
  | val x => exact RepV1.ids h
  | tup l => obtain ⟨vs, _, h⟩ := h; exact All2.left (fun _ _ hc => RepV1.ids hc) h
theorem ObjRep.ids {o : AO} {v : Value} (h : ObjRep w ok ι N o v) : o.idsIn N := by
  cases o with
  | box cs => obtain ⟨B, c, T, _, _, h, _⟩ := h; exact All2.left (fun _ _ hc => RepC.ids hc) h
  | arr t xs mu => trivial

theorem ptrAt.chg (hι : ∀ i, M i → ι' i = ι i) {c : Nat × Nat} {v : Value} (h : ptrAt ι N c v) (hi : M c.1) : ptrAt ι' M c v := by
  obtain ⟨_, B, h1, h2⟩ := h
  exact ⟨hi, B, by rw [hι _ hi]; exact h1, h2⟩

theorem RepC.chg (hι : ∀ i, M i → ι' i = ι i) {c : Cell} {v : Value} (h : RepC w ok ι N c v) (hi : c.idsIn M) : RepC w ok ι' M c v := by
  cases c with
  | any => trivial
  | skip => exact h
  | dat t x => exact h
  | nils => exact h
  | nilp => exact h
  | own t id => exact ⟨hi, by rw [hι _ hi]; exact h.2.1, h.2.2⟩
  | ptr id off => exact ptrAt.chg hι h hi
  | vptr t x off => exact h
  | eptr t id i off => obtain ⟨_, b, o, n, cap, h1, h2⟩ := h; exact ⟨hi, b, o, n, cap, by rw [hι _ hi]; exact h1, h2⟩
  | fn f caps => obtain ⟨vs, e, h⟩ := h; exact ⟨vs, e, All2.monoL (fun c hc v hv => ptrAt.chg hι hv (hi c hc)) h⟩
theorem RepV1.chg (hι : ∀ i, M i → ι' i = ι i) {x : V1} {v : Value} (h : RepV1 w ok ι N x v) (hi : x.idsIn M) : RepV1 w ok ι' M x v := by
  cases x with
  | one c => exact RepC.chg hι h hi
  | agg cs => obtain ⟨vs, e, h⟩ := h; exact ⟨vs, e, All2.monoL (fun c hc v hv => RepC.chg hι hv (hi c hc)) h⟩
theorem RepAV.chg (hι : ∀ i, M i → ι' i = ι i) {x : AV} {v : Value} (h : RepAV w ok ι N x v) (hi : x.idsIn M) : RepAV w ok ι' M x v := by
  cases x with
  | val x => exact RepV1.chg hι h hi
  | tup l => obtain ⟨vs, e, h⟩ := h; exact ⟨vs, e, All2.monoL (fun c hc v hv => RepV1.chg hι hv (hi c hc)) h⟩
theorem ObjRep.chg (hι : ∀ i, M i → ι' i = ι i) {o : AO} {v : Value} (h : ObjRep w ok ι N o v) (hi : o.idsIn M) : ObjRep w ok ι' M o v := by
  cases o with
  | box cs => obtain ⟨B, c, T, e, h1, h2, h3⟩ := h; exact ⟨B, c, T, e, h1, All2.monoL (fun c hc v hv => RepC.chg hι hv (hi c hc)) h2, h3⟩
  | arr t xs mu => exact h

theorem allLt_iff (n : Nat) : ∀ l : List Nat, allLt n l = true ↔ ∀ a ∈ l, a < n
  | [] => by simp [allLt]
  | a :: r => by simp [allLt, allLt_iff n r]
theorem allGe_iff (n : Nat) : ∀ l : List Nat, allGe n l = true ↔ ∀ a ∈ l, n ≤ a
  | [] => by simp [allGe]
  | a :: r => by simp [allGe, allGe_iff n r]
theorem mem_fsts {α : Type} : ∀ {l : List (Nat × α)} {c : Nat × α}, c ∈ l → c.1 ∈ fsts l
  | [], _, h => by cases h
  | (i, x) :: r, c, h => by
    rcases List.mem_cons.1 h with rfl | h
    · simp [fsts]
    · simp [fsts, mem_fsts h]

/-! ### Who gets whose number -/
def pairs : List CK → List Cell → List (Nat × Option Nat)
  | .own _ t _ :: ks, .own _ id :: cs => (t, some id) :: pairs ks cs
  | .own _ t _ :: ks, _ :: cs => (t, none) :: pairs ks cs
  | _ :: ks, _ :: cs => pairs ks cs
  | _, _ => []

def valOf (ι : Nat → Value) : Option Nat → Value
  | some id => ι id
  | none => .slice none 0 0

theorem pairs_cst (c : Cell) (ks : List CK) (d : Cell) (cs : List Cell) : pairs (.cst c :: ks) (d :: cs) = pairs ks cs := by cases d <;> rfl
theorem pairs_dat (t : Ty) (ks : List CK) (d : Cell) (cs : List Cell) : pairs (.dat t :: ks) (d :: cs) = pairs ks cs := by cases d <;> rfl

theorem pairs_tgts : ∀ {ks : List CK} {cs : List Cell}, ks.length = cs.length → (pairs ks cs).map (·.1) = tgts ks
  | [], [], _ => rfl
  | [], _ :: _, h => by simp at h
  | _ :: _, [], h => by simp at h
  | .cst c :: ks, d :: cs, h => by rw [pairs_cst]; exact pairs_tgts (ks := ks) (by simpa using h)
  | .dat t :: ks, d :: cs, h => by rw [pairs_dat]; exact pairs_tgts (ks := ks) (by simpa using h)
  | .own t g mu :: ks, d :: cs, h => by
    have ih := pairs_tgts (ks := ks) (cs := cs) (by simpa using h)
    cases d <;> simp [pairs, tgts, ih]

theorem pairs_srcs : ∀ {ks : List CK} {cs : List Cell}, ks.length = cs.length → (pairs ks cs).filterMap (·.2) = srcs ks cs
  | [], [], _ => rfl
  | [], _ :: _, h => by simp at h
  | _ :: _, [], h => by simp at h
  | .cst c :: ks, d :: cs, h => by
    have ih := pairs_srcs (ks := ks) (cs := cs) (by simpa using h)
    rw [pairs_cst, ih]; cases d <;> rfl
  | .dat t :: ks, d :: cs, h => by
    have ih := pairs_srcs (ks := ks) (cs := cs) (by simpa using h)
    rw [pairs_dat, ih]; cases d <;> rfl
  | .own t g mu :: ks, d :: cs, h => by
    have ih := pairs_srcs (ks := ks) (cs := cs) (by simpa using h)
    cases d <;> simp [pairs, srcs, ih]

theorem look_nodup {α : Type} : ∀ {l : List (Nat × α)} {i : Nat} {s : α}, (l.map (·.1)).Nodup → (i, s) ∈ l → look l i = some s
  | [], _, _, _, h => by cases h
  | (j, u) :: r, i, s, hn, h => by
    rw [List.map_cons, List.nodup_cons] at hn
    rw [look_cons]
    rcases List.mem_cons.1 h with e | h
    · cases e; simp
    · have : j ≠ i := fun e => hn.1 (by subst e; exact List.mem_map.2 ⟨_, h, rfl⟩)
      rw [if_neg this]; exact look_nodup hn.2 h

theorem pairs_inj : ∀ {l : List (Nat × Option Nat)} {i j s : Nat}, (l.filterMap (·.2)).Nodup → (l.map (·.1)).Nodup → (i, some s) ∈ l → (j, some s) ∈ l → i = j
  | [], _, _, _, _, _, h, _ => by cases h
  | (k, none) :: r, i, j, s, hn, hm, h1, h2 => by
    rw [List.map_cons, List.nodup_cons] at hm
    have a1 : (i, some s) ∈ r := by rcases List.mem_cons.1 h1 with e | h; · cases e
                                    · exact h
    have a2 : (j, some s) ∈ r := by rcases List.mem_cons.1 h2 with e | h; · cases e
                                    · exact h
    exact pairs_inj (by simpa using hn) hm.2 a1 a2
  | (k, some u) :: r, i, j, s, hn, hm, h1, h2 => by
    rw [List.map_cons, List.nodup_cons] at hm
    simp only [List.filterMap_cons] at hn
    rw [List.nodup_cons] at hn
    have key : ∀ {x : Nat}, (x, some s) ∈ r → s ∈ r.filterMap (·.2) := fun h => List.mem_filterMap.2 ⟨_, h, rfl⟩
    rcases List.mem_cons.1 h1 with e1 | h1
    · rcases List.mem_cons.1 h2 with e2 | h2
      · cases e1; cases e2; rfl
      · cases e1; exact absurd (key h2) hn.1
    · rcases List.mem_cons.1 h2 with e2 | h2
      · cases e2; exact absurd (key h1) hn.1
      · exact pairs_inj hn.2 hm.2 h1 h2

theorem grab_len : ∀ {ks : List CK} {cs : List Cell} {p : (tupT (pay ks)).den}, grab σ ks cs = some p → ks.length = cs.length
  | [], [], _, _ => rfl
  | [], _ :: _, _, h => by simp [grab] at h
  | .cst c :: ks, [], _, h => by simp [grab] at h
  | .dat t :: ks, [], _, h => by simp [grab] at h
  | .own t g mu :: ks, [], _, h => by simp [grab] at h
  | .cst c :: ks, d :: cs, p, h => by
    simp only [grab] at h
    cases hb : c.same d with
    | false => simp [hb] at h
    | true => simp only [hb, cond_true] at h; simp [grab_len h]
  | .dat t :: ks, d :: cs, p, h => by
    simp only [grab] at h
    split at h
    · split at h
      · rename_i y hy; simp [grab_len hy]
      · cases h
    · cases h
  | .own t g mu :: ks, d :: cs, p, h => by
    simp only [grab] at h
    split at h
    · split at h
      · rename_i y hy; simp [grab_len hy]
      · cases h
    · cases h

theorem toOwn_obj (h : Sim F ι ok N σ a w) {t : Ty} {mu : Bool} {c : Cell} {x : List t.den} (hc : c.toOwn σ t mu = some x) {v : Value} (hv : RepC w ok ι N c v) :
    (∃ a n k, v = .slice a n k) ∧ ((∃ e id, c = .own e id ∧ v = ι id ∧ (∃ e' xs m, σ.ob id = some (.arr e' xs m)) ∧ ObjRep w ok ι N (.arr t x mu) v) ∨ (c = .nils ∧ v = .slice none 0 0 ∧ x = [])) := by
  cases c with
  | own e id =>
    simp only [Cell.toOwn] at hc
    split at hc
    · rename_i e' xs m ho
      cases hb : e'.beq e && (bif m then mu else !mu) with
      | false => simp [hb] at hc
      | true =>
        simp only [hb, cond_true] at hc
        obtain ⟨e1, hx⟩ := Ty.to_some hc
        cases e1; subst hx
        simp only [Bool.and_eq_true] at hb
        have hm : m = mu := by cases m <;> cases mu <;> simp_all
        subst hm
        obtain ⟨_, g2, _⟩ := h.objs id _ ho
        refine ⟨hv.2.2, .inl ⟨e, id, rfl, hv.2.1, ⟨_, _, _, ho⟩, by rw [hv.2.1]; exact g2⟩⟩
    · cases hc
  | nils =>
    change some ([] : List t.den) = some x at hc
    cases hc
    cases (show v = _ from hv)
    exact ⟨⟨_, _, _, rfl⟩, .inr ⟨rfl, rfl, rfl⟩⟩
  | _ => simp [Cell.toOwn] at hc

/-- What is planted. -/
theorem grab_plant (h : Sim F ι ok N σ a w) {n0 : Nat} (hM : ∀ i, i < n0 → N i → M i ∧ ι' i = ι i) : ∀ {ks : List CK} {cs : List Cell} {vs : List Value} {p : (tupT (pay ks)).den}, grab σ ks cs = some p → All2 (RepC w ok ι N) cs vs → cstOk n0 ks = true →
    (∀ i s, (i, s) ∈ pairs ks cs → M i ∧ ι' i = valOf ι s) → All2 (RepC w ok ι' M) (plant ks p) vs
  | [], [], [], _, _, _, _, _ => trivial
  | [], [], _ :: _, _, _, hv, _, _ => hv.elim
  | [], _ :: _, _, _, hg, _, _, _ => by simp [grab] at hg
  | .cst c :: ks, [], _, _, hg, _, _, _ => by simp [grab] at hg
  | .dat t :: ks, [], _, _, hg, _, _, _ => by simp [grab] at hg
  | .own t g mu :: ks, [], _, _, hg, _, _, _ => by simp [grab] at hg
  | _ :: _, _ :: _, [], _, _, hv, _, _ => hv.elim
  | .cst c :: ks, d :: cs, v :: vs, p, hg, hv, hc, hp => by
    simp only [grab] at hg
    rw [pairs_cst] at hp
    cases hb : c.same d with
    | false => simp [hb] at hg
    | true =>
      simp only [hb, cond_true] at hg
      have hc2 : cstOk n0 ks = true := by cases c <;> simp_all [cstOk]
      refine ⟨?_, grab_plant h hM (ks := ks) hg hv.2 hc2 hp⟩
      cases c with
      | any => trivial
      | skip => cases d <;> simp [Cell.same] at hb; exact hv.1
      | nils => cases d <;> simp [Cell.same] at hb; exact hv.1
      | nilp => cases d <;> simp [Cell.same] at hb; exact hv.1
      | ptr i off =>
        cases d <;> simp [Cell.same] at hb
        obtain ⟨rfl, rfl⟩ := hb
        have hlt : i < n0 := by simp [cstOk] at hc; exact hc.1
        have h1 := hv.1
        obtain ⟨g1, B, g2, g3⟩ := h1
        obtain ⟨k1, k2⟩ := hM i hlt g1
        exact ⟨k1, B, by rw [k2]; exact g2, g3⟩
      | fn f caps =>
        cases d with
        | fn g ds =>
          simp [Cell.same] at hb
          obtain ⟨e1, rfl⟩ := hb
          have e1 : f = g := e1
          subst e1
          obtain ⟨us, e, h1⟩ := hv.1
          have hall : ∀ c ∈ caps, c.1 < n0 := by
            simp only [cstOk, Bool.and_eq_true] at hc
            have hc1 := hc.1
            exact fun c hc => (allLt_iff n0 _).1 hc1 c.1 (mem_fsts hc)
          exact ⟨us, e, All2.monoL (fun c hc v hv => by
            obtain ⟨g1, B, g2, g3⟩ := hv
            obtain ⟨k1, k2⟩ := hM c.1 (hall c hc) g1
            exact ⟨k1, B, by rw [k2]; exact g2, g3⟩) h1⟩
        | _ => simp [Cell.same] at hb
      | _ => simp [cstOk] at hc
  | .dat t :: ks, d :: cs, v :: vs, p, hg, hv, hc, hp => by
    simp only [grab] at hg
    rw [pairs_dat] at hp
    split at hg
    · rename_i x hx
      split at hg
      · rename_i y hy
        cases hg
        refine ⟨?_, ?_⟩
        · show RepD w ok t _ [v]
          rw [thd_tcons]; exact h.toDatS hx hv.1
        · rw [ttl_tcons]; exact grab_plant h hM (ks := ks) hy hv.2 (by simpa [cstOk] using hc) hp
      · cases hg
    · cases hg
  | .own t g mu :: ks, d :: cs, v :: vs, p, hg, hv, hc, hp => by
    simp only [grab] at hg
    split at hg
    · rename_i x hx
      split at hg
      · rename_i y hy
        cases hg
        obtain ⟨g1, g2⟩ := toOwn_obj h hx hv.1
        refine ⟨?_, ?_⟩
        · rcases g2 with ⟨e, id, rfl, e2, _, _⟩ | ⟨rfl, e2, _⟩
          · obtain ⟨k1, k2⟩ := hp g (some id) (by simp [pairs])
            exact ⟨k1, by rw [k2]; exact e2, g1⟩
          · obtain ⟨k1, k2⟩ := hp g none (by simp [pairs])
            exact ⟨k1, by rw [k2]; exact e2, g1⟩
        · rw [ttl_tcons]
          refine grab_plant h hM (ks := ks) hy hv.2 (by simpa [cstOk] using hc) (fun i s hi => hp i s ?_)
          cases d <;> simp [pairs, hi]
      · cases hg
    · cases hg

/-- The objects that are planted. -/
theorem grab_obs (h : Sim F ι ok N σ a w) : ∀ {ks : List CK} {cs : List Cell} {vs : List Value} {p : (tupT (pay ks)).den}, grab σ ks cs = some p → All2 (RepC w ok ι N) cs vs →
    (∀ i b, look (plantObs ks p) i = some b → ∃ s t xs mu, (i, s) ∈ pairs ks cs ∧ b = some ⟨true, .arr t xs mu⟩ ∧ ObjRep w ok ι N (.arr t xs mu) (valOf ι s) ∧ ∀ id, s = some id → ∃ e' ys m, σ.ob id = some (.arr e' ys m)) ∧
    (∀ i, look (plantObs ks p) i = none → i ∉ tgts ks)
  | [], [], [], _, _, _ => ⟨fun i b hb => by simp [plantObs, look] at hb, fun i _ => by simp [tgts]⟩
  | [], [], _ :: _, _, _, hv => hv.elim
  | [], _ :: _, _, _, hg, _ => by simp [grab] at hg
  | .cst c :: ks, [], _, _, hg, _ => by simp [grab] at hg
  | .dat t :: ks, [], _, _, hg, _ => by simp [grab] at hg
  | .own t g mu :: ks, [], _, _, hg, _ => by simp [grab] at hg
  | _ :: _, _ :: _, [], _, _, hv => hv.elim
  | .cst c :: ks, d :: cs, v :: vs, p, hg, hv => by
    simp only [grab] at hg
    rw [pairs_cst]
    cases hb : c.same d with
    | false => simp [hb] at hg
    | true =>
      simp only [hb, cond_true] at hg
      exact grab_obs h (ks := ks) hg hv.2
  | .dat t :: ks, d :: cs, v :: vs, p, hg, hv => by
    simp only [grab] at hg
    rw [pairs_dat]
    split at hg
    · rename_i x hx
      split at hg
      · rename_i y hy
        cases hg
        have := grab_obs h (ks := ks) hy hv.2
        simp only [plantObs, ttl_tcons]
        exact this
      · cases hg
    · cases hg
  | .own t g mu :: ks, d :: cs, v :: vs, p, hg, hv => by
    simp only [grab] at hg
    split at hg
    · rename_i x hx
      split at hg
      · rename_i y hy
        cases hg
        obtain ⟨g1, g2⟩ := toOwn_obj h hx hv.1
        obtain ⟨q1, q2⟩ := grab_obs h (ks := ks) hy hv.2
        simp only [plantObs, ttl_tcons, thd_tcons]
        refine ⟨fun i b hb => ?_, fun i hi => ?_⟩
        · rw [look_cons] at hb
          split at hb
          · rename_i e; subst e; cases hb
            rcases g2 with ⟨e, id, rfl, e2, e3, e4⟩ | ⟨rfl, e2, e3⟩
            · refine ⟨some id, t, x, mu, by simp [pairs], rfl, by rw [e2] at e4; exact e4, fun j hj => by cases hj; exact e3⟩
            · refine ⟨none, t, x, mu, by simp [pairs], rfl, ⟨none, 0, ?_⟩, fun j hj => by cases hj⟩
              subst e3
              exact ⟨rfl, Nat.le_refl _, Nat.zero_le _, .inl ⟨rfl, rfl, rfl⟩⟩
          · obtain ⟨s, t', xs, mu', m1, m2⟩ := q1 i b hb
            exact ⟨s, t', xs, mu', by cases d <;> simp [pairs, m1], m2⟩
        · rw [look_cons] at hi
          split at hi
          · cases hi
          · rename_i hne
            simp only [tgts, List.mem_cons, not_or]
            exact ⟨fun e => hne e.symm, q2 i hi⟩
      · cases hg
    · cases hg
end
end Go.Abs

/- Abs, part X: a state that was made of what a spec took. -/
namespace Go.Abs

theorem look_app {α : Type} : ∀ (l m : List (Nat × α)) (n : Nat), look (app l m) n = match look l n with | some v => some v | none => look m n
  | [], _, _ => rfl
  | (i, v) :: r, m, n => by
    simp only [app, look_cons]
    split
    · rfl
    · exact look_app r m n
theorem look_anys : ∀ (d : List Nat) (l : List (Nat × AV)) (t : Nat), look (anys d l) t = if t ∈ d then some (.val (.one .any)) else look l t
  | [], _, _ => by simp [anys]
  | i :: r, l, t => by
    simp only [anys, look_cons, look_anys r l t, List.mem_cons]
    by_cases e : i = t
    · subst e; simp
    · have : ¬ t = i := fun h => e h.symm
      simp [e, this]
theorem look_nones : ∀ (d : List Nat) (l : List (Nat × Option Ob)) (t : Nat), look (nones d l) t = if t ∈ d then some none else look l t
  | [], _, _ => by simp [nones]
  | i :: r, l, t => by
    simp only [nones, look_cons, look_nones r l t, List.mem_cons]
    by_cases e : i = t
    · subst e; simp
    · have : ¬ t = i := fun h => e h.symm
      simp [e, this]

section
variable {P : Program} {R : Type} {F : Fr} {ι ι' : Nat → Value} {ok : Nat → Nat → Prop} {N M : Nat → Prop} {σ σ0 : St} {a : Act} {w : World} {o : Oper} {r : R}

theorem freezeCk_ind {Q : St → St → Prop} (hr : ∀ σ, Q σ σ) (ht : ∀ a b c, Q a b → Q b c → Q a c) (h1 : ∀ σ c, Q σ (σ.freeze1 c)) : ∀ (ks : List CK) (cs : List Cell) (σ : St), Q σ (freezeCk σ ks cs)
  | [], [], σ => hr σ
  | [], _ :: _, σ => hr σ
  | .cst _ :: _, [], σ => hr σ
  | .dat _ :: _, [], σ => hr σ
  | .own _ _ true :: _, [], σ => hr σ
  | .own _ _ false :: _, [], σ => hr σ
  | .cst _ :: ks, _ :: cs, σ => freezeCk_ind hr ht h1 ks cs σ
  | .dat _ :: ks, c :: cs, σ => ht _ _ _ (h1 σ c) (freezeCk_ind hr ht h1 ks cs _)
  | .own _ _ false :: ks, c :: cs, σ => ht _ _ _ (h1 σ c) (freezeCk_ind hr ht h1 ks cs _)
  | .own _ _ true :: ks, _ :: cs, σ => freezeCk_ind hr ht h1 ks cs σ

theorem Sim.freezeCk : ∀ (ks : List CK) (cs : List Cell) {ok : Nat → Nat → Prop} {σ : St}, Sim F ι ok N σ a w → ∃ ok', Sim F ι ok' N (freezeCk σ ks cs) a w ∧ ∀ b j, ok b j → ok' b j := by
  intro ks cs ok σ h
  exact freezeCk_ind (Q := fun σ σ' => ∀ ok, Sim F ι ok N σ a w → ∃ ok', Sim F ι ok' N σ' a w ∧ ∀ b j, ok b j → ok' b j) (fun σ ok h => ⟨ok, h, fun _ _ h => h⟩)
    (fun _ _ _ h1 h2 ok h => by
      obtain ⟨o1, s1, l1⟩ := h1 ok h
      obtain ⟨o2, s2, l2⟩ := h2 o1 s1
      exact ⟨o2, s2, fun b j hk => l2 b j (l1 b j hk)⟩) (fun σ c ok h => h.freeze1 c) ks cs σ ok h

theorem freeze1_box (σ : St) (c : Cell) (i : Nat) (ds : List Cell) (h : σ.ob i = some (.box ds)) : (σ.freeze1 c).ob i = some (.box ds) := by
  unfold St.freeze1
  split
  · split
    · rename_i id _ t xs hl
      have e : id ≠ i := fun e => by subst e; rw [hl] at h; cases h
      simpa [St.ob, look_cons, e] using h
    · exact h
  · exact h
theorem freezeCk_box (ks : List CK) (cs : List Cell) (σ : St) : ∀ (i : Nat) (ds : List Cell), σ.ob i = some (.box ds) → (Abs.freezeCk σ ks cs).ob i = some (.box ds) :=
  freezeCk_ind (Q := fun σ σ' => ∀ (i : Nat) (ds : List Cell), σ.ob i = some (.box ds) → σ'.ob i = some (.box ds)) (fun _ _ _ h => h) (fun _ _ _ h1 h2 i ds h => h2 i ds (h1 i ds h)) freeze1_box ks cs σ
theorem freeze1_arr (σ : St) (c : Cell) (i : Nat) (h : ∃ t xs mu, σ.ob i = some (.arr t xs mu)) : ∃ t xs mu, (σ.freeze1 c).ob i = some (.arr t xs mu) := by
  unfold St.freeze1
  split
  · split
    · rename_i id _ t xs hl
      by_cases e : id = i
      · subst e; exact ⟨t, xs, false, by simp [St.ob, look_cons]⟩
      · obtain ⟨t', xs', mu', h⟩ := h; exact ⟨t', xs', mu', by simpa [St.ob, look_cons, e] using h⟩
    · exact h
  · exact h
theorem freezeCk_arr (ks : List CK) (cs : List Cell) (σ : St) : ∀ (i : Nat), (∃ t xs mu, σ.ob i = some (.arr t xs mu)) → ∃ t xs mu, (Abs.freezeCk σ ks cs).ob i = some (.arr t xs mu) :=
  freezeCk_ind (Q := fun σ σ' => ∀ (i : Nat), (∃ t xs mu, σ.ob i = some (.arr t xs mu)) → ∃ t xs mu, σ'.ob i = some (.arr t xs mu)) (fun _ _ h => h) (fun _ _ _ h1 h2 i h => h2 i (h1 i h)) freeze1_arr ks cs σ
theorem freezeCk_frm (ks : List CK) (cs : List Cell) (σ : St) : OpFrm σ (Abs.freezeCk σ ks cs) :=
  freezeCk_ind OpFrm.refl (fun _ _ _ => OpFrm.trans) OpFrm.freeze1 ks cs σ

theorem OpFrm.get {σ σ' : St} (h : OpFrm σ σ') (t : Nat) : σ'.get t = σ.get t := by unfold St.get; rw [h.tm]

/-! ### Slots -/
def Tvs (a : Act) : List (Nat × Bool × List CK) → List Value → Prop
  | [], vs => vs = []
  | (t, false, ks) :: r, vs => ks.length = 1 ∧ ∃ vs', vs = a.tmps.getD t undef :: vs' ∧ Tvs a r vs'
  | (t, true, ks) :: r, vs => ∃ us vs' : List Value, vs = us ++ vs' ∧ us.length = ks.length ∧ a.tmps.getD t undef = .agg us.toArray ∧ Tvs a r vs'

theorem cellsT_ok (h : Sim F ι ok N σ a w) : ∀ {tms : List (Nat × Bool × List CK)} {cs : List Cell}, cellsT σ tms = some cs → ∃ vs, All2 (RepC w ok ι N) cs vs ∧ Tvs a tms vs ∧ cs.length = (cksT tms).length
  | [], cs, hc => by cases hc; exact ⟨[], trivial, rfl, rfl⟩
  | (t, ag, ks) :: r, cs, hc => by
    simp only [cellsT] at hc
    split at hc
    · cases hc
    · rename_i cs' hcs
      obtain ⟨vs, h1, h2, h3⟩ := cellsT_ok h hcs
      have ht := h.tms t
      split at hc
      · rename_i c hg
        rw [hg] at ht
        cases hb : Nat.beq ks.length 1 with
        | false => simp [hb] at hc
        | true =>
          simp only [hb, cond_true] at hc
          cases hc
          have hb := Nat.eq_of_beq_eq_true hb
          exact ⟨_ :: vs, ⟨ht, h1⟩, ⟨hb, vs, rfl, h2⟩, by simp [cksT, h3, hb]; omega⟩
      · rename_i ds hg
        rw [hg] at ht
        cases hb : Nat.beq ks.length ds.length with
        | false => simp [hb] at hc
        | true =>
          simp only [hb, cond_true] at hc
          cases hc
          have hb := Nat.eq_of_beq_eq_true hb
          obtain ⟨us, e, hu⟩ := ht
          exact ⟨us ++ vs, All2.app hu h1, ⟨us, vs, rfl, by rw [← hu.len, hb], e, h2⟩, by simp [cksT, h3, hb]⟩
      · cases hc

theorem putT_ok : ∀ {tms : List (Nat × Bool × List CK)} {cs : List Cell} {vs more : List Value}, Tvs a tms vs → All2 (RepC w ok ι N) cs (vs ++ more) →
    (∀ t av, look (putT tms cs) t = some av → RepAV w ok ι N av (a.tmps.getD t undef)) ∧ ∀ t, look (putT tms cs) t = none ↔ t ∉ fsts tms
  | [], cs, vs, more, _, _ => ⟨fun t av h => by simp [putT, look] at h, fun t => by simp [putT, look, fsts]⟩
  | (t0, false, ks) :: r, cs, vs, more, ⟨hk, vs', e, h2⟩, hv => by
    subst e
    cases cs with
    | nil => exact hv.elim
    | cons c cs =>
      obtain ⟨q1, q2⟩ := putT_ok (tms := r) (cs := cs) (vs := vs') (more := more) h2 hv.2
      have e1 : (c :: cs).drop ks.length = cs := by rw [hk]; rfl
      refine ⟨fun t av ht => ?_, fun t => ?_⟩
      · simp only [putT, look_cons, e1] at ht
        split at ht
        · rename_i e; subst e; cases ht; exact hv.1
        · exact q1 t av ht
      · simp only [putT, look_cons, e1, fsts, List.mem_cons, not_or]
        by_cases e : t0 = t
        · subst e; simp
        · have : ¬ t = t0 := fun h => e h.symm
          simp [e, this, q2 t]
  | (t0, true, ks) :: r, cs, vs, more, ⟨us, vs', e, hl, hag, h2⟩, hv => by
    subst e
    have hv1 := hv.take ks.length
    have hv2 := hv.drop ks.length
    rw [← hl] at hv1 hv2
    rw [List.append_assoc, List.take_left' rfl] at hv1
    rw [List.append_assoc, List.drop_left' rfl] at hv2
    obtain ⟨q1, q2⟩ := putT_ok (tms := r) (cs := cs.drop us.length) (vs := vs') (more := more) h2 hv2
    refine ⟨fun t av ht => ?_, fun t => ?_⟩
    · simp only [putT, look_cons, ← hl] at ht
      split at ht
      · rename_i e; subst e; cases ht; exact ⟨us, hag, hv1⟩
      · exact q1 t av ht
    · simp only [putT, look_cons, ← hl, fsts, List.mem_cons, not_or]
      by_cases e : t0 = t
      · subst e; simp
      · have : ¬ t = t0 := fun h => e h.symm
        simp [e, this, q2 t]

/-! ### Boxes -/
def Bvs (w : World) (ok : Nat → Nat → Prop) (ι : Nat → Value) (σ : St) : List (Nat × List CK) → List Value → Prop
  | [], vs => vs = []
  | (id, ks) :: r, vs => ∃ (us vs' : List Value) (B : Nat) (T : TypeId), vs = us ++ vs' ∧ us.length = ks.length ∧ ι id = .pointer (some ⟨B, 0, none⟩) ∧ w.heap[B]? = some (.cells us.toArray T (0, 0)) ∧ (∀ j, ¬ok B j) ∧ (∃ ds, σ.ob id = some (.box ds)) ∧ Bvs w ok ι σ r vs'

theorem cellsB_ok {τ : St} (hτ : ∀ id ds, τ.ob id = some (.box ds) → σ.ob id = some (.box ds)) (h : Sim F ι ok N σ a w) : ∀ {bxs : List (Nat × List CK)} {cs : List Cell}, cellsB τ bxs = some cs → ∃ vs, All2 (RepC w ok ι N) cs vs ∧ Bvs w ok ι σ bxs vs ∧ cs.length = (cksB bxs).length
  | [], cs, hc => by cases hc; exact ⟨[], trivial, rfl, rfl⟩
  | (id, ks) :: r, cs, hc => by
    simp only [cellsB] at hc
    split at hc
    · cases hc
    · rename_i cs' hcs
      obtain ⟨vs, h1, h2, h3⟩ := cellsB_ok hτ h hcs
      split at hc
      · rename_i ds hg
        have hg := hτ id ds hg
        obtain ⟨_, ⟨B, c, T, hV, m1, m2, m3⟩, _⟩ := h.objs id _ hg
        cases hb : Nat.beq ks.length ds.length with
        | false => simp [hb] at hc
        | true =>
          simp only [hb, cond_true] at hc
          cases hc
          have hb := Nat.eq_of_beq_eq_true hb
          exact ⟨c.toList ++ vs, All2.app m2 h1, ⟨c.toList, vs, B, T, rfl, by rw [← m2.len, hb], hV, by simpa using m1, m3, ⟨ds, hg⟩, h2⟩, by simp [cksB, h3, hb]⟩
      · cases hc

theorem putB_ok : ∀ {bxs : List (Nat × List CK)} {cs : List Cell} {vs more : List Value}, Bvs w ok ι σ bxs vs → All2 (RepC w ok ι' M) cs (vs ++ more) →
    (∀ id b, look (putB bxs cs) id = some b → ∃ ds, b = some ⟨true, .box ds⟩ ∧ ObjRep w ok ι' M (.box ds) (ι id) ∧ ∃ es, σ.ob id = some (.box es)) ∧ ∀ id, look (putB bxs cs) id = none ↔ id ∉ fsts bxs
  | [], cs, vs, more, _, _ => ⟨fun t av h => by simp [putB, look] at h, fun t => by simp [putB, look, fsts]⟩
  | (t0, ks) :: r, cs, vs, more, ⟨us, vs', B, T, e, hl, hV, m1, m3, hob, h2⟩, hv => by
    subst e
    have hv1 := hv.take ks.length
    have hv2 := hv.drop ks.length
    rw [← hl] at hv1 hv2
    rw [List.append_assoc, List.take_left' rfl] at hv1
    rw [List.append_assoc, List.drop_left' rfl] at hv2
    obtain ⟨q1, q2⟩ := putB_ok (bxs := r) (cs := cs.drop us.length) (vs := vs') (more := more) h2 hv2
    refine ⟨fun t av ht => ?_, fun t => ?_⟩
    · simp only [putB, look_cons, ← hl] at ht
      split at ht
      · rename_i e; subst e; cases ht
        exact ⟨_, rfl, ⟨B, us.toArray, T, hV, m1, by simpa using hv1, m3⟩, hob⟩
      · exact q1 t av ht
    · simp only [putB, look_cons, ← hl, fsts, List.mem_cons, not_or]
      by_cases e : t0 = t
      · subst e; simp
      · have : ¬ t = t0 := fun h => e h.symm
        simp [e, this, q2 t]

/-! ### Slices that keep their numbers -/
theorem cellsA_ok {τ : St} (hτ : ∀ id, (∃ t xs mu, τ.ob id = some (.arr t xs mu)) → ∃ t xs mu, σ.ob id = some (.arr t xs mu)) (h : Sim F ι ok N σ a w) : ∀ {ars : List (Nat × Ty × Bool)} {cs : List Cell}, cellsA τ ars = some cs →
    All2 (RepC w ok ι N) cs ((fsts ars).map ι) ∧ cs.length = (cksA ars).length ∧ (∀ i s, (i, s) ∈ pairs (cksA ars) cs → s = some i) ∧ tgts (cksA ars) = fsts ars
  | [], cs, hc => by cases hc; exact ⟨trivial, rfl, fun i s h => by simp [pairs, cksA] at h, rfl⟩
  | (id, t, mu) :: r, cs, hc => by
    simp only [cellsA] at hc
    split at hc
    · cases hc
    · rename_i cs' hcs
      obtain ⟨h1, h2, h3, h4⟩ := cellsA_ok hτ h hcs
      split at hc
      · rename_i t' xs m hg
        cases hc
        obtain ⟨t2, xs2, m2, hg2⟩ := hτ id ⟨_, _, _, hg⟩
        obtain ⟨g1, ⟨A, cap, hV, _⟩, _⟩ := h.objs id _ hg2
        refine ⟨⟨⟨g1, rfl, ⟨_, _, _, hV⟩⟩, h1⟩, by simp [cksA, h2], fun i s hi => ?_, by simp [cksA, tgts, fsts, h4]⟩
        simp only [cksA, pairs, List.mem_cons] at hi
        rcases hi with e | hi
        · cases e; rfl
        · exact h3 i s hi
      · cases hc

theorem pairs_app : ∀ {k1 : List CK} {c1 : List Cell} (k2 : List CK) (c2 : List Cell), k1.length = c1.length → pairs (k1 ++ k2) (c1 ++ c2) = pairs k1 c1 ++ pairs k2 c2
  | [], [], _, _, _ => rfl
  | [], _ :: _, _, _, h => by simp at h
  | _ :: _, [], _, _, h => by simp at h
  | .cst c :: ks, d :: cs, k2, c2, h => by
    rw [List.cons_append, List.cons_append, pairs_cst, pairs_cst]; exact pairs_app k2 c2 (by simpa using h)
  | .dat t :: ks, d :: cs, k2, c2, h => by
    rw [List.cons_append, List.cons_append, pairs_dat, pairs_dat]; exact pairs_app k2 c2 (by simpa using h)
  | .own t g mu :: ks, d :: cs, k2, c2, h => by
    have ih := pairs_app (k1 := ks) (c1 := cs) k2 c2 (by simpa using h)
    cases d <;> simp [pairs, ih]

theorem tgts_app : ∀ (a b : List CK), tgts (a ++ b) = tgts a ++ tgts b
  | [], _ => rfl
  | .cst _ :: r, b => by simpa [tgts] using tgts_app r b
  | .dat _ :: r, b => by simpa [tgts] using tgts_app r b
  | .own _ _ _ :: r, b => by simp [tgts, tgts_app r b]

theorem keptOk_iff {σ0 σ : St} {skip used : List Nat} : ∀ {l : List (Nat × Option Ob)}, keptOk σ0 σ skip used l = true → ∀ id b, (id, b) ∈ l → ∀ ob, look σ0.hp id = some (some ob) → id ∈ skip ∨ ∃ o, look σ.hp id = some (some ⟨false, o⟩) ∧ id ∉ used
  | [], _, _, _, h, _, _ => by cases h
  | (i, b0) :: r, hk, id, b, h, ob, hob => by
    simp only [keptOk, Bool.and_eq_true] at hk
    rcases List.mem_cons.1 h with e | h
    · cases e
      have hk1 := hk.1
      rw [hob] at hk1
      simp only [Bool.or_eq_true] at hk1
      rcases hk1 with hk1 | hk1
      · exact .inl ((memB_iff _ _).1 hk1)
      · split at hk1
        · rename_i o ho
          refine .inr ⟨o, ho, fun hm => ?_⟩
          rw [(memB_iff _ _).2 hm] at hk1; cases hk1
        · cases hk1
    · exact keptOk_iff hk.2 id b h ob hob
end
end Go.Abs

/- Abs, part Y: the state that is made of what a spec took stands for the same memory. -/
namespace Go.Abs
section
variable {P : Program} {R : Type} {F : Fr} {ι ι' : Nat → Value} {ok : Nat → Nat → Prop} {N M : Nat → Prop} {σ σ0 : St} {a : Act} {w : World} {o : Oper} {r : R}

theorem mem_of_look {α : Type} {l : List (Nat × α)} {n : Nat} {v : α} (h : look l n = some v) : (n, v) ∈ l := look_mem h

theorem ob_look {σ : St} {i : Nat} {o : AO} (h : σ.ob i = some o) : ∃ d, look σ.hp i = some (some ⟨d, o⟩) := by
  unfold St.ob at h
  split at h
  · rename_i b hb; cases h; exact ⟨b.dirty, hb⟩
  · cases h

theorem take_ok {sp : Spec} (h : Sim F ι ok N σ a w) (hpin : ∀ x ∈ F.pin, x.1 < σ0.nxt) (hn : σ.n = σ0.n) {dead : List Nat} (hids : ∀ t, t ∉ dead → (σ0.get t).idsIn (· < σ0.nxt)) (hobs : ∀ id o, σ0.ob id = some o → id < σ0.nxt ∧ o.idsIn (· < σ0.nxt))
    (htm : ∀ t, t ∉ dead → σ.get t = σ0.get t) (hcl : ∀ id o, look σ.hp id = some (some ⟨false, o⟩) → id < σ0.nxt → id ∉ sp.skip → σ0.ob id = some o)
    {p : sp.ty.den} (ht : sp.take σ0 σ = some p) :
    ∃ ι' ok' N', Sim F ι' ok' N' (sp.mk' σ0 dead p) a w ∧ (∀ i, N' i → i < sp.nxt) ∧ σ0.nxt ≤ sp.nxt := by
  unfold Spec.take at ht
  split at ht
  · cases ht
  · rename_i cs hcs
    simp only at ht
    cases hb : nodupB (srcs sp.cks cs) && nodupB (tgts (cksT sp.tms ++ cksB sp.bxs) ++ (fsts sp.ars ++ fsts sp.bxs)) && allGe σ0.nxt (tgts (cksT sp.tms ++ cksB sp.bxs)) && allLt sp.nxt (tgts (cksT sp.tms ++ cksB sp.bxs)) && Nat.ble σ0.nxt sp.nxt &&
        allLt σ0.nxt (fsts sp.ars ++ fsts sp.bxs) && cstOk σ0.nxt sp.cks && allLt σ0.n (fsts sp.tms) && keptOk σ0 (freezeCk σ sp.cks cs) sp.skip (srcs sp.cks cs) σ0.hp with
    | false => rw [hb] at ht; cases ht
    | true =>
      rw [hb] at ht
      simp only [cond_true] at ht
      simp only [Bool.and_eq_true] at hb
      obtain ⟨⟨⟨⟨⟨⟨⟨⟨b1, b2⟩, b3⟩, b4⟩, b5⟩, b6⟩, b7⟩, b8⟩, b9⟩ := hb
      have b1 := (nodupB_iff _).1 b1
      have b2 := (nodupB_iff _).1 b2
      have b3 := (allGe_iff _ _).1 b3
      have b4 := (allLt_iff _ _).1 b4
      have b5 := Nat.le_of_ble_eq_true b5
      have b6 := (allLt_iff _ _).1 b6
      have b9 := fun id b hm ob hob => keptOk_iff b9 id b hm ob hob
      -- the state when all that must be is frozen
      obtain ⟨ok1, h1, l1⟩ := h.freezeCk sp.cks cs
      have hbox := freezeCk_box sp.cks cs σ
      have harr := freezeCk_arr sp.cks cs σ
      have hfrm := freezeCk_frm sp.cks cs σ
      generalize hσ1 : freezeCk σ sp.cks cs = σ1 at *
      -- cells
      unfold Spec.cells at hcs
      split at hcs
      case h_2 => cases hcs
      rename_i csT csB csA hT hB hA
      cases hcs
      obtain ⟨vT, t1, t2, t3⟩ := cellsT_ok h hT
      have t1 : All2 (RepC w ok1 ι N) csT vT := All2.mono (fun _ _ hc => RepC.mono (ext_ok l1) (fun _ _ => rfl) (fun _ h => h) hc) t1
      obtain ⟨vB, u1, u2, u3⟩ := cellsB_ok (τ := σ) hbox h1 hB
      obtain ⟨v1, v2, v3, v4⟩ := cellsA_ok (τ := σ) harr h1 hA
      have hv : All2 (RepC w ok1 ι N) (csT ++ (csB ++ csA)) (vT ++ (vB ++ (fsts sp.ars).map ι)) := All2.app t1 (All2.app u1 v1)
      have hlen := grab_len ht
      have htg : tgts sp.cks = tgts (cksT sp.tms ++ cksB sp.bxs) ++ fsts sp.ars := by
        show tgts (cksT sp.tms ++ (cksB sp.bxs ++ cksA sp.ars)) = _
        rw [← List.append_assoc, tgts_app, v4]
      have hpr : pairs sp.cks (csT ++ (csB ++ csA)) = pairs (cksT sp.tms ++ cksB sp.bxs) (csT ++ csB) ++ pairs (cksA sp.ars) csA := by
        show pairs (cksT sp.tms ++ (cksB sp.bxs ++ cksA sp.ars)) (csT ++ (csB ++ csA)) = _
        rw [← List.append_assoc, ← List.append_assoc, pairs_app _ _ (by simp [t3, u3])]
      have hfst := pairs_tgts hlen
      have hsrc := pairs_srcs hlen
      have hnd : (tgts sp.cks).Nodup := by
        rw [htg]
        rw [← List.append_assoc] at b2
        exact (List.nodup_append.1 b2).1
      have hpn : ((pairs sp.cks (csT ++ (csB ++ csA))).map (·.1)).Nodup := by rw [hfst]; exact hnd
      have hps : ((pairs sp.cks (csT ++ (csB ++ csA))).filterMap (·.2)).Nodup := by rw [hsrc]; exact b1
      have hlow : ∀ i s, (i, s) ∈ pairs sp.cks (csT ++ (csB ++ csA)) → i < σ0.nxt → s = some i := fun i s hi hlt => by
        rw [hpr] at hi
        rcases List.mem_append.1 hi with hi | hi
        · have : i ∈ tgts (cksT sp.tms ++ cksB sp.bxs) := by
            rw [← pairs_tgts (cs := csT ++ csB) (by simp [t3, u3])]; exact List.mem_map.2 ⟨_, hi, rfl⟩
          exact absurd (b3 i this) (Nat.not_le.2 hlt)
        · exact v3 i s hi
      generalize hpq : pairs sp.cks (csT ++ (csB ++ csA)) = pq at *
      -- the new numbers
      let ι2 : Nat → Value := fun i => match look pq i with | some s => valOf ι s | none => ι i
      let N2 : Nat → Prop := fun i => (∃ s, (i, s) ∈ pq) ∨ (N i ∧ i < σ0.nxt)
      have hι2 : ∀ i, i < σ0.nxt → ι2 i = ι i := fun i hi => by
        show (match look pq i with | some s => valOf ι s | none => ι i) = ι i
        cases hl : look pq i with
        | none => rfl
        | some s => have := hlow i s (look_mem hl) hi; subst this; rfl
      have hpi : ∀ i s, (i, s) ∈ pq → N2 i ∧ ι2 i = valOf ι s := fun i s hi => by
        refine ⟨.inl ⟨s, hi⟩, ?_⟩
        show (match look pq i with | some s => valOf ι s | none => ι i) = valOf ι s
        rw [look_nodup hpn hi]
      have hM : ∀ i, i < σ0.nxt → N i → N2 i ∧ ι2 i = ι i := fun i hi hNi => ⟨.inr ⟨hNi, hi⟩, hι2 i hi⟩
      have hplant : All2 (RepC w ok1 ι2 N2) (plant sp.cks p) (vT ++ (vB ++ (fsts sp.ars).map ι)) := grab_plant h1 hM ht hv b7 (by rw [hpq]; exact hpi)
      obtain ⟨ob1, ob2⟩ := grab_obs h1 ht hv
      rw [hpq] at ob1
      obtain ⟨pt1, pt2⟩ := putT_ok t2 hplant
      have hdrop : All2 (RepC w ok1 ι2 N2) ((plant sp.cks p).drop (cksT sp.tms).length) (vB ++ (fsts sp.ars).map ι) := by
        have hl : (cksT sp.tms).length = vT.length := by rw [← t3, t1.len]
        have := hplant.drop (cksT sp.tms).length
        rw [show (vT ++ (vB ++ (fsts sp.ars).map ι)).drop (cksT sp.tms).length = vB ++ (fsts sp.ars).map ι from by rw [hl, List.drop_left' rfl]] at this
        exact this
      obtain ⟨pb1, pb2⟩ := putB_ok u2 hdrop
      -- ids
      have hkeepN : ∀ c : Cell, c.idsIn N → c.idsIn (· < σ0.nxt) → c.idsIn (fun i => N i ∧ i < σ0.nxt) := fun c h1 h2 => by
        cases c <;> first | trivial | exact ⟨h1, h2⟩ | exact fun c hc => ⟨h1 c hc, h2 c hc⟩
      have hle2 : ∀ i, (N i ∧ i < σ0.nxt) → N2 i := fun i hi => .inr hi
      -- one object
      have hobj : ∀ i o, (sp.mk' σ0 dead p).ob i = some o → N2 i ∧ ObjRep w ok1 ι2 N2 o (ι2 i) ∧ (blk (ι2 i) = none ∨ ∃ s q, σ1.ob s = some q ∧ ι2 i = ι s ∧ ((i ∈ fsts sp.bxs ∧ s = i ∧ ∃ ds, q = .box ds) ∨ ((i, some s) ∈ pq ∧ ∃ e ys m, q = .arr e ys m) ∨ (s = i ∧ i ∉ srcs sp.cks (csT ++ (csB ++ csA)) ∧ i ∉ fsts sp.bxs ∧ i ∉ tgts sp.cks))) := by
        intro i o ho
        obtain ⟨dd, ho⟩ := ob_look ho
        simp only [Spec.mk', look_app] at ho
        cases hlB : look (putB sp.bxs ((plant sp.cks p).drop (cksT sp.tms).length)) i with
        | some b =>
          rw [hlB] at ho
          obtain ⟨ds, rfl, q1, es, q2⟩ := pb1 i b hlB
          cases ho
          have hin : i ∈ fsts sp.bxs := Classical.byContradiction fun hh => by rw [(pb2 i).2 hh] at hlB; cases hlB
          have hlt := b6 i (List.mem_append_right _ hin)
          have hNi := (h1.objs i _ q2).1
          rw [hι2 i hlt]
          exact ⟨(hM i hlt hNi).1, q1, .inr ⟨i, _, q2, rfl, .inl ⟨hin, rfl, es, rfl⟩⟩⟩
        | none =>
          rw [hlB] at ho
          have hnb : i ∉ fsts sp.bxs := (pb2 i).1 hlB
          cases hlO : look (plantObs sp.cks p) i with
          | some b =>
            rw [hlO] at ho
            obtain ⟨s, t, xs, mu, m1, rfl, m2, m3⟩ := ob1 i b hlO
            cases ho
            obtain ⟨k1, k2⟩ := hpi i s m1
            rw [k2]
            refine ⟨k1, m2, ?_⟩
            cases s with
            | none => exact .inl rfl
            | some s =>
              obtain ⟨e', ys, m, hs⟩ := m3 s rfl
              exact .inr ⟨s, _, hs, rfl, .inr (.inl ⟨m1, e', ys, m, rfl⟩)⟩
          | none =>
            rw [hlO, look_nones] at ho
            dsimp only at ho
            have hnt := ob2 i hlO
            split at ho
            · cases ho
            · rename_i hnd'
              cases hl0 : look σ0.hp i with
              | none => rw [hl0] at ho; cases ho
              | some x =>
                rw [hl0] at ho
                cases x with
                | none => cases ho
                | some b =>
                  cases ho
                  have hob0 : σ0.ob i = some o := by simp [St.ob, hl0]
                  obtain ⟨z1, z2⟩ := hobs i o hob0
                  have hnar : i ∉ fsts sp.ars := fun hh => hnt (by rw [htg]; exact List.mem_append_right _ hh)
                  have hnskip : i ∉ sp.skip := fun hh => by
                    rcases List.mem_append.1 hh with hh | hh
                    · exact hnd' hh
                    · rcases List.mem_append.1 hh with hh | hh
                      · exact hnb hh
                      · exact hnar hh
                  rcases b9 i _ (look_mem hl0) _ hl0 with hh | ⟨o', ho', hu⟩
                  · exact absurd hh hnskip
                  · have e1 := hcl i o' (hfrm.hp i o' ho') z1 hnskip
                    have e1 : o' = o := by rw [hob0] at e1; exact (Option.some.inj e1).symm
                    rw [e1] at ho'
                    have hs1 : σ1.ob i = some o := by simp [St.ob, ho']
                    obtain ⟨g1, g2, g3⟩ := h1.objs i _ hs1
                    rw [hι2 i z1]
                    refine ⟨(hM i z1 g1).1, ?_, .inr ⟨i, _, hs1, rfl, .inr (.inr ⟨rfl, hu, hnb, hnt⟩)⟩⟩
                    have hii : o.idsIn (fun i => N i ∧ i < σ0.nxt) := by
                      have z3 := g2.ids
                      cases hbo : o with
                      | box cs => rw [hbo] at z2 z3; exact fun c hc => hkeepN c (z3 c hc) (z2 c hc)
                      | arr t xs mu => trivial
                    exact ObjRep.mono (Ext.refl _ _) (fun i hi => rfl) hle2 (fun _ _ => ⟨rfl, fun _ h => h⟩) (g2.chg (ι' := ι2) (fun i hi => hι2 i hi.2) hii)
      refine ⟨ι2, ok1, N2, ⟨fun t => ?_, fun i o ho => ?_, fun i j oi oj b hi hj hij hbi hbj => ?_, h1.oks, h1.keep, ?_, h.defs, fun x hx => ⟨(hM _ (hpin x hx) (h.pins x hx).1).1, by rw [hι2 _ (hpin x hx)]; exact (h.pins x hx).2⟩⟩, fun i hi => ?_, b5⟩
      · simp only [St.get, Spec.mk', look_app, look_anys]
        cases hlT : look (putT sp.tms (plant sp.cks p)) t with
        | some av => exact pt1 t av hlT
        | none =>
          simp only
          split
          · exact trivial
          · rename_i hnd
            show RepAV w ok1 ι2 N2 (σ0.get t) _
            have hr := h1.tms t
            rw [hfrm.get, htm t hnd] at hr
            have hi1 := hr.ids
            have hi2 := hids t hnd
            have hii : (σ0.get t).idsIn (fun i => N i ∧ i < σ0.nxt) := by
              cases hx : σ0.get t with
              | val x =>
                rw [hx] at hi1 hi2
                cases x with
                | one c => exact hkeepN c hi1 hi2
                | agg cs => exact fun c hc => hkeepN c (hi1 c hc) (hi2 c hc)
              | tup l =>
                rw [hx] at hi1 hi2
                intro x hxl
                have j1 := hi1 x hxl
                have j2 := hi2 x hxl
                cases x with
                | one c => exact hkeepN c j1 j2
                | agg cs => exact fun c hc => hkeepN c (j1 c hc) (j2 c hc)
            exact RepAV.mono (Ext.refl _ _) (fun _ _ => rfl) hle2 (hr.chg (ι' := ι2) (fun i hi => hι2 i hi.2) hii)
      · obtain ⟨q1, q2, q3⟩ := hobj i o ho
        refine ⟨q1, q2, fun b hb => ?_⟩
        rcases q3 with q3 | ⟨s, q, hs, e, _⟩
        · rw [q3] at hb; cases hb
        · rw [e] at hb; exact (h1.objs s q hs).2.2 b hb
      · obtain ⟨_, _, q3⟩ := hobj i oi hi
        obtain ⟨_, _, q4⟩ := hobj j oj hj
        rcases q3 with q3 | ⟨s, q, hs, es, cs1⟩
        · rw [q3] at hbi; cases hbi
        rcases q4 with q4 | ⟨s', q', hs', es', cs2⟩
        · rw [q4] at hbj; cases hbj
        rw [es] at hbi
        rw [es'] at hbj
        refine h1.apart s s' q q' b hs hs' (fun e => ?_) hbi hbj
        subst e
        rw [hs] at hs'
        cases hs'
        have hsrcm : ∀ x, (x, some s) ∈ pq → s ∈ srcs sp.cks (csT ++ (csB ++ csA)) := fun x hx => by rw [← hsrc]; exact List.mem_filterMap.2 ⟨_, hx, rfl⟩
        rcases cs1 with ⟨m1, m2, ds, m3⟩ | ⟨m1, e', ys, m, m3⟩ | ⟨m1, m2, m3, m4⟩
        · rcases cs2 with ⟨n1, n2, es, n3⟩ | ⟨n1, e', ys, m, n3⟩ | ⟨n1, n2, n3, n4⟩
          · exact hij (m2.symm.trans n2)
          · rw [m3] at n3; cases n3
          · subst m2; subst n1; exact hij rfl
        · rcases cs2 with ⟨n1, n2, es, n3⟩ | ⟨n1, e', ys, m, n3⟩ | ⟨n1, n2, n3, n4⟩
          · rw [m3] at n3; cases n3
          · exact hij (pairs_inj hps hpn m1 n1)
          · subst n1; exact n2 (hsrcm _ m1)
        · rcases cs2 with ⟨n1, n2, es, n3⟩ | ⟨n1, e', ys, m, n3⟩ | ⟨n1, n2, n3, n4⟩
          · subst m1; subst n2; exact hij rfl
          · subst m1; exact m2 (hsrcm _ n1)
          · subst m1; subst n1; exact hij rfl
      · show a.tmps.size = σ0.n
        rw [h.size, hn]
      · rcases hi with ⟨s, hi⟩ | hi
        · have : i ∈ tgts sp.cks := by rw [← hfst]; exact List.mem_map.2 ⟨_, hi, rfl⟩
          rw [htg] at this
          rcases List.mem_append.1 this with hh | hh
          · exact b4 i hh
          · exact Nat.lt_of_lt_of_le (b6 i (List.mem_append_left _ hh)) b5
        · exact Nat.lt_of_lt_of_le hi.2 b5
end
end Go.Abs

/- Abs, part Z: regions. -/
namespace Go.Abs

/-- What a piece of code leaves as it was. -/
structure Frm (ds : List Nat) (σ σ' : St) : Prop where
  tm : ∀ t, t ∉ ds → σ'.get t = σ.get t
  n : σ'.n = σ.n
  hp : ∀ id o, look σ'.hp id = some (some ⟨false, o⟩) → look σ.hp id = some (some ⟨false, o⟩)

theorem Frm.refl (ds : List Nat) (σ : St) : Frm ds σ σ := ⟨fun _ _ => rfl, rfl, fun _ _ h => h⟩
theorem Frm.trans {ds es : List Nat} {a b c : St} (h : Frm ds a b) (k : Frm es b c) : Frm (app ds es) a c :=
  ⟨fun t ht => by
    rw [app_eq, List.mem_append, not_or] at ht
    rw [k.tm t ht.2, h.tm t ht.1], k.n.trans h.n, fun i o ho => h.hp i o (k.hp i o ho)⟩
theorem Frm.trans' {ds : List Nat} {a b c : St} (h : Frm ds a b) (k : Frm ds b c) : Frm ds a c :=
  ⟨fun t ht => by rw [k.tm t ht, h.tm t ht], k.n.trans h.n, fun i o ho => h.hp i o (k.hp i o ho)⟩
theorem OpFrm.frm {σ σ' : St} (h : OpFrm σ σ') (ds : List Nat) : Frm ds σ σ' := ⟨fun t _ => h.get t, h.n, h.hp⟩
theorem Frm.put {ds : List Nat} {σ : St} {d : Nat} (hd : d ∈ ds) (v : AV) : Frm ds σ (σ.put (some d) v) :=
  ⟨fun t ht => by rw [St.get_put, if_neg (fun e : d = t => ht (by rw [← e]; exact hd))], rfl, fun _ _ h => h⟩

section
variable {P : Program} {R : Type} {F : Fr} {ι : Nat → Value} {ok : Nat → Nat → Prop} {N : Nat → Prop} {σ : St} {a : Act} {w : World} {o : Oper} {r : R}

/-- A slot is known better. -/
theorem Sim.refine (h : Sim F ι ok N σ a w) {x : AV} {d : Nat} (hx : RepAV w ok ι N x (a.tmps.getD d undef)) : Sim F ι ok N (σ.put (some d) x) a w where
  tms t := by
    rw [St.get_put]
    split
    · rename_i e; subst e; exact hx
    · exact h.tms t
  objs id o ho := h.objs id o (by simpa using ho)
  apart i j o p b hi hj := h.apart i j o p b (by simpa using hi) (by simpa using hj)
  oks := h.oks
  keep := h.keep
  size := h.size
  defs := h.defs
  pins := h.pins

/-- The numbers that are taken lie below. -/
def Below (N : Nat → Prop) (n : Nat) : Prop := ∀ i, N i → i < n
theorem Below.fresh {n nb : Nat} (h : Below N n) (hn : n ≤ nb) : Fresh N nb := fun i h1 _ h3 => by have := h i h3; omega
theorem Below.span {nb : Nat} (h : Below N nb) : Below (span N nb) (nb + 16) := fun i hi => by
  rcases hi with hi | hi
  · have := h i hi; omega
  · exact hi.2

def Reach {R : Type} (F : Fr) (ds : List Nat) (σ : St) (K : St → Option R) (r : R) (nb : Nat) (next : Act → World → Prop) : Prop :=
  ∀ σ' a' w' ι' ok' N', Sim F ι' ok' N' σ' a' w' → Below N' nb → Frm ds σ σ' → K σ' = some r → next a' w'

theorem aOper_sound {m : Fu} {Γ : List Summ} (hΓ : ∀ S ∈ Γ, Sound P S) (h : Sim F ι ok N σ a w) {nb : Nat} (hN : Below N nb) {K : St → Option R} (hr : aOper P Γ m nb o σ K = some r) {ds : List Nat} (hd : ∀ d, o.dst = some d → d ∈ ds)
    {next : Act → World → Prop} (Q : Exit → Act → World → Prop) (hnext : Reach F ds σ K r (nb + 16) next) : o.wp P a w next Q := by
  unfold aOper at hr
  refine aOp_sound hΓ h (hN.fresh (Nat.le_refl _)) hr next Q (fun av σ1 v w' ι' ok' h1 hv hf hK => ?_)
  cases hdst : o.dst with
  | none =>
    rw [hdst] at hK
    exact hnext σ1 _ w' ι' ok' _ h1 hN.span (hf.frm ds) hK
  | some d =>
    rw [hdst] at hK
    cases hb : Nat.blt d σ.n with
    | false => simp [hb] at hK
    | true =>
      simp only [hb, cond_true] at hK
      have hb : d < σ.n := by simpa using hb
      exact hnext _ _ w' ι' ok' _ (h1.put hv (by rw [hf.n]; exact hb)) hN.span ((hf.frm ds).trans' (Frm.put (hd d hdst) av)) hK

theorem aSkip_sound (h : Sim F ι ok N σ a w) {nb : Nat} (hN : Below N nb) {K : St → Option R} (hr : aSkip o σ K = some r) {ds : List Nat} (hd : ∀ d, o.dst = some d → d ∈ ds)
    {next : Act → World → Prop} (hnext : Reach F ds σ K r (nb + 16) next) : next (a.put o.dst undef) w := by
  unfold aSkip at hr
  have hN' : Below N (nb + 16) := fun i hi => by have := hN i hi; omega
  cases hdst : o.dst with
  | none =>
    rw [hdst] at hr
    exact hnext σ _ w ι ok N h hN' (Frm.refl _ _) hr
  | some d =>
    rw [hdst] at hr
    cases hb : Nat.blt d σ.n with
    | false => simp [hb] at hr
    | true =>
      simp only [hb, cond_true] at hr
      have hb : d < σ.n := by simpa using hb
      exact hnext _ _ w ι ok N (h.put (x := .val (.one .skip)) (v := undef) (rfl : undef = _) hb) hN' (Frm.put (hd d hdst) _) hr

theorem mem_opDsts : ∀ {l : List Oper} {o : Oper} {d : Nat}, o ∈ l → o.dst = some d → d ∈ opDsts l
  | [], _, _, h, _ => by cases h
  | x :: r, o, d, h, hd => by
    unfold opDsts
    rcases List.mem_cons.1 h with rfl | h
    · rw [hd]; simp
    · cases x.dst with
      | none => exact mem_opDsts h hd
      | some e => exact List.mem_cons_of_mem _ (mem_opDsts h hd)

/-- One operation of a region, its guard looked at. -/
noncomputable def aStep (P : Program) (Γ : List Summ) (m : Fu) (all : List Oper) (nb : Nat) (o : Oper) (σ : St) (K : St → Option R) : Option R :=
  match o.guard with
  | none => aOper P Γ m nb o σ K
  | some (j, want) => match guardTmp all j with
    | some t => match σ.get t with
      | .val (.one (.dat .bool b)) =>
        match want with
        | true => bif b then aOper P Γ m nb o (σ.put (some t) (one .bool true)) K else aSkip o (σ.put (some t) (one .bool false)) K
        | false => bif b then aSkip o (σ.put (some t) (one .bool true)) K else aOper P Γ m nb o (σ.put (some t) (one .bool false)) K
      | .val (.one .skip) => aSkip o σ K
      | _ => none
    | none => none

theorem aOps_cons (Γ : List Summ) (m : Fu) (all : List Oper) (o : Oper) (l : List Oper) (nb : Nat) (σ : St) (K : St → Option R) :
    aOps P Γ m all (o :: l) nb σ K = aStep P Γ m all nb o σ (fun σ' => aOps P Γ m all l (nb + 16) σ' K) := by
  simp only [aOps, aStep]
  cases o.guard with
  | none => rfl
  | some g =>
    obtain ⟨j, want⟩ := g
    cases guardTmp all j with
    | none => rfl
    | some t => cases want <;> rfl

theorem guardTmp_some {all : List Oper} {j t : Nat} (h : guardTmp all j = some t) : ∃ o, all[j]? = some o ∧ o.dst = some t := by
  unfold guardTmp at h
  split at h
  · rename_i o ho; exact ⟨o, by rw [← nth_eq]; exact ho, h⟩
  · cases h

theorem aStep_sound {m : Fu} {Γ : List Summ} (hΓ : ∀ S ∈ Γ, Sound P S) {ops : Array Oper} (h : Sim F ι ok N σ a w) {nb : Nat} (hN : Below N nb) {K : St → Option R} (hr : aStep P Γ m ops.toList nb o σ K = some r) (ho : o ∈ ops.toList)
    {next : Act → World → Prop} (Q : Exit → Act → World → Prop) (hnext : Reach F (opDsts ops.toList) σ K r (nb + 16) next) :
    if Region.wanted o (yielded ops a.tmps) then o.wp P a w next Q ∨ (o.asks P a w ∧ LetsOut Q) else next (a.put o.dst undef) w := by
  have hd : ∀ d, o.dst = some d → d ∈ opDsts ops.toList := fun d hd => mem_opDsts ho hd
  unfold aStep at hr
  cases hg : o.guard with
  | none =>
    rw [hg] at hr
    have : Region.wanted o (yielded ops a.tmps) = true := by simp [Region.wanted, hg]
    rw [if_pos this]
    exact .inl (aOper_sound hΓ h hN hr hd Q hnext)
  | some g =>
    obtain ⟨j, want⟩ := g
    rw [hg] at hr
    dsimp only at hr
    cases ht : guardTmp ops.toList j with
    | none => rw [ht] at hr; cases hr
    | some t =>
      rw [ht] at hr
      dsimp only at hr
      obtain ⟨oj, hoj, hdj⟩ := guardTmp_some ht
      have htd : t ∈ opDsts ops.toList := mem_opDsts (List.mem_of_getElem? hoj) hdj
      have hgt := h.tms t
      have hy : ∀ v, a.tmps.getD t undef = v → yielded ops a.tmps j = (match v with | .bool b => some b | _ => none) := fun v hv => by
        unfold yielded
        rw [← Array.getElem?_toList, hoj]
        simp only [Option.bind_some, hdj]
        rw [Array.getD_eq_getD_getElem?] at hv
        cases hx : a.tmps[t]? with
        | none => rw [hx] at hv; simp at hv; subst hv; rfl
        | some u => rw [hx] at hv; simp at hv; subst hv; cases u <;> rfl
      have hw : Region.wanted o (yielded ops a.tmps) = (yielded ops a.tmps j == some want) := by simp [Region.wanted, hg]
      have put : ∀ x, Reach F (opDsts ops.toList) (σ.put (some t) x) K r (nb + 16) next := fun x σ' a' w' ι' ok' N' s1 s2 s3 s4 =>
        hnext σ' a' w' ι' ok' N' s1 s2 ((Frm.put htd x).trans' s3) s4
      split at hr
      · rename_i b hb
        rw [hb] at hgt
        have hv : a.tmps.getD t undef = .bool b := by have : [a.tmps.getD t undef] = [.bool b] := hgt; simpa using this
        rw [hw, hy _ hv]
        have href : ∀ c, b = c → Sim F ι ok N (σ.put (some t) (one .bool c)) a w := fun c hc => by
          subst hc; exact h.refine (x := one .bool b) (by rw [hv]; exact (rfl : [Value.bool b] = _))
        cases want with
        | true =>
          dsimp only at hr
          cases b with
          | true =>
            simp only [cond_true] at hr
            rw [if_pos (by simp)]
            exact .inl (aOper_sound hΓ (href true rfl) hN hr hd Q (put _))
          | false =>
            simp only [cond_false] at hr
            rw [if_neg (by simp)]
            exact aSkip_sound (href false rfl) hN hr hd (put _)
        | false =>
          dsimp only at hr
          cases b with
          | true =>
            simp only [cond_true] at hr
            rw [if_neg (by simp)]
            exact aSkip_sound (href true rfl) hN hr hd (put _)
          | false =>
            simp only [cond_false] at hr
            rw [if_pos (by simp)]
            exact .inl (aOper_sound hΓ (href false rfl) hN hr hd Q (put _))
      · rename_i hb
        rw [hb] at hgt
        have hv : a.tmps.getD t undef = .tuple #[] := hgt
        rw [hw, hy _ hv, if_neg (by simp)]
        exact aSkip_sound h hN hr hd hnext
      · cases hr

theorem aOps_sound {m : Fu} {Γ : List Summ} (hΓ : ∀ S ∈ Γ, Sound P S) {ops : Array Oper} {Q : Exit → Act → World → Prop} {K : St → Option R} : ∀ {l : List Oper} {k nb : Nat} {ι : Nat → Value} {ok : Nat → Nat → Prop} {N : Nat → Prop} {σ : St} {a : Act} {w : World},
    (∀ j, l[j]? = ops.toList[k + j]?) → Sim F ι ok N σ a w → Below N nb → aOps P Γ m ops.toList l nb σ K = some r →
    Reach F (opDsts ops.toList) σ K r (nb + 16 * l.length) (Q .normal) → wpOps P ops Q (List.range' k l.length) a w
  | [], k, nb, ι, ok, N, σ, a, w, _, h, hN, hr, hQ => hQ σ a w ι ok N h hN (Frm.refl _ _) hr
  | o :: l, k, nb, ι, ok, N, σ, a, w, hl, h, hN, hr, hQ => by
    have h0 : ops[k]? = some o := by have := hl 0; simpa using this.symm
    rw [aOps_cons] at hr
    rw [List.length_cons, List.range'_succ, wpOps]
    rw [h0]
    dsimp only
    refine aStep_sound hΓ h hN hr (by rw [List.mem_iff_getElem?]; exact ⟨k, by rw [Array.getElem?_toList]; exact h0⟩) Q (fun σ' a' w' ι' ok' N' s1 s2 s3 s4 => ?_)
    refine aOps_sound hΓ (fun j => by have := hl (j + 1); rw [List.getElem?_cons_succ] at this; rw [this]; congr 1; omega) s1 s2 s4 (fun σ2 a2 w2 ι2 ok2 N2 t1 t2 t3 t4 => ?_)
    exact hQ σ2 a2 w2 ι2 ok2 N2 t1 (fun i hi => by have := t2 i hi; simp only [List.length_cons]; omega) (s3.trans' t3) t4
end
end Go.Abs

/- Abs, part D1: what each operation hangs on, and touches. -/
namespace Go.Abs

def addHp (σ : St) (l : List (Nat × Option Ob)) : St := { σ with hp := app l σ.hp }

theorem addHp_nil (σ : St) : addHp σ [] = σ := rfl
theorem addHp_app (σ : St) (l m : List (Nat × Option Ob)) : addHp (addHp σ l) m = addHp σ (app m l) := by
  unfold addHp
  simp only [app_eq, List.append_assoc]
theorem addHp_ob (σ : St) (l : List (Nat × Option Ob)) (i : Nat) : (addHp σ l).ob i = match look l i with | some (some b) => some b.o | some none => none | none => σ.ob i := by
  unfold St.ob addHp
  simp only [look_app]
  cases look l i with
  | none => rfl
  | some x => cases x <;> rfl
theorem set_addHp (σ : St) (i : Nat) (o : AO) : σ.set i o = addHp σ [(i, some ⟨true, o⟩)] := rfl
theorem kill_addHp (σ : St) (i : Nat) : σ.kill i = addHp σ [(i, none)] := rfl
theorem fsts_app {α : Type} : ∀ (a b : List (Nat × α)), fsts (app a b) = app (fsts a) (fsts b)
  | [], _ => rfl
  | (i, x) :: r, b => by simp [app, fsts, fsts_app r b]

/-- Objects that were written. -/
def NoClean (l : List (Nat × Option Ob)) : Prop := ∀ x ∈ l, ∀ o, x.2 ≠ some ⟨false, o⟩
theorem NoClean.nil : NoClean [] := fun x hx => by cases hx
theorem NoClean.cons {i : Nat} {o : AO} {l : List (Nat × Option Ob)} (h : NoClean l) : NoClean ((i, some ⟨true, o⟩) :: l) := fun x hx o' => by
  rcases List.mem_cons.1 hx with rfl | hx
  · simp
  · exact h x hx o'
theorem NoClean.kill {i : Nat} {l : List (Nat × Option Ob)} (h : NoClean l) : NoClean ((i, none) :: l) := fun x hx o' => by
  rcases List.mem_cons.1 hx with rfl | hx
  · simp
  · exact h x hx o'
theorem NoClean.one {i : Nat} {o : AO} : NoClean [(i, some ⟨true, o⟩)] := NoClean.nil.cons
theorem NoClean.app {l m : List (Nat × Option Ob)} (h : NoClean l) (k : NoClean m) : NoClean (app l m) := fun x hx o => by
  rw [app_eq] at hx
  rcases List.mem_append.1 hx with hx | hx
  · exact h x hx o
  · exact k x hx o

/-- Two states have the same objects there. -/
def SameOb (l : List Nat) (σ τ : St) : Prop := ∀ i ∈ l, τ.ob i = σ.ob i
theorem SameOb.add {l : List Nat} {σ τ : St} (h : SameOb l σ τ) (m : List (Nat × Option Ob)) : SameOb l (addHp σ m) (addHp τ m) := fun i hi => by rw [addHp_ob, addHp_ob, h i hi]
theorem SameOb.sub {l m : List Nat} {σ τ : St} (h : SameOb l σ τ) (hs : ∀ i ∈ m, i ∈ l) : SameOb m σ τ := fun i hi => h i (hs i hi)

theorem freeze_foot : ∀ (cs : List Cell) (σ : St), ∃ pre, σ.freeze cs = addHp σ pre ∧ (∀ i ∈ fsts pre, i ∈ cellsIds cs) ∧ (∀ τ, SameOb (cellsIds cs) σ τ → τ.freeze cs = addHp τ pre) ∧ NoClean pre
  | [], σ => ⟨[], rfl, (fun i hi => by cases hi), (fun τ _ => rfl), NoClean.nil⟩
  | c :: r, σ => by
    have one : ∃ pre, σ.freeze1 c = addHp σ pre ∧ (∀ i ∈ fsts pre, i ∈ c.ids) ∧ (∀ τ, SameOb c.ids σ τ → τ.freeze1 c = addHp τ pre) ∧ NoClean pre := by
      cases c with
      | own t id =>
        simp only [St.freeze1]
        cases ho : σ.ob id with
        | none => exact ⟨[], rfl, (fun i hi => by cases hi), (fun τ hτ => by rw [hτ id (by simp [Cell.ids]), ho]; rfl), NoClean.nil⟩
        | some o =>
          cases o with
          | box cs => exact ⟨[], rfl, (fun i hi => by cases hi), (fun τ hτ => by rw [hτ id (by simp [Cell.ids]), ho]; rfl), NoClean.nil⟩
          | arr t' xs mu =>
            cases mu with
            | true => exact ⟨[(id, some ⟨true, .arr t' xs false⟩)], rfl, (fun i hi => by simpa [fsts, Cell.ids] using hi), (fun τ hτ => by rw [hτ id (by simp [Cell.ids]), ho]; rfl), NoClean.one⟩
            | false => exact ⟨[], rfl, (fun i hi => by cases hi), (fun τ hτ => by rw [hτ id (by simp [Cell.ids]), ho]; rfl), NoClean.nil⟩
      | _ => exact ⟨[], rfl, (fun i hi => by cases hi), (fun τ _ => rfl), NoClean.nil⟩
    obtain ⟨p1, e1, k1, t1, n1⟩ := one
    obtain ⟨p2, e2, k2, t2, n2⟩ := freeze_foot r (σ.freeze1 c)
    refine ⟨app p2 p1, ?_, fun i hi => ?_, fun τ hτ => ?_, n2.app n1⟩
    · show (σ.freeze1 c).freeze r = _
      rw [e2, e1, addHp_app]
    · rw [fsts_app, app_eq] at hi
      simp only [cellsIds, app_eq, List.mem_append]
      rcases List.mem_append.1 hi with hi | hi
      · exact .inr (k2 i hi)
      · exact .inl (k1 i hi)
    · have h1 := t1 τ (hτ.sub fun i hi => by simp [cellsIds, app_eq, hi])
      show (τ.freeze1 c).freeze r = _
      rw [h1, t2 _ ?_, addHp_app]
      rw [e1]
      exact (hτ.sub fun i hi => by simp [cellsIds, app_eq, hi]).add p1

theorem toDatS_same {σ τ : St} {c : Cell} (h : SameOb c.ids σ τ) (t : Ty) : c.toDatS τ t = c.toDatS σ t := by
  cases c with
  | own e id => simp only [Cell.toDatS]; rw [h id (by simp [Cell.ids])]
  | _ => rfl
theorem toDat_same {σ τ : St} {c : Cell} (h : SameOb c.ids σ τ) (t : Ty) : c.toDat τ t = c.toDat σ t := by
  cases c with
  | own e id => simp only [Cell.toDat]; rw [h id (by simp [Cell.ids])]
  | _ => rfl

theorem implode_same {σ τ : St} : ∀ {t : Ty} {cs : List Cell}, SameOb (cellsIds cs) σ τ → implode τ t cs = implode σ t cs ∧ ∀ x r, implode σ t cs = some (x, r) → ∀ i ∈ cellsIds r, i ∈ cellsIds cs := by
  have base : ∀ {t : Ty} {c : Cell} {r : List Cell}, SameOb (cellsIds (c :: r)) σ τ → ((c.toDatS τ t).map fun x => (x, r)) = ((c.toDatS σ t).map fun x => (x, r)) ∧ ∀ x r', ((c.toDatS σ t).map fun x => (x, r)) = some (x, r') → ∀ i ∈ cellsIds r', i ∈ cellsIds (c :: r) := fun {t c r} h => by
    refine ⟨by rw [toDatS_same (h.sub fun i hi => by simp [cellsIds, app_eq, hi])], fun x r' hx i hi => ?_⟩
    cases hd : c.toDatS σ t with
    | none => rw [hd] at hx; cases hx
    | some y => rw [hd] at hx; cases hx; simp [cellsIds, app_eq, hi]
  intro t
  induction t with
  | int k => intro cs h; cases cs with | nil => exact ⟨rfl, fun x r hx => by cases hx⟩ | cons c r => exact base h
  | bool => intro cs h; cases cs with | nil => exact ⟨rfl, fun x r hx => by cases hx⟩ | cons c r => exact base h
  | str => intro cs h; cases cs with | nil => exact ⟨rfl, fun x r hx => by cases hx⟩ | cons c r => exact base h
  | sl e _ => intro cs h; cases cs with | nil => exact ⟨rfl, fun x r hx => by cases hx⟩ | cons c r => exact base h
  | un => intro cs h; exact ⟨by simp [implode], fun x r hx => by simp [implode] at hx; rw [hx]; exact fun i hi => hi⟩
  | pr t u iht ihu =>
    intro cs h
    obtain ⟨a1, a2⟩ := iht h
    cases h1 : implode σ t cs with
    | none => exact ⟨by simp only [implode, a1, h1], fun x r hx => by simp [implode, h1] at hx⟩
    | some y =>
      obtain ⟨y, r1⟩ := y
      obtain ⟨b1, b2⟩ := ihu (cs := r1) (h.sub (a2 y r1 h1))
      refine ⟨by simp only [implode, a1, h1, b1], fun x r hx => ?_⟩
      simp only [implode, h1] at hx
      cases h2 : implode σ u r1 with
      | none => rw [h2] at hx; cases hx
      | some z =>
        obtain ⟨z, r2⟩ := z
        rw [h2] at hx
        cases hx
        exact fun i hi => a2 y r1 h1 i (b2 z _ h2 i hi)

theorem freezeParts_foot : ∀ (ps : List (Nat × AV)) (σ : St), ∃ pre, freezeParts σ ps = addHp σ pre ∧ (∀ i ∈ fsts pre, i ∈ psIds ps) ∧ (∀ τ, SameOb (psIds ps) σ τ → freezeParts τ ps = addHp τ pre) ∧ NoClean pre
  | [], σ => ⟨[], rfl, (fun i hi => by cases hi), (fun τ _ => rfl), NoClean.nil⟩
  | (j, .tup l) :: r, σ => by
    obtain ⟨p, e, k, t, n⟩ := freezeParts_foot r σ
    exact ⟨p, e, (fun i hi => by simp [psIds, AV.ids, app_eq, k i hi]), (fun τ hτ => t τ (hτ.sub fun i hi => by simp [psIds, AV.ids, app_eq, hi])), n⟩
  | (j, .val x) :: r, σ => by
    obtain ⟨p1, e1, k1, t1, n1⟩ := freeze_foot x.cells σ
    obtain ⟨p2, e2, k2, t2, n2⟩ := freezeParts_foot r (σ.freeze x.cells)
    refine ⟨app p2 p1, ?_, fun i hi => ?_, fun τ hτ => ?_, n2.app n1⟩
    · show freezeParts (σ.freeze x.cells) r = _
      rw [e2, e1, addHp_app]
    · rw [fsts_app, app_eq] at hi
      simp only [psIds, AV.ids, app_eq, List.mem_append]
      rcases List.mem_append.1 hi with hi | hi
      · exact .inr (k2 i hi)
      · exact .inl (k1 i hi)
    · have h1 := t1 τ (hτ.sub fun i hi => by simp [psIds, AV.ids, app_eq, hi])
      show freezeParts (τ.freeze x.cells) r = _
      rw [h1, t2 _ ?_, addHp_app]
      rw [e1]
      exact (hτ.sub fun i hi => by simp [psIds, AV.ids, app_eq, hi]).add p1

theorem litElems_same {σ τ : St} {u : Ty} : ∀ {ps : List (Nat × AV)} {k : Nat}, SameOb (psIds ps) σ τ → litElems τ u k ps = litElems σ u k ps
  | [], k, _ => rfl
  | (i, .tup l) :: r, k, _ => rfl
  | (i, .val x) :: r, k, h => by
    simp only [litElems]
    rw [(implode_same (h.sub fun i hi => by simp [psIds, AV.ids, app_eq, hi])).1]
    have ih := litElems_same (u := u) (ps := r) (k := k + 1) (h.sub fun i hi => by simp [psIds, AV.ids, app_eq, hi])
    simp only [ih]
end Go.Abs

/- Abs, part D2: each operation goes on with one value. -/
namespace Go.Abs
section
variable {P : Program} {R : Type}

theorem cond_bind {α β : Type} (b : Bool) (x y : Option α) (K : α → Option β) : (cond b x y).bind K = cond b (x.bind K) (y.bind K) := by cases b <;> rfl

theorem aPart_cps (t : TypeId) (cs : List Cell) (off : Nat) (K : AV → Option R) : aPart P t cs off K = (aPart P t cs off some).bind K := by
  unfold aPart
  split
  · simp_all [cond_bind]
  · split <;> simp_all
  · simp_all

theorem aPick_cps (c a b : AV) (K : AV → Option R) : aPick c a b K = (aPick c a b some).bind K := by
  unfold aPick
  split
  · split <;> simp_all [cond_bind]
  · simp_all

theorem aBuild_cps (t : TypeId) (ps : List (Nat × AV)) (K : AV → Option R) : aBuild P t ps K = (aBuild P t ps some).bind K := by
  unfold aBuild
  split
  · simp_all
  · split
    · split
      · split <;> simp_all
      · simp_all
    · split
      · split <;> simp_all
      · simp_all
    · simp_all

theorem aInt_cps (op : BinOp) (k : IntKind) (x y : Int) (K : AV → Option R) : aInt op k x y K = (aInt op k x y some).bind K := by
  unfold aInt
  split <;> simp_all [cond_bind]

theorem aStr_cps (op : BinOp) (x y : List Int) (K : AV → Option R) : aStr op x y K = (aStr op x y some).bind K := by
  unfold aStr
  split <;> simp_all [cond_bind]

theorem aBin_cps (op : BinOp) (xt : TypeId) (x y : AV) (K : AV → Option R) : aBin P op xt x y K = (aBin P op xt x y some).bind K := by
  unfold aBin
  split
  · split
    · simp_all [cond_bind]
    · simp_all [cond_bind]
    · rw [aInt_cps _ _ _ _ K]; simp_all [cond_bind]
  · rw [aStr_cps _ _ _ K]
  · split <;> simp_all
  · split <;> simp_all [cond_bind]
  · simp_all

theorem aUn_cps (op : UnOp) (x : AV) (K : AV → Option R) : aUn op x K = (aUn op x some).bind K := by
  unfold aUn
  split <;> simp_all

theorem aFieldAddr_cps (s : TypeId) (x : AV) (f : Nat) (K : AV → Option R) : aFieldAddr P s x f K = (aFieldAddr P s x f some).bind K := by
  unfold aFieldAddr
  split
  · split
    · split <;> simp_all [cond_bind]
    · simp_all
  · simp_all

theorem aField_cps (s : TypeId) (x : AV) (f : Nat) (K : AV → Option R) : aField P s x f K = (aField P s x f some).bind K := by
  unfold aField
  split
  · split
    · split
      · rw [aPart_cps _ _ _ K]
      · simp_all
    · simp_all
  · simp_all

theorem aIndex_cps (t : TypeId) (x i : AV) (K : AV → Option R) : aIndex P t x i K = (aIndex P t x i some).bind K := by
  unfold aIndex
  split
  · split
    · simp_all [cond_bind]
    · split
      · rw [aPart_cps _ _ _ K]; simp_all [cond_bind]
      · simp_all
    · simp_all
  · simp_all

theorem aExtract_cps (x : AV) (i : Nat) (K : AV → Option R) : aExtract x i K = (aExtract x i some).bind K := by
  unfold aExtract
  split
  · split <;> simp_all
  · simp_all

theorem aMinMax_cps (f : Int → Int → Int) (l : List AV) (K : AV → Option R) : aMinMax f l K = (aMinMax f l some).bind K := by
  unfold aMinMax
  split
  · split <;> simp_all
  · simp_all

theorem aLoad_cps (t : TypeId) (a : AV) (σ : St) (K : AV → Option R) : aLoad P t a σ K = (aLoad P t a σ some).bind K := by
  unfold aLoad
  split
  · split
    · rw [aPart_cps _ _ _ K]
    · simp_all
  · rw [aPart_cps _ _ _ K]
  · split
    · rw [aPart_cps _ _ _ K]; simp_all [cond_bind]
    · simp_all
  · simp_all

theorem aIndexAddr_cps (t : TypeId) (x i : AV) (σ : St) (K : AV → Option R) : aIndexAddr P t x i σ K = (aIndexAddr P t x i σ some).bind K := by
  unfold aIndexAddr
  split
  · split
    · split
      · split <;> simp_all [cond_bind]
      · split <;> simp_all [cond_bind]
      · simp_all
    · split <;> simp_all [cond_bind]
    · simp_all
  · simp_all

theorem aLen_cps (t : TypeId) (x : AV) (σ : St) (K : AV → Option R) : aLen P t x σ K = (aLen P t x σ some).bind K := by
  unfold aLen
  split
  · simp_all
  · simp_all
  · simp_all
  · split <;> simp_all
  · simp_all [cond_bind]
  · simp_all

theorem aLoad_same {t : TypeId} {x : AV} {σ τ : St} (h : SameOb x.ids σ τ) (K : AV → Option R) : aLoad P t x τ K = aLoad P t x σ K := by
  cases x with
  | tup l => rfl
  | val x => cases x with
    | agg cs => rfl
    | one c => cases c with
      | ptr id off => simp only [aLoad]; rw [h id (by simp [AV.ids, V1.cells, cellsIds, Cell.ids, app_eq])]
      | eptr u id i off => simp only [aLoad]; rw [h id (by simp [AV.ids, V1.cells, cellsIds, Cell.ids, app_eq])]
      | _ => rfl

theorem aIndexAddr_same {t : TypeId} {x i : AV} {σ τ : St} (h : SameOb x.ids σ τ) (K : AV → Option R) : aIndexAddr P t x i τ K = aIndexAddr P t x i σ K := by
  have key : ∀ e j, x = .val (.one (.own e j)) → τ.ob j = σ.ob j := fun e j hx => h j (by subst hx; simp [AV.ids, V1.cells, cellsIds, Cell.ids, app_eq])
  unfold aIndexAddr
  split
  · split
    · cases he : elemOf P t with
      | none => simp
      | some eu =>
        cases x with
        | tup l => simp
        | val x => cases x with
          | agg cs => simp
          | one c => cases c with
            | own e j => simp only [key e j rfl]
            | dat t' y => cases t' <;> rfl
            | _ => rfl
    · rfl
    · rfl
  · rfl

theorem aLen_same {t : TypeId} {x : AV} {σ τ : St} (h : SameOb x.ids σ τ) (K : AV → Option R) : aLen P t x τ K = aLen P t x σ K := by
  have key : ∀ e j, x = .val (.one (.own e j)) → τ.ob j = σ.ob j := fun e j hx => h j (by subst hx; simp [AV.ids, V1.cells, cellsIds, Cell.ids, app_eq])
  unfold aLen
  cases hu : P.underlying t with
  | none => cases x with
    | tup l => rfl
    | val x => cases x with
      | agg cs => rfl
      | one c => cases c <;> rfl
  | some d => cases d <;> first
    | rfl
    | (cases x with
       | tup l => rfl
       | val x => cases x with
         | agg cs => rfl
         | one c => cases c with
           | own e j => first | rfl | simp only [key e j rfl]
           | dat t x => cases t <;> rfl
           | _ => rfl)
end
end Go.Abs

/- Abs, part D3: what an operation does hangs on what it looks at alone. -/
namespace Go.Abs
section
variable {P : Program} {R : Type} {σ τ : St} {o : Oper} {r : R} {nb : Nat} {m : Fu} {Γ : List Summ}

/-- From each state that looks the same, an operation goes on with this value, and these objects. -/
structure Fra (P : Program) (Γ : List Summ) (m : Fu) (o : Oper) (nb : Nat) (σ : St) (rd wr : List Nat) (v : AV) (pre : List (Nat × Option Ob)) : Prop where
  keys : ∀ i ∈ fsts pre, i ∈ wr
  go : ∀ τ, (∀ x ∈ o.op.operands.toList, τ.ev x = σ.ev x) → SameOb rd σ τ → ∀ (R' : Type) (K' : AV → St → Option R'), aOp P Γ m nb o τ K' = K' v (addHp τ pre)
  nc : NoClean pre

theorem evs_same : ∀ {l : List Operand}, (∀ x ∈ l, τ.ev x = σ.ev x) → evs τ l = evs σ l
  | [], _ => rfl
  | x :: r, h => by simp only [evs]; rw [h x (by simp), evs_same fun y hy => h y (by simp [hy])]
theorem evPs_same : ∀ {l : List (Nat × Operand)}, (∀ x ∈ l.map (·.2), τ.ev x = σ.ev x) → evPs τ l = evPs σ l
  | [], _ => rfl
  | (i, x) :: r, h => by simp only [evPs]; rw [h x (by simp), evPs_same fun y hy => h y (by simp at hy ⊢; exact .inr hy)]
theorem bnd_same {x : Option Operand} (h : ∀ y ∈ x.toArray.toList, τ.ev y = σ.ev y) : bnd τ x = bnd σ x := by
  cases x with
  | none => rfl
  | some x => simp only [bnd]; rw [h x (by simp)]

/-- From a value without a state. -/
theorem Fra.pure {wr rd : List Nat} {G : (R' : Type) → St → (AV → Option R') → Option R'} (hop : ∀ τ (R' : Type) (K' : AV → St → Option R'), aOp P Γ m nb o τ K' = G R' τ (fun v => K' v τ))
    (hsame : ∀ τ, (∀ x ∈ o.op.operands.toList, τ.ev x = σ.ev x) → SameOb rd σ τ → ∀ (R' : Type) K', G R' τ K' = (G AV σ some).bind K') {K : AV → St → Option R} (hr : aOp P Γ m nb o σ K = some r) : ∃ v pre, Fra P Γ m o nb σ rd wr v pre := by
  rw [hop, hsame σ (fun _ _ => rfl) (fun _ _ => rfl)] at hr
  cases hg : G AV σ some with
  | none => rw [hg] at hr; cases hr
  | some v => exact ⟨v, [], (fun i hi => by cases hi), (fun τ h1 h2 R' K' => by rw [hop, hsame τ h1 h2, hg]; rfl), NoClean.nil⟩

theorem noIds_grabArg {k : PK} {x : AV} (hk : ∃ ag ts, k = .val ag ts) (hx : ∃ v : V1, x = .val v ∧ cellsIds v.cells = []) (σ τ : St) : grabArg τ k x = grabArg σ k x := by
  obtain ⟨ag, ts, rfl⟩ := hk
  obtain ⟨v, rfl, hv⟩ := hx
  have key : ∀ {cs : List Cell}, cellsIds cs = [] → ∀ ts, grabTs τ ts cs = grabTs σ ts cs := by
    intro cs
    induction cs with
    | nil => intro _ ts; cases ts <;> rfl
    | cons c r ih =>
      intro hc ts
      simp only [cellsIds, app_eq, List.append_eq_nil_iff] at hc
      cases ts with
      | nil => rfl
      | cons t ts =>
        simp only [grabTs]
        rw [toDatS_same (σ := σ) (τ := τ) (c := c) (by rw [hc.1]; exact fun i hi => by cases hi), ih hc.2 ts]
  cases ag with
  | false => cases v with
    | one c => exact key hv ts
    | agg cs => rfl
  | true => cases v with
    | one c => rfl
    | agg cs => exact key hv ts

theorem noIds_spec : ∀ {l : List AV}, noIds l = true → ∀ x ∈ l, ∃ v : V1, x = .val v ∧ cellsIds v.cells = []
  | [], _, x, hx => by cases hx
  | y :: r, h, x, hx => by
    simp only [noIds, Bool.and_eq_true] at h
    rcases List.mem_cons.1 hx with rfl | hx
    · have h1 := h.1
      cases x with
      | tup l => simp at h1
      | val v =>
        cases hv : (AV.val v).ids with
        | nil => exact ⟨v, rfl, hv⟩
        | cons _ _ => rw [hv] at h1; cases h1
    · exact noIds_spec h.2 x hx

theorem freeze_none {cs : List Cell} (h : cellsIds cs = []) (σ : St) : σ.freeze cs = σ := by
  induction cs with
  | nil => rfl
  | cons c r ih =>
    simp only [cellsIds, app_eq, List.append_eq_nil_iff] at h
    have : σ.freeze1 c = σ := by cases c <;> first | rfl | simp [Cell.ids] at h
    show (σ.freeze1 c).freeze r = σ
    rw [this]; exact ih h.2

theorem valPars_spec : ∀ {ks : List PK}, valPars ks = true → ∀ {xs : List AV}, noIds xs = true →
    (∀ σ τ : St, grabArgs τ ks xs = grabArgs σ ks xs) ∧ (∀ σ, freezeArgs σ ks xs = σ) ∧ held ks xs = [] ∧ ∀ σ p, setBoxes σ ks xs p = σ
  | [], _, xs, _ => ⟨fun σ τ => by cases xs <;> rfl, fun σ => rfl, by cases xs <;> rfl, fun σ p => by cases xs <;> rfl⟩
  | .val ag ts :: r, hk, [], _ => ⟨fun σ τ => rfl, fun σ => rfl, rfl, fun σ p => rfl⟩
  | .val ag ts :: r, hk, x :: xs, hx => by
    have hx1 := noIds_spec hx x (by simp)
    have hx2 : noIds xs = true := by simp only [noIds, Bool.and_eq_true] at hx; exact hx.2
    obtain ⟨a1, a2, a3, a4⟩ := valPars_spec (ks := r) hk (xs := xs) hx2
    refine ⟨fun σ τ => ?_, fun σ => ?_, ?_, fun σ p => a4 σ p⟩
    · simp only [grabArgs]
      rw [noIds_grabArg ⟨ag, ts, rfl⟩ hx1 σ τ, a1 σ τ]
    · obtain ⟨v, rfl, hv⟩ := hx1
      show freezeArgs (σ.freeze v.cells) r xs = σ
      rw [freeze_none hv, a2]
    · simp only [held, held1, app, a3]
  | .own _ :: _, hk, _, _ => by simp [valPars] at hk
  | .box _ :: _, hk, _, _ => by simp [valPars] at hk
  | .fn _ _ :: _, hk, _, _ => by simp [valPars] at hk

theorem obsN_none : ∀ {ks : List CK}, owns ks = 0 → ∀ (nb : Nat) (σ : St) (p : (tupT (pay ks)).den), obsN nb σ ks p = σ
  | [], _, _, _, _ => rfl
  | .cst _ :: ks, h, nb, σ, p => obsN_none (ks := ks) h nb σ p
  | .dat _ :: ks, h, nb, σ, p => obsN_none (ks := ks) h nb σ _
  | .own _ _ _ :: ks, h, nb, σ, p => by simp [owns] at h
theorem resObs_none : ∀ {l : List (Bool × List CK)}, resOwns l = 0 → ∀ (nb : Nat) (σ : St) (p : (tupT (resTs l)).den), resObs nb σ l p = σ
  | [], _, _, _, _ => rfl
  | (ag, ks) :: r, h, nb, σ, p => by
    simp only [resOwns] at h
    simp only [resObs]
    rw [obsN_none (by omega), resObs_none (by omega)]

theorem aCallS_plain {S : Summ} {xs : List AV} (h1 : valPars S.sig.pars = true) (h2 : resOwns S.sig.res = 0) (hx : noIds xs = true) (σ τ : St) (R' : Type) (K' : AV → St → Option R') :
    aCallS m nb S xs τ K' = (aCallS m nb S xs σ (fun v _ => some v)).map fun x => x.bind fun v => K' v τ := by
  obtain ⟨a1, a2, a3, a4⟩ := valPars_spec h1 hx
  unfold aCallS
  rw [a2 τ, a2 σ, a1 σ τ, a3]
  cases grabArgs σ S.sig.pars xs with
  | none => rfl
  | some p =>
    dsimp only
    cases nodupB [] && Nat.ble (resOwns S.sig.res) 16 && resCst S.sig.res with
    | false => rfl
    | true =>
      simp only [cond_true, Option.map_some, killAll, a4, resObs_none h2]
      cases S.fn m p with
      | none => rfl
      | some rr => simp only [Option.bind_some]; cases hasSlL (app (resTs S.sig.res) (outsP S.sig.pars)) <;> rfl

theorem aCallF_plain {g : FuncId} {xs : List AV} (hx : noIds xs = true) : ∀ {Γ : List Summ}, plainCalls g Γ = true → ∀ (σ τ : St) (R' : Type) (K' : AV → St → Option R'), aCallF m nb g xs τ K' Γ = (aCallF m nb g xs σ (fun v _ => some v) Γ).bind fun v => K' v τ
  | [], _, σ, τ, R', K' => rfl
  | S :: Γ, h, σ, τ, R', K' => by
    simp only [plainCalls, Bool.and_eq_true] at h
    have ih := aCallF_plain hx h.2 σ τ R' K'
    simp only [aCallF]
    cases hb : Nat.beq S.f g with
    | false => simp only [cond_false]; exact ih
    | true =>
      simp only [cond_true]
      have h1 := h.1
      rw [hb] at h1
      simp only [Bool.not_true, Bool.false_or, Bool.and_eq_true] at h1
      rw [aCallS_plain h1.1 (Nat.eq_of_beq_eq_true h1.2) hx σ τ R' K']
      cases aCallS m nb S xs σ (fun v _ => some v) with
      | none => exact ih
      | some x => rfl
end
end Go.Abs

/- Abs, part D4: what an operation does hangs on what it looks at alone: all operations. -/
namespace Go.Abs
section
variable {P : Program} {R : Type} {σ τ : St} {o : Oper} {r : R} {nb : Nat} {m : Fu} {Γ : List Summ}

/-- A fixed effect. -/
theorem Fra.fixed {rd wr : List Nat} (v : AV) (pre : List (Nat × Option Ob)) (hk : ∀ i ∈ fsts pre, i ∈ wr) (h : ∀ τ, (∀ x ∈ o.op.operands.toList, τ.ev x = σ.ev x) → SameOb rd σ τ → ∀ (R' : Type) (K' : AV → St → Option R'), aOp P Γ m nb o τ K' = K' v (addHp τ pre))
    (hn : NoClean pre := by first | exact NoClean.nil | exact NoClean.one | exact (NoClean.nil.kill).cons) :
    ∃ v pre, Fra P Γ m o nb σ rd wr v pre := ⟨v, pre, hk, h, hn⟩

theorem storeFra {t : TypeId} {a x : Operand} (hop : o.op = .store t a x) {K : AV → St → Option R} (hr : aOp P Γ m nb o σ K = some r) :
    ∃ v pre, Fra P Γ m o nb σ (app (σ.ev a).ids (σ.ev x).ids) (app (σ.ev a).ids (σ.ev x).ids) v pre := by
  have e : ∀ τ (R' : Type) (K' : AV → St → Option R'), aOp P Γ m nb o τ K' = aStore P t (τ.ev a) (τ.ev x) τ (fun s => K' (.val (.one .skip)) s) := fun τ R' K' => by unfold aOp; rw [hop]
  have hops : ∀ τ : St, (∀ x ∈ o.op.operands.toList, τ.ev x = σ.ev x) → τ.ev a = σ.ev a ∧ τ.ev x = σ.ev x := fun τ h => by
    rw [hop] at h; simp only [Op.operands] at h
    exact ⟨h a (by simp), h x (by simp)⟩
  rw [e] at hr
  unfold aStore at hr
  cases hx : σ.ev x with
  | tup l => rw [hx] at hr; cases hr
  | val xv =>
    rw [hx] at hr
    dsimp only at hr
    cases hc : Nat.beq xv.cells.length (P.cellsOf t) && Nat.blt 0 (P.cellsOf t) && storB xv.cells with
    | false => rw [hc] at hr; cases hr
    | true =>
      rw [hc] at hr
      simp only [cond_true] at hr
      cases ha : σ.ev a with
      | tup l => rw [ha] at hr; cases hr
      | val av =>
        cases av with
        | agg cs => rw [ha] at hr; cases hr
        | one c =>
          cases c with
          | ptr id off =>
            rw [ha] at hr
            dsimp only at hr
            cases ho : σ.ob id with
            | none => rw [ho] at hr; cases hr
            | some ob =>
              cases ob with
              | arr _ _ _ => rw [ho] at hr; cases hr
              | box cs =>
                rw [ho] at hr
                dsimp only at hr
                cases hl : Nat.ble (off + P.cellsOf t) cs.length with
                | false => rw [hl] at hr; cases hr
                | true =>
                  refine Fra.fixed (.val (.one .skip)) [(id, some ⟨true, .box (splice cs off xv.cells)⟩)] (fun i hi => ?_) (fun τ h1 h2 R' K' => ?_)
                  · simp [fsts] at hi; subst hi; simp [AV.ids, V1.cells, cellsIds, Cell.ids, app_eq, app]
                  · obtain ⟨k1, k2⟩ := hops τ h1
                    have k3 : τ.ob id = σ.ob id := h2 id (by simp [AV.ids, V1.cells, cellsIds, Cell.ids, app_eq, app])
                    rw [e]
                    unfold aStore
                    rw [k1, k2, ha, hx]
                    dsimp only
                    rw [hc]
                    simp only [cond_true]
                    rw [k3, ho]
                    dsimp only
                    rw [hl]
                    rfl
          | eptr u id i off =>
            rw [ha] at hr
            dsimp only at hr
            obtain ⟨pf, f1, f2, f3, f4⟩ := freeze_foot xv.cells σ
            cases ho : (σ.freeze xv.cells).ob id with
            | none => rw [ho] at hr; cases hr
            | some ob =>
              cases ob with
              | box _ => rw [ho] at hr; cases hr
              | arr u' xs mu =>
                cases mu with
                | false => rw [ho] at hr; cases hr
                | true =>
                  rw [ho] at hr
                  dsimp only at hr
                  cases hl : u'.beq u && Nat.ble (off + P.cellsOf t) u'.sz && Nat.blt i (List.length xs) with
                  | false => rw [hl] at hr; cases hr
                  | true =>
                    rw [hl] at hr
                    simp only [cond_true] at hr
                    have hel : ∀ x ∈ cellsIds (splice (explode u' (List.getD xs i u'.zero)) off xv.cells), x ∈ cellsIds xv.cells := by
                      have app_ids : ∀ (a b : List Cell), cellsIds (a ++ b) = cellsIds a ++ cellsIds b := by
                        intro a b
                        induction a with
                        | nil => rfl
                        | cons c r ih => simp [cellsIds, ih, app_eq]
                      have ex : ∀ (t : Ty) (x : t.den), cellsIds (explode t x) = [] := by
                        intro t
                        induction t with
                        | pr a b iha ihb => intro x; simp [explode, app_ids, iha, ihb]
                        | _ => intro x; rfl
                      have tk : ∀ (n : Nat) (l : List Cell), cellsIds l = [] → cellsIds (l.take n) = [] ∧ cellsIds (l.drop n) = [] := fun n l hl => by
                        have := app_ids (l.take n) (l.drop n)
                        rw [List.take_append_drop, hl] at this
                        have := this.symm
                        rw [List.append_eq_nil_iff] at this
                        exact this
                      intro y hy
                      unfold splice at hy
                      rw [app_ids, app_ids, (tk _ _ (ex _ _)).1, (tk _ _ (ex _ _)).2] at hy
                      simpa using hy
                    have him : ∀ τ, SameOb (app (AV.val (.one (.eptr u id i off))).ids (AV.val xv).ids) σ τ → implode (τ.freeze xv.cells) u' (splice (explode u' (List.getD xs i u'.zero)) off xv.cells) = implode (σ.freeze xv.cells) u' (splice (explode u' (List.getD xs i u'.zero)) off xv.cells) := fun τ h2 => by
                      refine (implode_same ?_).1
                      rw [f1, f3 τ (h2.sub fun i hi => by rw [app_eq]; exact List.mem_append_right _ hi)]
                      exact (h2.sub fun i hi => by rw [app_eq]; exact List.mem_append_right _ (hel i hi)).add pf
                    cases hd : implode (σ.freeze xv.cells) u' (splice (explode u' (List.getD xs i u'.zero)) off xv.cells) with
                    | none => rw [hd] at hr; cases hr
                    | some dr =>
                      obtain ⟨d, rest⟩ := dr
                      cases rest with
                      | cons _ _ => rw [hd] at hr; cases hr
                      | nil =>
                        refine Fra.fixed (.val (.one .skip)) ((id, some ⟨true, .arr u' (List.set xs i d) true⟩) :: pf) (fun j hj => ?_) (fun τ h1 h2 R' K' => ?_) f4.cons
                        · rw [app_eq]
                          simp only [fsts, List.mem_cons] at hj
                          rcases hj with rfl | hj
                          · exact List.mem_append_left _ (by simp [AV.ids, V1.cells, cellsIds, Cell.ids, app_eq])
                          · exact List.mem_append_right _ (f2 j hj)
                        · obtain ⟨k1, k2⟩ := hops τ h1
                          have kf := f3 τ (h2.sub fun i hi => by rw [app_eq]; exact List.mem_append_right _ hi)
                          have k3 : (τ.freeze xv.cells).ob id = (σ.freeze xv.cells).ob id := by
                            rw [kf, f1, addHp_ob, addHp_ob, h2 id (by rw [app_eq]; exact List.mem_append_left _ (by simp [AV.ids, V1.cells, cellsIds, Cell.ids, app_eq]))]
                          rw [e]
                          unfold aStore
                          rw [k1, k2, ha, hx]
                          dsimp only
                          rw [hc]
                          simp only [cond_true]
                          rw [k3, ho]
                          dsimp only
                          rw [hl]
                          simp only [cond_true]
                          rw [him τ h2, hd]
                          dsimp only
                          rw [kf]
                          rfl
          | _ => rw [ha] at hr; cases hr
end
end Go.Abs

/- Abs, part D5: what an operation does hangs on what it looks at alone: the rest. -/
namespace Go.Abs
section
variable {P : Program} {R : Type} {σ τ : St} {o : Oper} {r : R} {nb : Nat} {m : Fu} {Γ : List Summ}

theorem nb_in {l : List Nat} {x : Option Ob} : ∀ i ∈ fsts [(nb, x)], i ∈ nb :: l := fun i hi => by simp [fsts] at hi; simp [hi]

theorem buildSliceFra {t : TypeId} {n : Nat} {ps : Array (Nat × Operand)} (hop : o.op = .buildSlice t n ps) {K : AV → St → Option R} (hr : aOp P Γ m nb o σ K = some r) :
    ∃ v pre, Fra P Γ m o nb σ (psIds (evPs σ ps.toList)) (nb :: psIds (evPs σ ps.toList)) v pre := by
  have e : ∀ τ (R' : Type) (K' : AV → St → Option R'), aOp P Γ m nb o τ K' = aBuildSlice P nb t n (evPs τ ps.toList) τ K' := fun τ R' K' => by unfold aOp; rw [hop]
  have hops : ∀ τ : St, (∀ x ∈ o.op.operands.toList, τ.ev x = σ.ev x) → evPs τ ps.toList = evPs σ ps.toList := fun τ h => by
    rw [hop] at h; simp only [Op.operands] at h
    exact evPs_same fun x hx => h x (by simpa using hx)
  rw [e] at hr
  unfold aBuildSlice at hr
  split at hr
  case h_2 => cases hr
  rename_i el u he
  cases hb : Nat.ble (n * u.sz) 16777216 && zeroOk P el u && Nat.beq (evPs σ ps.toList).length n with
  | false => rw [hb] at hr; cases hr
  | true =>
    rw [hb] at hr
    simp only [cond_true] at hr
    split at hr
    case h_2 => cases hr
    rename_i xs hxs
    obtain ⟨pf, f1, f2, f3, f4⟩ := freezeParts_foot (evPs σ ps.toList) σ
    refine Fra.fixed (.val (.one (.own u nb))) ((nb, some ⟨true, .arr u xs true⟩) :: pf) (fun i hi => ?_) (fun τ h1 h2 R' K' => ?_) f4.cons
    · simp only [fsts, List.mem_cons] at hi ⊢
      exact hi.imp id (f2 i)
    · rw [e, hops τ h1]
      unfold aBuildSlice
      rw [he]
      dsimp only
      rw [hb]
      simp only [cond_true]
      have hl : litElems (freezeParts τ (evPs σ ps.toList)) u 0 (evPs σ ps.toList) = litElems (freezeParts σ (evPs σ ps.toList)) u 0 (evPs σ ps.toList) := litElems_same (by
        rw [f1, f3 τ h2]; exact h2.add pf)
      rw [hl, hxs]
      dsimp only
      rw [f3 τ h2]
      rfl

theorem listOf_same {x : AV} (h : SameOb x.ids σ τ) (u : Ty) : listOf τ u x = listOf σ u x := by
  cases x with
  | tup l => rfl
  | val x => cases x with
    | agg cs => rfl
    | one c => exact toDat_same (h.sub fun i hi => by simp [AV.ids, V1.cells, cellsIds, app_eq, hi]) _

theorem appended_same {x : AV} (h : SameOb x.ids σ τ) (u : Ty) : appended τ u x = appended σ u x := by
  unfold appended
  split
  · rfl
  · exact listOf_same h u

theorem convertFra {s d : TypeId} {x : Operand} (hop : o.op = .convert s d x) {K : AV → St → Option R} (hr : aOp P Γ m nb o σ K = some r) : ∃ v pre, Fra P Γ m o nb σ (σ.ev x).ids (bif Nat.beq s d then nb :: (σ.ev x).ids else [nb]) v pre := by
  have nb_in' : ∀ {y : Option Ob}, ∀ i ∈ fsts [(nb, y)], i ∈ (bif Nat.beq s d then nb :: (σ.ev x).ids else [nb]) := fun i hi => by
    simp [fsts] at hi; subst hi; cases Nat.beq s d <;> simp
  have e : ∀ τ (R' : Type) (K' : AV → St → Option R'), aOp P Γ m nb o τ K' = aConvert P nb s d (τ.ev x) τ K' := fun τ R' K' => by unfold aOp; rw [hop]
  have hops : ∀ τ : St, (∀ x ∈ o.op.operands.toList, τ.ev x = σ.ev x) → τ.ev x = σ.ev x := fun τ h => by
    rw [hop] at h; exact h x (by simp [Op.operands])
  rw [e] at hr
  unfold aConvert at hr
  split at hr
  · rename_i k0 k k1 n hs hd hx
    refine Fra.fixed (one (.int k) (k.wrap n)) [] (fun i hi => by cases hi) (fun τ h1 h2 R' K' => ?_)
    rw [e, hops τ h1]; unfold aConvert; rw [hs, hd, hx]; rfl
  · rename_i s0 hs hd hx
    refine Fra.fixed (one .str s0) [] (fun i hi => by cases hi) (fun τ h1 h2 R' K' => ?_)
    rw [e, hops τ h1]; unfold aConvert; rw [hs, hd, hx]; rfl
  · rename_i el s0 hs hd hx
    split at hr
    · rename_i hu
      refine Fra.fixed (.val (.one (.own (.int .u8) nb))) [(nb, some ⟨true, .arr (.int .u8) s0 true⟩)] nb_in' (fun τ h1 h2 R' K' => ?_)
      rw [e, hops τ h1]; unfold aConvert; rw [hs, hd, hx]; dsimp only; rw [hu]; rfl
    · cases hr
  · rename_i el hs hd
    split at hr
    · rename_i hu
      split at hr
      · rename_i s0 hl
        refine Fra.fixed (one .str s0) [] (fun i hi => by cases hi) (fun τ h1 h2 R' K' => ?_)
        rw [e, hops τ h1]; unfold aConvert; rw [hs, hd]; dsimp only; rw [hu]; dsimp only; rw [listOf_same h2, hl]; rfl
      · cases hr
    · cases hr
  · rename_i e' el t id hs hd hx
    split at hr
    · rename_i u xs mu hsd hu hob
      split at hr
      · cases hr
      · rename_i y0 ys
        have hsd2 : Nat.beq s d = true := hsd
        refine Fra.fixed (.val (.one (.own t id))) [(id, some ⟨true, .arr u (y0 :: ys : List u.den) mu⟩)] (fun i hi => ?_) (fun τ h1 h2 R' K' => ?_)
        · simp [fsts] at hi
          subst hi
          rw [hsd2, hx]
          simp [AV.ids, V1.cells, cellsIds, Cell.ids, app_eq]
        · have h3 : τ.ob id = σ.ob id := by
            refine h2 id ?_
            rw [hx]; simp [AV.ids, V1.cells, cellsIds, Cell.ids, app_eq]
          rw [e, hops τ h1]; unfold aConvert; rw [hs, hd, hx]; dsimp only; rw [hsd2, hu, h3, hob]; rfl
    · cases hr
  · cases hr

theorem sliceFra {t : TypeId} {x : Operand} {lo hi mx : Option Operand} (hop : o.op = .slice t x lo hi mx) {K : AV → St → Option R} (hr : aOp P Γ m nb o σ K = some r) : ∃ v pre, Fra P Γ m o nb σ (σ.ev x).ids (σ.ev x).ids v pre := by
  have e : ∀ τ (R' : Type) (K' : AV → St → Option R'), aOp P Γ m nb o τ K' = aSlice P t (τ.ev x) (bnd τ lo) (bnd τ hi) (bnd τ mx) τ K' := fun τ R' K' => by unfold aOp; rw [hop]
  have hops : ∀ τ : St, (∀ x ∈ o.op.operands.toList, τ.ev x = σ.ev x) → τ.ev x = σ.ev x ∧ bnd τ lo = bnd σ lo ∧ bnd τ hi = bnd σ hi ∧ bnd τ mx = bnd σ mx := fun τ h => by
    rw [hop] at h; simp only [Op.operands] at h
    exact ⟨h x (by simp), bnd_same fun y hy => h y (by simp at hy ⊢; simp [hy]), bnd_same fun y hy => h y (by simp at hy ⊢; simp [hy]), bnd_same fun y hy => h y (by simp at hy ⊢; simp [hy])⟩
  rw [e] at hr
  unfold aSlice at hr
  split at hr
  case h_2 => cases hr
  rename_i bl bh bm hbl hbh hbm
  split at hr
  · rename_i s hu hx
    split at hr
    · dsimp only at hr
      cases hc : decide (0 ≤ bl.getD 0) && decide (bl.getD 0 ≤ bh.getD (List.length s)) && decide (bh.getD (List.length s) ≤ (List.length s : Int)) with
      | false => rw [hc] at hr; cases hr
      | true =>
        refine Fra.fixed (one .str ((s.take (bh.getD (List.length s)).toNat).drop (bl.getD 0).toNat)) [] (fun i hi => by cases hi) (fun τ h1 h2 R' K' => ?_)
        obtain ⟨k1, k2, k3, k4⟩ := hops τ h1
        rw [e, k1, k2, k3, k4]; unfold aSlice; rw [hbl, hbh, hbm]; dsimp only; rw [hu, hx]; dsimp only; rw [hc]; rfl
    · cases hr
  · rename_i el c hu hx
    split at hr
    · cases hr
    · rename_i hhm
      split at hr
      case h_2 => cases hr
      rename_i eu u he
      split at hr
      case h_2 => cases hr
      rename_i xs hxs
      dsimp only at hr
      cases hc : decide (0 ≤ bl.getD 0) && decide (bl.getD 0 ≤ bh.getD (List.length xs)) && decide (bh.getD (List.length xs) ≤ bm.getD (List.length xs)) && decide (bm.getD (List.length xs) ≤ (List.length xs : Int)) with
      | false => rw [hc] at hr; cases hr
      | true =>
        obtain ⟨pf, f1, f2, f3, f4⟩ := freeze_foot [c] σ
        have hids : (σ.ev x).ids = cellsIds [c] := by rw [hx]; rfl
        rw [hids]
        refine Fra.fixed (.val (.one (.dat (.sl u) ((List.take (bh.getD (List.length xs)).toNat xs).drop (bl.getD 0).toNat)))) pf f2 (fun τ h1 h2 R' K' => ?_) f4
        obtain ⟨k1, k2, k3, k4⟩ := hops τ h1
        have kf : τ.freeze1 c = addHp τ pf := f3 τ h2
        have kf0 : σ.freeze1 c = addHp σ pf := f1
        have ks : c.toDatS (τ.freeze1 c) (.sl u) = c.toDatS (σ.freeze1 c) (.sl u) := toDatS_same (σ := σ.freeze1 c) (τ := τ.freeze1 c) (c := c) (by rw [kf, kf0]; exact (h2.sub fun i hi => by simp [cellsIds, app_eq, hi]).add pf) _
        rw [e, k1, k2, k3, k4]
        unfold aSlice
        rw [hbl, hbh, hbm]
        dsimp only
        rw [hu, hx]
        dsimp only
        cases bh with
        | none =>
          cases bm with
          | some mm => exact (hhm mm rfl rfl).elim
          | none =>
            dsimp only
            rw [he]
            dsimp only
            rw [ks, hxs]
            dsimp only
            rw [hc, kf]
            rfl
        | some hh =>
          dsimp only
          rw [he]
          dsimp only
          rw [ks, hxs]
          dsimp only
          rw [hc, kf]
          rfl
  · cases hr

theorem makeSliceFra {t : TypeId} {l c : Operand} (hop : o.op = .makeSlice t l c) {K : AV → St → Option R} (hr : aOp P Γ m nb o σ K = some r) : ∃ v pre, Fra P Γ m o nb σ [] [nb] v pre := by
  have e : ∀ τ (R' : Type) (K' : AV → St → Option R'), aOp P Γ m nb o τ K' = aMakeSlice P nb t (τ.ev l) (τ.ev c) τ K' := fun τ R' K' => by unfold aOp; rw [hop]
  have hops : ∀ τ : St, (∀ x ∈ o.op.operands.toList, τ.ev x = σ.ev x) → τ.ev l = σ.ev l ∧ τ.ev c = σ.ev c := fun τ h => by
    rw [hop] at h; simp only [Op.operands] at h
    exact ⟨h l (by simp), h c (by simp)⟩
  rw [e] at hr
  unfold aMakeSlice at hr
  split at hr
  case h_2 => cases hr
  rename_i el u n mm he hl hc
  cases hz : zeroOk P el u with
  | false => rw [hz] at hr; cases hr
  | true =>
    rw [hz] at hr
    simp only [cond_true] at hr
    cases hb : decide ((0 : Int) ≤ n) && decide ((n : Int) ≤ mm) && decide ((mm : Int) ≤ 4294967296) with
    | false => rw [hb] at hr; cases hr
    | true =>
      refine Fra.fixed (.val (.one (.own u nb))) [(nb, some ⟨true, .arr u (List.replicate (Int.toNat n) u.zero) true⟩)] nb_in (fun τ h1 h2 R' K' => ?_)
      obtain ⟨k1, k2⟩ := hops τ h1
      rw [e, k1, k2]; unfold aMakeSlice; rw [he, hl, hc]; dsimp only; rw [hz]; simp only [cond_true]; rw [hb]; rfl

theorem appendFra {c : Call} (hop : o.op = .call c) (hc : c.callee = .builtin .append) {s x : AV} (hargs : evs σ c.args.toList = [s, x]) {K : AV → St → Option R} (hr : aOp P Γ m nb o σ K = some r) :
    ∃ v pre, Fra P Γ m o nb σ (app s.ids x.ids) (nb :: s.ids) v pre := by
  have e : ∀ τ (R' : Type) (K' : AV → St → Option R'), evs τ c.args.toList = [s, x] → aOp P Γ m nb o τ K' = aAppend P nb c.argTypes.toList s x τ K' := fun τ R' K' h => by unfold aOp; rw [hop]; dsimp only; rw [hc]; dsimp only; rw [h]
  have hops : ∀ τ : St, (∀ x ∈ o.op.operands.toList, τ.ev x = σ.ev x) → evs τ c.args.toList = [s, x] := fun τ h => by
    rw [← hargs]
    refine evs_same fun y hy => h y ?_
    rw [hop]
    simp only [Op.operands, Call.operands]
    simp at hy ⊢
    exact .inr hy
  rw [e σ _ _ hargs] at hr
  unfold aAppend at hr
  split at hr
  case h_2 => cases hr
  rename_i st xt hat
  split at hr
  case h_2 => cases hr
  rename_i el u he hint
  cases hz : zeroOk P el u with
  | false => rw [hz] at hr; cases hr
  | true =>
    rw [hz] at hr
    simp only [cond_true] at hr
    split at hr
    case h_2 => cases hr
    rename_i ys hys
    have hay : ∀ τ, SameOb (app s.ids x.ids) σ τ → appended τ u x = some ys := fun τ h => by rw [appended_same (h.sub fun i hi => by rw [app_eq]; exact List.mem_append_right _ hi), hys]
    cases s with
    | tup l => cases hr
    | val sv =>
      cases sv with
      | agg cs => cases hr
      | one sc =>
        cases sc with
        | nils =>
          dsimp only at hr
          cases hb : Nat.ble (List.length ys) 4294967296 with
          | false => rw [hb] at hr; cases hr
          | true =>
            refine Fra.fixed (.val (.one (.own u nb))) [(nb, some ⟨true, .arr u ys true⟩)] nb_in (fun τ h1 h2 R' K' => ?_)
            rw [e τ _ _ (hops τ h1)]; unfold aAppend; rw [hat]; dsimp only; rw [he, hint]; dsimp only; rw [hz]; simp only [cond_true]; rw [hay τ h2]; dsimp only; rw [hb]; rfl
        | own u' id =>
          dsimp only at hr
          cases hob : σ.ob id with
          | none => rw [hob] at hr; cases hr
          | some oo =>
            cases oo with
            | box _ => rw [hob] at hr; cases hr
            | arr u'' xs mu =>
              rw [hob] at hr
              dsimp only at hr
              cases hb : u''.beq u && u'.beq u with
              | false => rw [hb] at hr; cases hr
              | true =>
                rw [hb] at hr
                simp only [cond_true] at hr
                cases hto : (Ty.sl u'').to (.sl u) xs with
                | none => rw [hto] at hr; cases hr
                | some xs' =>
                  rw [hto] at hr
                  dsimp only at hr
                  cases hl : Nat.ble (List.length xs' + List.length ys) 4294967296 with
                  | false => rw [hl] at hr; cases hr
                  | true =>
                    refine Fra.fixed (.val (.one (.own u nb))) [(nb, some ⟨true, .arr u (xs' ++ ys) mu⟩), (id, none)] (fun i hi => ?_) (fun τ h1 h2 R' K' => ?_)
                    · simp [fsts] at hi
                      rcases hi with rfl | rfl
                      · simp
                      · simp [AV.ids, V1.cells, cellsIds, Cell.ids, app_eq]
                    · have k : τ.ob id = σ.ob id := h2 id (by rw [app_eq]; exact List.mem_append_left _ (by simp [AV.ids, V1.cells, cellsIds, Cell.ids, app_eq]))
                      rw [e τ _ _ (hops τ h1)]; unfold aAppend; rw [hat]; dsimp only; rw [he, hint]; dsimp only; rw [hz]; simp only [cond_true]; rw [hay τ h2]; dsimp only
                      rw [k, hob]; dsimp only; rw [hb]; simp only [cond_true]; rw [hto]; dsimp only; rw [hl]; rfl
        | _ => cases hr
end
end Go.Abs

/- Abs, part D6: what an operation does hangs on what it looks at alone: all operations. -/
namespace Go.Abs
section
variable {P : Program} {R : Type} {σ τ : St} {o : Oper} {r : R} {nb : Nat} {m : Fu} {Γ : List Summ}

theorem aOp_fra {K : AV → St → Option R} (hr : aOp P Γ m nb o σ K = some r) {rd wr : List Nat} (hf : foot Γ nb o σ = some (rd, wr)) : ∃ v pre, Fra P Γ m o nb σ rd wr v pre := by
  unfold foot at hf
  have unf : ∀ τ (R' : Type) (K' : AV → St → Option R') op, o.op = op → aOp P Γ m nb o τ K' = aOp P Γ m nb { o with op := op } τ K' := fun τ R' K' op h => by subst h; rfl
  cases hop : o.op with
  | move x =>
    rw [hop] at hf; cases hf
    refine Fra.fixed (σ.ev x) [] (fun i hi => by cases hi) (fun τ h1 h2 R' K' => ?_)
    rw [unf τ R' K' _ hop]
    show K' (τ.ev x) τ = _
    rw [h1 x (by rw [hop]; simp [Op.operands])]; rfl
  | assign x =>
    rw [hop] at hf; cases hf
    refine Fra.fixed (σ.ev x) [] (fun i hi => by cases hi) (fun τ h1 h2 R' K' => ?_)
    rw [unf τ R' K' _ hop]
    show K' (τ.ev x) τ = _
    rw [h1 x (by rw [hop]; simp [Op.operands])]; rfl
  | pick c x y =>
    rw [hop] at hf; cases hf
    refine Fra.pure (G := fun R' τ K' => aPick (τ.ev c) (τ.ev x) (τ.ev y) K') (fun τ R' K' => by rw [unf τ R' K' _ hop]; rfl) (fun τ h1 h2 R' K' => ?_) hr
    rw [hop] at h1
    rw [h1 c (by simp [Op.operands]), h1 x (by simp [Op.operands]), h1 y (by simp [Op.operands])]
    exact aPick_cps _ _ _ K'
  | build t ps =>
    rw [hop] at hf; cases hf
    refine Fra.pure (G := fun R' τ K' => aBuild P t (evPs τ ps.toList) K') (fun τ R' K' => by rw [unf τ R' K' _ hop]; rfl) (fun τ h1 h2 R' K' => ?_) hr
    rw [hop] at h1
    rw [evPs_same (σ := σ) fun x hx => h1 x (by simpa [Op.operands] using hx)]
    exact aBuild_cps _ _ K'
  | binOp op xt x y yt =>
    rw [hop] at hf
    simp only at hf
    cases hnil : isNil (σ.ev x) (σ.ev y) with
    | true => rw [hnil] at hf; cases hf
    | false =>
      rw [hnil] at hf
      cases hf
      have hno : ∀ (R' : Type) (K' : AV → Option R') (els : Option R'), aNil P op xt (σ.ev x) (σ.ev y) K' els = els := fun R' K' els => by
        unfold aNil
        split <;> first | rfl | (rename_i h1 h2; rw [h1, h2] at hnil; cases hnil)
      refine Fra.pure (G := fun R' τ K' => aNil P op xt (τ.ev x) (τ.ev y) K' (aBin P op xt (τ.ev x) (τ.ev y) K')) (fun τ R' K' => by rw [unf τ R' K' _ hop]; rfl) (fun τ h1 h2 R' K' => ?_) hr
      rw [hop] at h1
      rw [h1 x (by simp [Op.operands]), h1 y (by simp [Op.operands]), hno, hno]
      exact aBin_cps _ _ _ _ K'
  | unOp op xt x =>
    rw [hop] at hf; cases hf
    refine Fra.pure (G := fun R' τ K' => aUn op (τ.ev x) K') (fun τ R' K' => by rw [unf τ R' K' _ hop]; rfl) (fun τ h1 h2 R' K' => ?_) hr
    rw [hop] at h1
    rw [h1 x (by simp [Op.operands])]
    exact aUn_cps _ _ K'
  | fieldAddr s x f =>
    rw [hop] at hf; cases hf
    refine Fra.pure (G := fun R' τ K' => aFieldAddr P s (τ.ev x) f K') (fun τ R' K' => by rw [unf τ R' K' _ hop]; rfl) (fun τ h1 h2 R' K' => ?_) hr
    rw [hop] at h1
    rw [h1 x (by simp [Op.operands])]
    exact aFieldAddr_cps _ _ _ K'
  | field s x f =>
    rw [hop] at hf; cases hf
    refine Fra.pure (G := fun R' τ K' => aField P s (τ.ev x) f K') (fun τ R' K' => by rw [unf τ R' K' _ hop]; rfl) (fun τ h1 h2 R' K' => ?_) hr
    rw [hop] at h1
    rw [h1 x (by simp [Op.operands])]
    exact aField_cps _ _ _ K'
  | index t x i =>
    rw [hop] at hf; cases hf
    refine Fra.pure (G := fun R' τ K' => aIndex P t (τ.ev x) (τ.ev i) K') (fun τ R' K' => by rw [unf τ R' K' _ hop]; rfl) (fun τ h1 h2 R' K' => ?_) hr
    rw [hop] at h1
    rw [h1 x (by simp [Op.operands]), h1 i (by simp [Op.operands])]
    exact aIndex_cps _ _ _ K'
  | extract x i =>
    rw [hop] at hf; cases hf
    refine Fra.pure (G := fun R' τ K' => aExtract (τ.ev x) i K') (fun τ R' K' => by rw [unf τ R' K' _ hop]; rfl) (fun τ h1 h2 R' K' => ?_) hr
    rw [hop] at h1
    rw [h1 x (by simp [Op.operands])]
    exact aExtract_cps _ _ K'
  | nilCheck x =>
    rw [hop] at hf; cases hf
    refine Fra.pure (G := fun R' τ K' => match τ.ev x with
      | .val (.one (.ptr i f)) => K' (.val (.one (.ptr i f)))
      | .val (.one (.vptr t d f)) => K' (.val (.one (.vptr t d f)))
      | .val (.one (.eptr t i j f)) => K' (.val (.one (.eptr t i j f)))
      | .val (.one (.fn f cs)) => K' (.val (.one (.fn f cs)))
      | _ => none) (fun τ R' K' => by rw [unf τ R' K' _ hop]; rfl) (fun τ h1 h2 R' K' => ?_) hr
    rw [hop] at h1
    rw [h1 x (by simp [Op.operands])]
    split <;> rfl
  | makeFunc f first caps =>
    rw [hop] at hf; cases hf
    refine Fra.pure (G := fun R' τ K' => match f with
      | .func f => (match first.toList, ptrsOf (evs τ caps.toList) with
        | [], some ps => K' (.val (.one (.fn f ps)))
        | _, _ => none)
      | _ => none) (fun τ R' K' => by rw [unf τ R' K' _ hop]; cases f <;> rfl) (fun τ h1 h2 R' K' => ?_) hr
    rw [hop] at h1
    rw [evs_same (σ := σ) fun x hx => h1 x (by simp [Op.operands]; simp at hx; exact .inr hx)]
    cases f with
    | func f => dsimp only; split <;> rfl
    | _ => rfl
  | load t a =>
    rw [hop] at hf; cases hf
    refine Fra.pure (G := fun R' τ K' => aLoad P t (τ.ev a) τ K') (fun τ R' K' => by rw [unf τ R' K' _ hop]; rfl) (fun τ h1 h2 R' K' => ?_) hr
    rw [hop] at h1
    rw [h1 a (by simp [Op.operands]), aLoad_same h2]
    exact aLoad_cps _ _ _ K'
  | indexAddr t x i =>
    rw [hop] at hf; cases hf
    refine Fra.pure (G := fun R' τ K' => aIndexAddr P t (τ.ev x) (τ.ev i) τ K') (fun τ R' K' => by rw [unf τ R' K' _ hop]; rfl) (fun τ h1 h2 R' K' => ?_) hr
    rw [hop] at h1
    rw [h1 x (by simp [Op.operands]), h1 i (by simp [Op.operands]), aIndexAddr_same h2]
    exact aIndexAddr_cps _ _ _ _ K'
  | alloc t =>
    rw [hop] at hf; cases hf
    rw [unf σ R K _ hop] at hr
    change (match zeroVals P t with | some z => K (.val (.one (.ptr nb 0))) (σ.set nb (.box (z.map Cell.ofValue))) | none => none) = some r at hr
    cases hz : zeroVals P t with
    | none => rw [hz] at hr; cases hr
    | some z =>
      refine Fra.fixed (.val (.one (.ptr nb 0))) [(nb, some ⟨true, .box (z.map Cell.ofValue)⟩)] nb_in (fun τ h1 h2 R' K' => ?_)
      rw [unf τ R' K' _ hop]
      show (match zeroVals P t with | some z => K' (.val (.one (.ptr nb 0))) (τ.set nb (.box (z.map Cell.ofValue))) | none => none) = _
      rw [hz]; rfl
  | box t x =>
    rw [hop] at hf; cases hf
    rw [unf σ R K _ hop] at hr
    change (match σ.ev x with | .val v => bif storB v.cells then K (.val (.one (.ptr nb 0))) (σ.set nb (.box v.cells)) else none | _ => none) = some r at hr
    cases hx : σ.ev x with
    | tup l => rw [hx] at hr; cases hr
    | val v =>
      rw [hx] at hr
      dsimp only at hr
      cases hs : storB v.cells with
      | false => rw [hs] at hr; cases hr
      | true =>
        refine Fra.fixed (.val (.one (.ptr nb 0))) [(nb, some ⟨true, .box v.cells⟩)] nb_in (fun τ h1 h2 R' K' => ?_)
        rw [unf τ R' K' _ hop]
        show (match τ.ev x with | .val v => bif storB v.cells then K' (.val (.one (.ptr nb 0))) (τ.set nb (.box v.cells)) else none | _ => none) = _
        rw [h1 x (by rw [hop]; simp [Op.operands]), hx]
        dsimp only
        rw [hs]; rfl
  | store t a x => rw [hop] at hf; cases hf; exact storeFra hop hr
  | convert s d x => rw [hop] at hf; cases hf; exact convertFra hop hr
  | slice t x lo hi mx => rw [hop] at hf; cases hf; exact sliceFra hop hr
  | makeSlice t l c => rw [hop] at hf; cases hf; exact makeSliceFra hop hr
  | buildSlice t n ps => rw [hop] at hf; cases hf; exact buildSliceFra hop hr
  | call c =>
    rw [hop] at hf
    dsimp only at hf
    have hargs : ∀ τ : St, (∀ x ∈ o.op.operands.toList, τ.ev x = σ.ev x) → evs τ c.args.toList = evs σ c.args.toList := fun τ h => evs_same fun y hy => h y (by
      rw [hop]; simp only [Op.operands, Call.operands]; simp at hy ⊢; exact .inr hy)
    cases hc : c.callee with
    | invoke a b => rw [hc] at hf; cases hf
    | value f =>
      rw [hc] at hf
      dsimp only at hf
      split at hf
      · rename_i g hfe
        cases hb : noIds (evs σ c.args.toList) && plainCalls g Γ with
        | false => rw [hb] at hf; cases hf
        | true =>
          rw [hb] at hf
          cases hf
          simp only [Bool.and_eq_true] at hb
          have key : ∀ τ, (∀ x ∈ o.op.operands.toList, τ.ev x = σ.ev x) → ∀ (R' : Type) (K' : AV → St → Option R'), aOp P Γ m nb o τ K' = (aCallF m nb g (evs σ c.args.toList) σ (fun v _ => some v) Γ).bind fun v => K' v τ := fun τ h1 R' K' => by
            have h3 := hargs τ h1
            have h4 : τ.ev f = σ.ev f := h1 f (by rw [hop]; simp [Op.operands, Call.operands, hc])
            unfold aOp
            rw [hop]
            dsimp only
            rw [hc]
            dsimp only
            rw [h4, hfe]
            dsimp only
            rw [h3, app_eq]
            simp only [capAVs, List.append_nil]
            exact aCallF_plain hb.1 hb.2 σ τ R' K'
          have h0 := key σ (fun _ _ => rfl) R K
          rw [h0] at hr
          cases hv : aCallF m nb g (evs σ c.args.toList) σ (fun v _ => some v) Γ with
          | none => rw [hv] at hr; cases hr
          | some v => exact Fra.fixed v [] (fun i hi => by cases hi) (fun τ h1 h2 R' K' => by rw [key τ h1, hv]; rfl)
      · cases hf
    | builtin b =>
      rw [hc] at hf
      cases b with
      | len =>
        dsimp only at hf
        split at hf
        · rename_i x hx
          cases hf
          refine Fra.pure (G := fun R' τ K' => match evs τ c.args.toList, c.argTypes.toList with
            | [x], [t] => aLen P t x τ K'
            | _, _ => none) (fun τ R' K' => by unfold aOp; rw [hop]; dsimp only; rw [hc]; rfl) (fun τ h1 h2 R' K' => ?_) hr
          rw [hargs τ h1, hx]
          cases c.argTypes.toList with
          | nil => rfl
          | cons t l => cases l with
            | nil => dsimp only; rw [aLen_same h2]; exact aLen_cps _ _ _ K'
            | cons _ _ => rfl
        · cases hf
      | append =>
        dsimp only at hf
        split at hf
        · rename_i s x hx
          cases hf
          exact appendFra hop hc hx hr
        · cases hf
      | max =>
        cases hf
        refine Fra.pure (G := fun R' τ K' => aMinMax mxI (evs τ c.args.toList) K') (fun τ R' K' => by unfold aOp; rw [hop]; dsimp only; rw [hc]) (fun τ h1 h2 R' K' => ?_) hr
        rw [hargs τ h1]
        exact aMinMax_cps _ _ K'
      | min =>
        cases hf
        refine Fra.pure (G := fun R' τ K' => aMinMax mnI (evs τ c.args.toList) K') (fun τ R' K' => by unfold aOp; rw [hop]; dsimp only; rw [hc]) (fun τ h1 h2 R' K' => ?_) hr
        rw [hargs τ h1]
        exact aMinMax_cps _ _ K'
      | _ => cases hf
  | _ => rw [hop] at hf; cases hf
end
end Go.Abs

/- Abs, part D7: operations that change places. -/
namespace Go.Abs

/-- Two states that say the same. -/
structure Eqv (σ τ : St) : Prop where
  tm : ∀ t, σ.get t = τ.get t
  ob : ∀ i, σ.ob i = τ.ob i
  n : σ.n = τ.n
theorem Eqv.refl (σ : St) : Eqv σ σ := ⟨fun _ => rfl, fun _ => rfl, rfl⟩
theorem Eqv.symm {σ τ : St} (h : Eqv σ τ) : Eqv τ σ := ⟨fun t => (h.tm t).symm, fun i => (h.ob i).symm, h.n.symm⟩
theorem Eqv.trans {a b c : St} (h : Eqv a b) (k : Eqv b c) : Eqv a c := ⟨fun t => (h.tm t).trans (k.tm t), fun i => (h.ob i).trans (k.ob i), h.n.trans k.n⟩
theorem Eqv.put {σ τ : St} (h : Eqv σ τ) (d : Option Nat) (v : AV) : Eqv (σ.put d v) (τ.put d v) := by
  cases d with
  | none => exact h
  | some d => exact ⟨fun t => by rw [St.get_put, St.get_put, h.tm], fun i => by rw [St.ob_put, St.ob_put, h.ob], h.n⟩
theorem Eqv.add {σ τ : St} (h : Eqv σ τ) (pre : List (Nat × Option Ob)) : Eqv (addHp σ pre) (addHp τ pre) :=
  ⟨h.tm, fun i => by rw [addHp_ob, addHp_ob, h.ob], h.n⟩
theorem Eqv.ev {σ τ : St} (h : Eqv σ τ) (x : Operand) : σ.ev x = τ.ev x := by cases x <;> first | exact h.tm _ | rfl

theorem anyTmp_mem : ∀ {l : List Operand} {t : Nat}, Operand.tmp t ∈ l → anyTmp t l = true
  | [], _, h => by cases h
  | x :: r, t, h => by
    rcases List.mem_cons.1 h with rfl | h
    · simp [anyTmp]
    · have := anyTmp_mem h
      cases x <;> simp [anyTmp, this]

section
variable {P : Program} {R : Type} {F : Fr} {ι : Nat → Value} {ok : Nat → Nat → Prop} {N : Nat → Prop} {σ τ : St} {a : Act} {w : World} {o : Oper} {r : R} {m : Fu} {Γ : List Summ} {all : List Oper}

/-- Is an operation carried out? -/
def wantS (all : List Oper) (o : Oper) (σ : St) : Option Bool := match o.guard with
  | none => some true
  | some (j, want) => match guardTmp all j with
    | some t => match σ.get t with
      | .val (.one (.dat .bool b)) => some (b == want)
      | .val (.one .skip) => some false
      | _ => none
    | none => none

/-- One operation. -/
inductive StepR (P : Program) (Γ : List Summ) (m : Fu) (all : List Oper) (base : Nat) (i : Nat) (f : List Nat × List Nat) (σ σ' : St) : Prop
  | go (o : Oper) (h0 : all[i]? = some o) (hw : wantS all o σ = some true) (hf : foot Γ (base + 16 * i) o σ = some f) (v : AV) (pre : List (Nat × Option Ob)) (hF : Fra P Γ m o (base + 16 * i) σ f.1 f.2 v pre)
      (hd : ∀ d, o.dst = some d → d < σ.n) (he : Eqv σ' ((addHp σ pre).put o.dst v))
  | no (o : Oper) (h0 : all[i]? = some o) (hw : wantS all o σ = some false) (hf : f = ([], [])) (hd : ∀ d, o.dst = some d → d < σ.n) (he : Eqv σ' (σ.put o.dst (.val (.one .skip))))

theorem foot_same {nb : Nat} (h : ∀ x ∈ o.op.operands.toList, τ.ev x = σ.ev x) : foot Γ nb o τ = foot Γ nb o σ := by
  unfold foot
  cases hop : o.op with
  | load t a => rw [hop] at h; dsimp only; rw [h a (by simp [Op.operands])]
  | indexAddr t x i => rw [hop] at h; dsimp only; rw [h x (by simp [Op.operands])]
  | store t a x => rw [hop] at h; dsimp only; rw [h a (by simp [Op.operands]), h x (by simp [Op.operands])]
  | convert s d x => rw [hop] at h; dsimp only; rw [h x (by simp [Op.operands])]
  | binOp op xt x y yt => rw [hop] at h; dsimp only; rw [h x (by simp [Op.operands]), h y (by simp [Op.operands])]
  | slice t x lo hi mx => rw [hop] at h; dsimp only; rw [h x (by simp [Op.operands])]
  | buildSlice t n ps => rw [hop] at h; dsimp only; rw [evPs_same (σ := σ) fun x hx => h x (by simpa [Op.operands] using hx)]
  | call c =>
    rw [hop] at h
    dsimp only
    have hargs : evs τ c.args.toList = evs σ c.args.toList := evs_same fun y hy => h y (by simp only [Op.operands, Call.operands]; simp at hy ⊢; exact .inr hy)
    rw [hargs]
    cases hc : c.callee with
    | value f => dsimp only; rw [h f (by simp [Op.operands, Call.operands, hc])]
    | builtin b => cases b <;> rfl
    | _ => rfl
  | _ => rfl

theorem Fra.move {nb : Nat} {rd wr : List Nat} {v : AV} {pre : List (Nat × Option Ob)} (h : Fra P Γ m o nb σ rd wr v pre) (h1 : ∀ x ∈ o.op.operands.toList, τ.ev x = σ.ev x) (h2 : SameOb rd σ τ) : Fra P Γ m o nb τ rd wr v pre :=
  ⟨h.keys, (fun ρ k1 k2 => h.go ρ (fun x hx => (k1 x hx).trans (h1 x hx)) (fun i hi => (k2 i hi).trans (h2 i hi))), h.nc⟩

theorem wantS_same (h : ∀ t, looksB all o t = true → τ.get t = σ.get t) : wantS all o τ = wantS all o σ := by
  unfold wantS
  cases hg : o.guard with
  | none => rfl
  | some g =>
    obtain ⟨j, want⟩ := g
    dsimp only
    cases ht : guardTmp all j with
    | none => rfl
    | some t => dsimp only; rw [h t (by simp [looksB, hg, ht])]

theorem ev_same (h : ∀ t, looksB all o t = true → τ.get t = σ.get t) : ∀ x ∈ o.op.operands.toList, τ.ev x = σ.ev x := fun x hx => by
  cases x with
  | tmp t => exact h t (by
      simp only [looksB, Bool.or_eq_true]
      exact .inl (anyTmp_mem hx))
  | _ => rfl

/-- An operation that sees the same does the same. -/
theorem StepR.det {base i : Nat} {f : List Nat × List Nat} {σ' : St} (h : StepR P Γ m all base i f σ σ') (o : Oper) (h0 : all[i]? = some o) :
    ∃ v pre, Eqv σ' ((addHp σ pre).put o.dst v) ∧ (∀ j ∈ fsts pre, j ∈ f.2) ∧ ∀ τ, (∀ t, looksB all o t = true → τ.get t = σ.get t) → SameOb f.1 σ τ → τ.n = σ.n → StepR P Γ m all base i f τ ((addHp τ pre).put o.dst v) := by
  cases h with
  | go o' h0' hw hf v pre hF hd he =>
    have e : o' = o := Option.some.inj (h0'.symm.trans h0)
    subst e
    exact ⟨v, pre, he, hF.keys, fun τ hl hob hn => .go o' h0 (by rw [wantS_same hl]; exact hw) (by rw [foot_same (ev_same hl)]; exact hf) v pre (hF.move (ev_same hl) hob) (fun d hd' => by rw [hn]; exact hd d hd') (Eqv.refl _)⟩
  | no o' h0' hw hf hd he =>
    have e : o' = o := Option.some.inj (h0'.symm.trans h0)
    subst e
    exact ⟨.val (.one .skip), [], he, (fun j hj => by cases hj), fun τ hl hob hn => .no o' h0 (by rw [wantS_same hl]; exact hw) hf (fun d hd' => by rw [hn]; exact hd d hd') (Eqv.refl _)⟩

theorem StepR.conv {base i : Nat} {f : List Nat × List Nat} {σ' τ' : St} (h : StepR P Γ m all base i f σ σ') (he : Eqv τ' σ') : StepR P Γ m all base i f σ τ' := by
  cases h with
  | go o h0 hw hf v pre hF hd he' => exact .go o h0 hw hf v pre hF hd (he.trans he')
  | no o h0 hw hf hd he' => exact .no o h0 hw hf hd (he.trans he')

theorem StepR.eqv {base i : Nat} {f : List Nat × List Nat} {σ' : St} (h : StepR P Γ m all base i f σ σ') (he : Eqv τ σ) : StepR P Γ m all base i f τ σ' := by
  have hh : ∃ o, all[i]? = some o := by cases h with
    | go o h0 => exact ⟨o, h0⟩
    | no o h0 => exact ⟨o, h0⟩
  obtain ⟨o, h0⟩ := hh
  obtain ⟨v, pre, h2, _, h1⟩ := h.det o h0
  exact (h1 τ (fun t _ => he.tm t) (fun i _ => he.ob i) he.n).conv (h2.trans ((he.symm.add pre).put o.dst v))

def Disj (a b : List Nat) : Prop := ∀ i ∈ a, i ∉ b
/-- Two operations have nothing to do with one another. -/
structure Indep (all : List Oper) (x y : Oper) (f g : List Nat × List Nat) : Prop where
  t1 : ∀ d, x.dst = some d → looksB all y d = false ∧ y.dst ≠ some d
  t2 : ∀ d, y.dst = some d → looksB all x d = false
  o1 : Disj f.2 g.1
  o2 : Disj f.2 g.2
  o3 : Disj g.2 f.1

theorem put_get {σ : St} {d : Option Nat} {v : AV} {t : Nat} (h : d ≠ some t) : (σ.put d v).get t = σ.get t := by
  cases d with
  | none => rfl
  | some d => rw [St.get_put, if_neg (fun e => h (by rw [e]))]

theorem look_fsts {α : Type} : ∀ {l : List (Nat × α)} {i : Nat}, i ∉ fsts l → look l i = none
  | [], _, _ => rfl
  | (j, x) :: r, i, h => by
    simp only [fsts, List.mem_cons, not_or] at h
    rw [look_cons, if_neg (fun e => h.1 e.symm)]; exact look_fsts h.2

theorem addHp_other {pre : List (Nat × Option Ob)} {i : Nat} (h : i ∉ fsts pre) : (addHp σ pre).ob i = σ.ob i := by
  rw [addHp_ob, look_fsts h]

/-- They change places. -/
theorem StepR.swap {base i j : Nat} {f g : List Nat × List Nat} {σ1 σ2 : St} {x y : Oper} (hx : all[i]? = some x) (hy : all[j]? = some y) (hI : Indep all x y f g) (h1 : StepR P Γ m all base j g σ σ1) (h2 : StepR P Γ m all base i f σ1 σ2) :
    ∃ τ, StepR P Γ m all base i f σ τ ∧ StepR P Γ m all base j g τ σ2 := by
  obtain ⟨vy, py, a2, a3, a1⟩ := h1.det y hy
  have h2' := h2.eqv a2.symm
  obtain ⟨vx, px, b2, b3, b1⟩ := h2'.det x hx
  refine ⟨_, b1 σ (fun t ht => ?_) (fun k hk => ?_) (by rw [St.n_put]; rfl), (a1 ((addHp σ px).put x.dst vx) (fun t ht => ?_) (fun k hk => ?_) (by rw [St.n_put]; rfl)).conv (b2.trans ⟨fun t => ?_, fun k => ?_, ?_⟩)⟩
  · rw [put_get (fun e => by rw [hI.t2 t e] at ht; cases ht)]; rfl
  · rw [St.ob_put, addHp_other (fun hh => hI.o3 k (a3 k hh) hk)]
  · rw [put_get (fun e => by rw [(hI.t1 t e).1] at ht; cases ht)]; rfl
  · rw [St.ob_put, addHp_other (fun hh => hI.o1 k (b3 k hh) hk)]
  · have key : ∀ (d e : Option Nat), (∀ k, d = some k → e ≠ some k) → ((σ.put e vy).put d vx).get t = ((σ.put d vx).put e vy).get t := fun d e hde => by
      cases d with
      | none => rfl
      | some d =>
        cases e with
        | none => rfl
        | some e =>
          have : d ≠ e := fun h => hde d rfl (by rw [h])
          simp only [St.get_put]
          by_cases h1 : d = t
          · subst h1
            have hne : ¬ e = d := fun h => this h.symm
            simp [hne]
          · simp [h1]
    have := key x.dst y.dst (fun k hk => (hI.t1 k hk).2)
    cases hxd : x.dst <;> cases hyd : y.dst <;> rw [hxd, hyd] at this <;> exact this
  · rw [St.ob_put, St.ob_put, addHp_ob, addHp_ob, St.ob_put, St.ob_put, addHp_ob, addHp_ob]
    by_cases hk : k ∈ fsts px
    · have : k ∉ fsts py := fun hh => hI.o2 k (b3 k hk) (a3 k hh)
      rw [look_fsts this]
    · rw [look_fsts hk]
  · cases x.dst <;> cases y.dst <;> rfl
end
end Go.Abs

/- Abs, part D8: a region in any order. -/
namespace Go.Abs
section
variable {P : Program} {R : Type} {F : Fr} {ι : Nat → Value} {ok : Nat → Nat → Prop} {N : Nat → Prop} {σ τ : St} {a : Act} {w : World} {o : Oper} {r : R} {m : Fu} {Γ : List Summ} {all : List Oper}

/-- Operations, one behind the other. -/
def Chain (P : Program) (Γ : List Summ) (m : Fu) (all : List Oper) (base : Nat) (fs : Nat → List Nat × List Nat) : List Nat → St → St → Prop
  | [], σ, σf => Eqv σf σ
  | i :: l, σ, σf => ∃ σ1, StepR P Γ m all base i (fs i) σ σ1 ∧ Chain P Γ m all base fs l σ1 σf

theorem Chain.eqv {base : Nat} {fs : Nat → List Nat × List Nat} : ∀ {l : List Nat} {σ σf τ : St}, Chain P Γ m all base fs l σ σf → Eqv τ σ → Chain P Γ m all base fs l τ σf
  | [], σ, σf, τ, h, he => (show Eqv σf σ from h).trans he.symm
  | i :: l, σ, σf, τ, ⟨σ1, h1, h2⟩, he => ⟨σ1, h1.eqv he, h2⟩

theorem Chain.fs_congr {base : Nat} {fs fs' : Nat → List Nat × List Nat} : ∀ {l : List Nat} {σ σf : St}, (∀ i ∈ l, fs' i = fs i) → Chain P Γ m all base fs l σ σf → Chain P Γ m all base fs' l σ σf
  | [], _, _, _, h => h
  | i :: l, σ, σf, hf, ⟨σ1, h1, h2⟩ => ⟨σ1, by rw [hf i (by simp)]; exact h1, Chain.fs_congr (fun j hj => hf j (by simp [hj])) h2⟩

def IndepAt (all : List Oper) (fs : Nat → List Nat × List Nat) (i j : Nat) : Prop := ∃ x y, all[i]? = some x ∧ all[j]? = some y ∧ Indep all x y (fs i) (fs j)

theorem Chain.front {base : Nat} {fs : Nat → List Nat × List Nat} {i : Nat} {l2 : List Nat} : ∀ {l1 : List Nat} {σ σf : St}, Chain P Γ m all base fs (l1 ++ i :: l2) σ σf → (∀ j ∈ l1, IndepAt all fs i j) → ∃ τ, StepR P Γ m all base i (fs i) σ τ ∧ Chain P Γ m all base fs (l1 ++ l2) τ σf
  | [], σ, σf, ⟨σ1, h1, h2⟩, _ => ⟨σ1, h1, h2⟩
  | j :: l1, σ, σf, ⟨σ1, h1, h2⟩, hI => by
    obtain ⟨τ1, k1, k2⟩ := Chain.front (l1 := l1) h2 (fun j hj => hI j (by simp [hj]))
    obtain ⟨x, y, hx, hy, hxy⟩ := hI j (by simp)
    obtain ⟨τ, s1, s2⟩ := StepR.swap hx hy hxy h1 k1
    exact ⟨τ, s1, τ1, s2, k2⟩

theorem Sim.eqv (h : Sim F ι ok N σ a w) (he : Eqv τ σ) : Sim F ι ok N τ a w where
  tms t := by rw [he.tm]; exact h.tms t
  objs id o hi := h.objs id o (by rw [← he.ob]; exact hi)
  apart i j o p b hi hj := h.apart i j o p b (by rw [← he.ob]; exact hi) (by rw [← he.ob]; exact hj)
  oks := h.oks
  keep := h.keep
  size := by rw [he.n]; exact h.size
  defs := h.defs
  pins := h.pins

theorem want_ok {ops : Array Oper} (h : Sim F ι ok N σ a w) {b : Bool} (hw : wantS ops.toList o σ = some b) : Region.wanted o (yielded ops a.tmps) = b := by
  unfold wantS at hw
  cases hg : o.guard with
  | none => rw [hg] at hw; cases hw; simp [Region.wanted, hg]
  | some g =>
    obtain ⟨j, want⟩ := g
    rw [hg] at hw
    dsimp only at hw
    have hwt : Region.wanted o (yielded ops a.tmps) = (yielded ops a.tmps j == some want) := by simp [Region.wanted, hg]
    rw [hwt]
    cases ht : guardTmp ops.toList j with
    | none => rw [ht] at hw; cases hw
    | some t =>
      rw [ht] at hw
      dsimp only at hw
      obtain ⟨oj, hoj, hdj⟩ := guardTmp_some ht
      have hgt := h.tms t
      have hy : ∀ v, a.tmps.getD t undef = v → yielded ops a.tmps j = (match v with | .bool b => some b | _ => none) := fun v hv => by
        unfold yielded
        rw [← Array.getElem?_toList, hoj]
        simp only [Option.bind_some, hdj]
        rw [Array.getD_eq_getD_getElem?] at hv
        cases hx : a.tmps[t]? with
        | none => rw [hx] at hv; simp at hv; subst hv; rfl
        | some u => rw [hx] at hv; simp at hv; subst hv; cases u <;> rfl
      split at hw
      · rename_i c hc
        cases hw
        rw [hc] at hgt
        have hv : a.tmps.getD t undef = .bool c := by have : [a.tmps.getD t undef] = [.bool c] := hgt; simpa using this
        rw [hy _ hv]
        cases c <;> cases want <;> rfl
      · rename_i hc
        cases hw
        rw [hc] at hgt
        have hv : a.tmps.getD t undef = .tuple #[] := hgt
        rw [hy _ hv]
        rfl
      · cases hw

theorem StepR.sound (hΓ : ∀ S ∈ Γ, Sound P S) {ops : Array Oper} {base i : Nat} {f : List Nat × List Nat} (hs : StepR P Γ m ops.toList base i f σ τ) (h : Sim F ι ok N σ a w) (hN : Fresh N (base + 16 * i)) {Q : Exit → Act → World → Prop} {K : Act → World → Prop}
    (hK : ∀ a' w' ι' ok' N', Sim F ι' ok' N' τ a' w' → (∀ k, N' k → span N (base + 16 * i) k) → K a' w') : wpOp P ops Q i K a w := by
  cases hs with
  | go o h0 hw hf v pre hF hd he =>
    have h0 : ops[i]? = some o := by rw [← Array.getElem?_toList]; exact h0
    unfold wpOp
    rw [h0]
    dsimp only
    rw [if_pos (want_ok h hw)]
    left
    have hgo := hF.go σ (fun _ _ => rfl) (fun _ _ => rfl) (AV × St) (fun v s => some (v, s))
    refine aOp_sound hΓ h hN hgo K Q (fun av σ1 v' w' ι' ok' h1 hv hf hKK => ?_)
    cases hKK
    refine hK _ w' ι' ok' _ ?_ (fun _ h => h)
    cases hdst : o.dst with
    | none => rw [hdst] at he; exact h1.eqv he
    | some d => rw [hdst] at he; exact (h1.put hv (hd d hdst)).eqv he
  | no o h0 hw hf hd he =>
    have h0 : ops[i]? = some o := by rw [← Array.getElem?_toList]; exact h0
    unfold wpOp
    rw [h0]
    dsimp only
    rw [if_neg (by rw [want_ok h hw]; simp)]
    refine hK _ w ι ok N ?_ (fun _ h => .inl h)
    cases hdst : o.dst with
    | none => rw [hdst] at he; exact h.eqv he
    | some d => rw [hdst] at he; exact (h.put (x := .val (.one .skip)) (v := undef) (rfl : undef = _) (hd d hdst)).eqv he

theorem bindsE_iff {j : Nat} : ∀ {l : List Edge}, bindsE j l = true ↔ ∃ e ∈ l, Region.binds .any e = true ∧ e.on = j
  | [] => by simp [bindsE]
  | e :: r => by
    simp only [bindsE, Bool.or_eq_true, Bool.and_eq_true, bindsE_iff (l := r), List.mem_cons]
    constructor
    · rintro (⟨h1, h2⟩ | ⟨e', h1, h2⟩)
      · exact ⟨e, .inl rfl, h1, Nat.eq_of_beq_eq_true h2⟩
      · exact ⟨e', .inr h1, h2⟩
    · rintro ⟨e', rfl | h1, h2, h3⟩
      · exact .inl ⟨h2, by rw [h3]; simp⟩
      · exact .inr ⟨e', h1, h2, h3⟩

theorem edgesE_spec {k : Nat} : ∀ {l : List Edge}, edgesE k l = true → ∀ e ∈ l, Region.binds .any e = true → e.on < k
  | [], _, e, h, _ => by cases h
  | x :: r, h, e, he, hb => by
    simp only [edgesE, Bool.and_eq_true, Bool.or_eq_true] at h
    rcases List.mem_cons.1 he with rfl | he
    · rcases h.1 with h1 | h1
      · rw [hb] at h1; cases h1
      · simpa using h1
    · exact edgesE_spec h.2 e he hb
theorem edgesB_spec : ∀ {l : List Oper} {k : Nat}, edgesB k l = true → ∀ i o, l[i]? = some o → ∀ e ∈ o.after, Region.binds .any e = true → e.on < k + i
  | [], _, _, i, o, h, _, _, _ => by simp at h
  | x :: r, k, h, i, o, hi, e, he, hb => by
    simp only [edgesB, Bool.and_eq_true] at h
    cases i with
    | zero =>
      simp at hi; subst hi
      exact edgesE_spec h.1 e (by simpa using he) hb
    | succ i =>
      have := edgesB_spec h.2 i o (by simpa using hi) e he hb
      omega

/-- Whatever the order is: the end is the same. -/
theorem any_order (hΓ : ∀ S ∈ Γ, Sound P S) {ops : Array Oper} {base : Nat} {fs : Nat → List Nat × List Nat} {σf : St} {Q : Exit → Act → World → Prop}
    (hedge : ∀ i o, ops.toList[i]? = some o → ∀ e ∈ o.after, Region.binds .any e = true → e.on < i)
    (hpair : ∀ i j x, j < i → ops.toList[i]? = some x → bindsE j x.after.toList = true ∨ IndepAt ops.toList fs i j)
    (hQ : ∀ a w ι ok N, Sim F ι ok N σf a w → Below N (base + 16 * ops.size) → Q .normal a w) :
    ∀ (fuel : Nat) (listed : Array Bool) (l : List Nat) (σ : St) (a : Act) (w : World) (ι : Nat → Value) (ok : Nat → Nat → Prop) (N : Nat → Prop), listed.size = ops.size → l.length = fuel → l.Pairwise (· < ·) → (∀ i, i ∈ l ↔ i < ops.size ∧ listed.getD i true = false) →
      Chain P Γ m ops.toList base fs l σ σf → Sim F ι ok N σ a w → (∀ i ∈ l, Fresh N (base + 16 * i)) → Below N (base + 16 * ops.size) → wpAny P .any ops Q fuel listed a w := by
  intro fuel
  have ready0 : ∀ (listed : Array Bool) (l : List Nat), listed.size = ops.size → l.Pairwise (· < ·) → (∀ i, i ∈ l ↔ i < ops.size ∧ listed.getD i true = false) → Region.ready .any ops listed = [] → l = [] := by
    intro listed l hsz hs hl hr
    cases l with
    | nil => rfl
    | cons i r =>
      exfalso
      have hi := (hl i).1 (by simp)
      have : i ∈ Region.ready .any ops listed := by
        rw [mem_ready]
        refine ⟨hi.2, ops[i]'hi.1, by simp [hi.1], fun e he hb => ?_⟩
        have hlt := hedge i (ops[i]'hi.1) (by rw [Array.getElem?_toList]; simp [hi.1]) e he hb
        have hnot : e.on ∉ i :: r := fun hm => by
          rcases List.mem_cons.1 hm with h | h
          · omega
          · have := (List.pairwise_cons.1 hs).1 _ h; omega
        have hlt2 : e.on < listed.size := by omega
        have h2 : ¬ (listed.getD e.on true = false) := fun hh => hnot ((hl e.on).2 ⟨by omega, hh⟩)
        have h3 : listed.getD e.on true = true := by cases hx : listed.getD e.on true <;> simp_all
        simpa [hlt2] using h3
      rw [hr] at this; cases this
  induction fuel with
  | zero =>
    intro listed l σ a w ι ok N hsz hlen hs hl hc h hN hB
    have hl0 : l = [] := List.length_eq_zero_iff.1 hlen
    subst hl0
    refine ⟨?_, hQ a w ι ok N (h.eqv hc) hB⟩
    cases hr : Region.ready .any ops listed with
    | nil => rfl
    | cons i r =>
      have hm : i ∈ Region.ready .any ops listed := by rw [hr]; simp
      obtain ⟨h1, o, h2, _⟩ := mem_ready.1 hm
      have hlt := (Array.getElem?_eq_some_iff.1 h2).1
      have := (hl i).2 ⟨hlt, h1⟩
      cases this
  | succ fuel ih =>
    intro listed l σ a w ι ok N hsz hlen hs hl hc h hN hB
    refine ⟨fun hr => ?_, fun i hi => ?_⟩
    · have := ready0 listed l hsz hs hl hr
      subst this; simp at hlen
    · obtain ⟨h1, o, h2, h3⟩ := mem_ready.1 hi
      have hlt := (Array.getElem?_eq_some_iff.1 h2).1
      have him := (hl i).2 ⟨hlt, h1⟩
      obtain ⟨l1, l2, e⟩ := List.append_of_mem him
      subst e
      have hs' := hs
      rw [List.pairwise_append] at hs
      obtain ⟨p1, p2, p3⟩ := hs
      rw [List.pairwise_cons] at p2
      obtain ⟨τ, s1, s2⟩ := Chain.front hc (fun j hj => by
        have hji := p3 j hj i (by simp)
        rcases hpair i j o hji (by rw [Array.getElem?_toList]; exact h2) with hb | hb
        · exfalso
          obtain ⟨e, he, hb1, hb2⟩ := bindsE_iff.1 hb
          have hlisted := h3 e (by simpa using he) hb1
          rw [hb2] at hlisted
          have := (hl j).1 (List.mem_append_left _ hj)
          have hjs : j < listed.size := by omega
          simp [hjs] at this hlisted
          rw [hlisted] at this
          cases this.2
        · exact hb)
      refine s1.sound hΓ h (hN i (by simp)) (fun a' w' ι' ok' N' t1 t2 => ?_)
      refine ih (listed.setIfInBounds i true) (l1 ++ l2) τ a' w' ι' ok' N' (by simpa using hsz) (by simp at hlen ⊢; omega) ?_ (fun k => ?_) s2 t1 (fun k hk j hj1 hj2 hj3 => ?_) (fun j hj => ?_)
      · rw [List.pairwise_append]
        exact ⟨p1, p2.2, fun x hx y hy => p3 x hx y (by simp [hy])⟩
      · have hmem : k ∈ l1 ++ i :: l2 ↔ k ∈ l1 ++ l2 ∨ k = i := by
          simp only [List.mem_append, List.mem_cons]
          constructor
          · rintro (h | h | h)
            · exact .inl (.inl h)
            · exact .inr h
            · exact .inl (.inr h)
          · rintro ((h | h) | h)
            · exact .inl h
            · exact .inr (.inr h)
            · exact .inr (.inl h)
        have hne : k ∈ l1 ++ l2 → k ≠ i := fun hk e => by
          subst e
          rcases List.mem_append.1 hk with hk | hk
          · have := p3 k hk k (by simp); omega
          · have := p2.1 k hk; omega
        have h4 := hl k
        rw [hmem] at h4
        by_cases e : k = i
        · subst e
          constructor
          · intro hk; exact absurd rfl (hne hk)
          · rintro ⟨hk1, hk2⟩
            have : k < listed.size := by omega
            simp [this] at hk2
        · rw [getD_set_ne true (fun h => e h.symm), ← h4]
          simp [e]
      · have hki : k ≠ i := fun e => by
          subst e
          rcases List.mem_append.1 hk with hk | hk
          · have := p3 k hk k (by simp); omega
          · have := p2.1 k hk; omega
        rcases t2 j hj3 with hh | hh
        · exact hN k (by rcases List.mem_append.1 hk with hk | hk; exact List.mem_append_left _ hk; exact List.mem_append_right _ (List.mem_cons_of_mem _ hk)) j hj1 hj2 hh
        · omega
      · rcases t2 j hj with hh | hh
        · exact hB j hh
        · omega
end
end Go.Abs

/- Abs, part D9: a region in any order, II. -/
namespace Go.Abs
section
variable {P : Program} {R : Type} {F : Fr} {ι : Nat → Value} {ok : Nat → Nat → Prop} {N : Nat → Prop} {σ τ : St} {a : Act} {w : World} {o : Oper} {r : R} {m : Fu} {Γ : List Summ} {all : List Oper}

theorem disjB_iff : ∀ {a b : List Nat}, disjB a b = true → Disj a b
  | [], b, _ => fun i hi => by cases hi
  | x :: r, b, h => by
    simp only [disjB, Bool.and_eq_true, Bool.not_eq_true'] at h
    intro i hi hb
    rcases List.mem_cons.1 hi with rfl | hi
    · rw [(memB_iff _ _).2 hb] at h; cases h.1
    · exact disjB_iff h.2 i hi hb

theorem apart_indep {x y : Oper} {f g : List Nat × List Nat} (h1 : apartB all x y = true) (h2 : disjB f.2 g.1 = true) (h3 : disjB f.2 g.2 = true) (h4 : disjB g.2 f.1 = true) : Indep all x y f g := by
  refine ⟨fun d hd => ?_, fun d hd => ?_, disjB_iff h2, disjB_iff h3, disjB_iff h4⟩
  · simp only [apartB, hd, Bool.and_eq_true, Bool.not_eq_true'] at h1
    refine ⟨h1.1.1, fun e => ?_⟩
    rw [e] at h1
    simp at h1
  · simp only [apartB, hd, Bool.and_eq_true, Bool.not_eq_true'] at h1
    exact h1.2

/-- What was looked at before. -/
def PrevOk (all : List Oper) (fs : Nat → List Nat × List Nat) (prev : List (Nat × Oper × List Nat × List Nat)) : Prop := ∀ j y rd wr, (j, y, rd, wr) ∈ prev → all[j]? = some y ∧ fs j = (rd, wr)

theorem okPrev_spec {x : Oper} {rd wr : List Nat} : ∀ {prev : List (Nat × Oper × List Nat × List Nat)}, okPrev all x rd wr prev = true → ∀ j y rd' wr', (j, y, rd', wr') ∈ prev → bindsE j x.after.toList = true ∨ Indep all x y (rd, wr) (rd', wr')
  | [], _, _, _, _, _, h => by cases h
  | (j0, y0, rd0, wr0) :: r, h, j, y, rd', wr', hm => by
    simp only [okPrev, Bool.and_eq_true, Bool.or_eq_true] at h
    rcases List.mem_cons.1 hm with e | hm
    · cases e
      rcases h.1 with h1 | h1
      · exact .inl h1
      · exact .inr (apart_indep h1.1.1.1 h1.1.1.2 h1.1.2 h1.2)
    · exact okPrev_spec h.2 j y rd' wr' hm

theorem aOper_run {nb : Nat} {f : List Nat × List Nat} (hf : foot Γ nb o σ = some f) {K : St → Option R} (hr : aOper P Γ m nb o σ K = some r) :
    ∃ v pre, Fra P Γ m o nb σ f.1 f.2 v pre ∧ (∀ d, o.dst = some d → d < σ.n) ∧ K ((addHp σ pre).put o.dst v) = some r := by
  unfold aOper at hr
  obtain ⟨v, pre, hF⟩ := aOp_fra hr (rd := f.1) (wr := f.2) hf
  rw [hF.go σ (fun _ _ => rfl) (fun _ _ => rfl)] at hr
  refine ⟨v, pre, hF, ?_⟩
  cases hd : o.dst with
  | none => rw [hd] at hr; exact ⟨(fun d h => by cases h), hr⟩
  | some d =>
    rw [hd] at hr
    dsimp only at hr
    cases hb : Nat.blt d σ.n with
    | false => rw [hb] at hr; cases hr
    | true =>
      rw [hb] at hr
      exact ⟨(fun e h => by cases h; simpa using hb), hr⟩

theorem aSkip_run {K : St → Option R} (hr : aSkip o σ K = some r) : (∀ d, o.dst = some d → d < σ.n) ∧ K (σ.put o.dst (.val (.one .skip))) = some r := by
  unfold aSkip at hr
  cases hd : o.dst with
  | none => rw [hd] at hr; exact ⟨(fun d h => by cases h), hr⟩
  | some d =>
    rw [hd] at hr
    dsimp only at hr
    cases hb : Nat.blt d σ.n with
    | false => rw [hb] at hr; cases hr
    | true =>
      rw [hb] at hr
      exact ⟨(fun e h => by cases h; simpa using hb), hr⟩

theorem put_eqv {σ : St} {t : Nat} {x : AV} (h : σ.get t = x) : Eqv (σ.put (some t) x) σ :=
  ⟨fun u => by
    rw [St.get_put]
    split
    · rename_i e; subst e; exact h.symm
    · rfl, fun i => St.ob_put _ _ _ _, rfl⟩

theorem addHp_frm {pre : List (Nat × Option Ob)} (h : NoClean pre) (ds : List Nat) (σ : St) : Frm ds σ (addHp σ pre) :=
  ⟨fun _ _ => rfl, rfl, fun i o ho => by
    unfold addHp at ho
    simp only [look_app] at ho
    cases hl : look pre i with
    | none => rw [hl] at ho; exact ho
    | some x => rw [hl] at ho; cases ho; exact absurd rfl (h _ (look_mem hl) o)⟩

theorem putO_frm {ds : List Nat} {d : Option Nat} (h : ∀ k, d = some k → k ∈ ds) (v : AV) (σ : St) : Frm ds σ (σ.put d v) := by
  cases d with
  | none => exact Frm.refl _ _
  | some d => exact Frm.put (h d rfl) v

/-- One operation of such a region. -/
theorem aStepD {base k : Nat} (h0 : all[k]? = some o) {prev : List (Nat × Oper × List Nat × List Nat)} {K : List Nat × List Nat → St → Option R}
    (hr : (let go (σ : St) := match foot Γ (base + 16 * k) o σ with
        | some (rd, wr) => bif okPrev all o rd wr prev then aOper P Γ m (base + 16 * k) o σ fun σ' => K (rd, wr) σ' else none
        | none => none
      let no (σ : St) := bif okPrev all o [] [] prev then aSkip o σ fun σ' => K ([], []) σ' else none
      match o.guard with
      | none => go σ
      | some (j, want) => match guardTmp all j with
        | some t => match σ.get t with
          | .val (.one (.dat .bool b)) => match want with
            | true => bif b then go (σ.put (some t) (one .bool true)) else no (σ.put (some t) (one .bool false))
            | false => bif b then no (σ.put (some t) (one .bool true)) else go (σ.put (some t) (one .bool false))
          | .val (.one .skip) => no σ
          | _ => none
        | none => none) = some r) :
    ∃ f σ1, StepR P Γ m all base k f σ σ1 ∧ okPrev all o f.1 f.2 prev = true ∧ K f σ1 = some r ∧ Frm (opDsts all) σ σ1 := by
  have hod : ∀ k, o.dst = some k → k ∈ opDsts all := fun k hk => mem_opDsts (List.mem_of_getElem? h0) hk
  have go : ∀ σ' : St, Eqv σ' σ → Frm (opDsts all) σ σ' → wantS all o σ = some true → (match foot Γ (base + 16 * k) o σ' with
        | some (rd, wr) => bif okPrev all o rd wr prev then aOper P Γ m (base + 16 * k) o σ' fun σ' => K (rd, wr) σ' else none
        | none => none) = some r → ∃ f σ1, StepR P Γ m all base k f σ σ1 ∧ okPrev all o f.1 f.2 prev = true ∧ K f σ1 = some r ∧ Frm (opDsts all) σ σ1 := by
    intro σ' he hfr hw hg
    cases hf : foot Γ (base + 16 * k) o σ' with
    | none => rw [hf] at hg; cases hg
    | some f =>
      obtain ⟨rd, wr⟩ := f
      rw [hf] at hg
      dsimp only at hg
      cases hp : okPrev all o rd wr prev with
      | false => rw [hp] at hg; cases hg
      | true =>
        rw [hp] at hg
        simp only [cond_true] at hg
        obtain ⟨v, pre, hF, hd, hK⟩ := aOper_run hf hg
        have hw' : wantS all o σ' = some true := by rw [wantS_same (σ := σ) fun t _ => he.tm t]; exact hw
        exact ⟨(rd, wr), _, StepR.eqv (.go o h0 hw' hf v pre hF hd (Eqv.refl _)) he.symm, hp, hK, hfr.trans' ((addHp_frm hF.nc _ _).trans' (putO_frm hod _ _))⟩
  have no : ∀ σ' : St, Eqv σ' σ → Frm (opDsts all) σ σ' → wantS all o σ = some false → (bif okPrev all o [] [] prev then aSkip o σ' fun σ' => K ([], []) σ' else none) = some r → ∃ f σ1, StepR P Γ m all base k f σ σ1 ∧ okPrev all o f.1 f.2 prev = true ∧ K f σ1 = some r ∧ Frm (opDsts all) σ σ1 := by
    intro σ' he hfr hw hg
    cases hp : okPrev all o [] [] prev with
    | false => rw [hp] at hg; cases hg
    | true =>
      rw [hp] at hg
      simp only [cond_true] at hg
      obtain ⟨hd, hK⟩ := aSkip_run hg
      have hw' : wantS all o σ' = some false := by rw [wantS_same (σ := σ) fun t _ => he.tm t]; exact hw
      exact ⟨([], []), _, StepR.eqv (.no o h0 hw' rfl hd (Eqv.refl _)) he.symm, hp, hK, hfr.trans' (putO_frm hod _ _)⟩
  dsimp only at hr
  cases hg : o.guard with
  | none =>
    rw [hg] at hr
    exact go σ (Eqv.refl _) (Frm.refl _ _) (by simp [wantS, hg]) hr
  | some gw =>
    obtain ⟨j, want⟩ := gw
    rw [hg] at hr
    dsimp only at hr
    cases ht : guardTmp all j with
    | none => rw [ht] at hr; cases hr
    | some t =>
      rw [ht] at hr
      dsimp only at hr
      have htd : ∀ x, Frm (opDsts all) σ (σ.put (some t) x) := fun x => by
        obtain ⟨oj, hoj, hdj⟩ := guardTmp_some ht
        exact Frm.put (mem_opDsts (List.mem_of_getElem? hoj) hdj) x
      split at hr
      · rename_i b hb
        have hw : wantS all o σ = some (b == want) := by simp [wantS, hg, ht, hb]
        cases want with
        | true =>
          dsimp only at hr
          cases b with
          | true => exact go _ (put_eqv hb) (htd _) hw hr
          | false => exact no _ (put_eqv hb) (htd _) hw hr
        | false =>
          dsimp only at hr
          cases b with
          | true => exact no _ (put_eqv hb) (htd _) hw hr
          | false => exact go _ (put_eqv hb) (htd _) hw hr
      · rename_i hb
        exact no σ (Eqv.refl _) (Frm.refl _ _) (by simp [wantS, hg, ht, hb]) hr
      · cases hr

theorem aOpsD_chain {base : Nat} {K : St → Option R} : ∀ {l : List Oper} {k : Nat} {σ : St} {prev : List (Nat × Oper × List Nat × List Nat)}, (∀ j, l[j]? = all[k + j]?) → (∀ j y rd wr, (j, y, rd, wr) ∈ prev → j < k ∧ all[j]? = some y) →
    (∀ j, j < k → ∃ y rd wr, (j, y, rd, wr) ∈ prev) → aOpsD P Γ m all l k (base + 16 * k) σ prev K = some r →
    ∃ fs σf, Chain P Γ m all base fs (List.range' k l.length) σ σf ∧ K σf = some r ∧ Frm (opDsts all) σ σf ∧
      ∀ (fs0 : Nat → List Nat × List Nat), (∀ j y rd wr, (j, y, rd, wr) ∈ prev → fs0 j = (rd, wr)) → ∀ i j x, j < i → k ≤ i → all[i]? = some x → bindsE j x.after.toList = true ∨ IndepAt all (fun n => if n < k then fs0 n else fs n) i j
  | [], k, σ, prev, hl, hp, hall, hr => ⟨fun _ => ([], []), σ, Eqv.refl _, hr, Frm.refl _ _, fun fs0 _ i j x _ hik hx => by
      have := hl (i - k)
      rw [show k + (i - k) = i by omega, hx] at this
      simp at this⟩
  | o :: l, k, σ, prev, hl, hp, hall, hr => by
    have h0 : all[k]? = some o := by have := hl 0; simpa using this.symm
    obtain ⟨f, σ1, s1, s2, s3, s4⟩ := aStepD (K := fun f σ' => aOpsD P Γ m all l (k + 1) (base + 16 * k + 16) σ' ((k, o, f.1, f.2) :: prev) K) h0 hr
    rw [show base + 16 * k + 16 = base + 16 * (k + 1) by omega] at s3
    obtain ⟨fs, σf, c1, c2, c4, c3⟩ := aOpsD_chain (base := base) (l := l) (k := k + 1) (fun j => by have := hl (j + 1); rw [List.getElem?_cons_succ] at this; rw [this]; congr 1; omega)
      (fun j y rd wr hm => by
        rcases List.mem_cons.1 hm with e | hm
        · cases e; exact ⟨by omega, h0⟩
        · obtain ⟨h1, h2⟩ := hp j y rd wr hm; exact ⟨by omega, h2⟩)
      (fun j hj => by
        by_cases e : j = k
        · subst e; exact ⟨o, f.1, f.2, by simp⟩
        · obtain ⟨y, rd, wr, hm⟩ := hall j (by omega); exact ⟨y, rd, wr, by simp [hm]⟩) s3
    refine ⟨fun n => if n = k then f else fs n, σf, ⟨σ1, by simpa using s1, c1.fs_congr (fun i hi => ?_)⟩, c2, s4.trans' c4, fun fs0 hfs i j x hji hik hx => ?_⟩
    · have := List.mem_range'_1.1 hi
      rw [if_neg (by omega)]
    · have e1 : (fun n => if n < k + 1 then (if n < k then fs0 n else f) else fs n) = (fun n => if n < k then fs0 n else if n = k then f else fs n) := by
        funext n
        by_cases h1 : n < k
        · simp [h1, show n < k + 1 by omega]
        · by_cases h2 : n = k
          · subst h2; simp
          · simp [h1, h2, show ¬ n < k + 1 by omega]
      by_cases e : i = k
      · subst e
        have : x = o := Option.some.inj (hx.symm.trans h0)
        subst this
        obtain ⟨y, rd, wr, hm⟩ := hall j hji
        rcases okPrev_spec s2 j y rd wr hm with hb | hb
        · exact .inl hb
        · refine .inr ⟨x, y, h0, (hp j y rd wr hm).2, ?_⟩
          simp only [Nat.lt_irrefl, if_false, if_true, hji]
          rw [hfs j y rd wr hm]
          exact hb
      · have := c3 (fun n => if n < k then fs0 n else f) (fun j y rd wr hm => by
          rcases List.mem_cons.1 hm with e | hm
          · cases e; simp
          · obtain ⟨h1, _⟩ := hp j y rd wr hm
            simp only [h1, if_true]
            exact hfs j y rd wr hm) i j x hji (by omega) hx
        rw [e1] at this
        exact this
end
end Go.Abs

/- Abs, part Za: code. -/
namespace Go.Abs

def exitOf : AX → Exit
  | .normal => .normal
  | .exit i => .exit i
  | .ret => .ret

/-- A run tells what the code does. -/
def RunOk (P : Program) (c : Code) (ds : List Nat) (run : Run) : Prop :=
  ∀ {R : Type} (F : Fr) (ι : Nat → Value) (ok : Nat → Nat → Prop) (N : Nat → Prop) (σ : St) (a : Act) (w : World) (K : AX → St → Option R) (r : R), Sim F ι ok N σ a w → Below N σ.nxt → run σ K = some r →
    ∀ Q : Exit → Act → World → Prop, (∀ e σ' a' w' ι' ok' N', Sim F ι' ok' N' σ' a' w' → Below N' σ'.nxt → Frm ds σ σ' → K e σ' = some r → Q (exitOf e) a' w') → c.wp P Q a w

section
variable {P : Program} {R : Type} {F : Fr} {ι : Nat → Value} {ok : Nat → Nat → Prop} {N : Nat → Prop} {σ σ0 : St} {a : Act} {w : World} {o : Oper} {r : R}

theorem RunOk.use {c : Code} {ds : List Nat} {run : Run} (hrun : RunOk P c ds run) {K : AX → St → Option R} (h : Sim F ι ok N σ a w) (hN : Below N σ.nxt) (hr : run σ K = some r) (Q : Exit → Act → World → Prop)
    (hQ : ∀ e σ' a' w' ι' ok' N', Sim F ι' ok' N' σ' a' w' → Below N' σ'.nxt → Frm ds σ σ' → K e σ' = some r → Q (exitOf e) a' w') : c.wp P Q a w := hrun F ι ok N σ a w K r h hN hr Q hQ

theorem look_clean : ∀ (l : List (Nat × Option Ob)) (i : Nat), look (cleanHp l) i = (look l i).map fun x => x.map fun b => ⟨false, b.o⟩
  | [], _ => rfl
  | (j, some ⟨d, o⟩) :: r, i => by
    simp only [cleanHp, look_cons, look_clean r i]
    split <;> rfl
  | (j, none) :: r, i => by
    simp only [cleanHp, look_cons, look_clean r i]
    split <;> rfl

theorem St.ob_clean (σ : St) (i : Nat) : σ.clean.ob i = σ.ob i := by
  unfold St.ob St.clean
  simp only [look_clean]
  cases look σ.hp i with
  | none => rfl
  | some x => cases x <;> rfl

theorem Sim.clean (h : Sim F ι ok N σ a w) : Sim F ι ok N σ.clean a w where
  tms t := h.tms t
  objs id o ho := h.objs id o (by rw [St.ob_clean] at ho; exact ho)
  apart i j o p b hi hj := h.apart i j o p b (by rw [St.ob_clean] at hi; exact hi) (by rw [St.ob_clean] at hj; exact hj)
  oks := h.oks
  keep := h.keep
  size := h.size
  defs := h.defs
  pins := h.pins

theorem AX.same_eq : ∀ {a b : AX}, a.same b = true → a = b
  | .normal, .normal, _ => rfl
  | .exit i, .exit j, h => by rw [Nat.eq_of_beq_eq_true h]
  | .ret, .ret, _ => rfl
  | .normal, .exit _, h => by cases h
  | .normal, .ret, h => by cases h
  | .exit _, .normal, h => by cases h
  | .exit _, .ret, h => by cases h
  | .ret, .normal, h => by cases h
  | .ret, .exit _, h => by cases h

theorem exIn_ok {e : AX} {dead : List Nat} : ∀ {l : List (AX × Spec)} {x : exT l}, exIn σ0 l e σ = some x → ∃ sp p, (e, sp) ∈ l ∧ sp.take σ0 σ = some p ∧ ∀ {R : Type} (K : AX → St → Option R), exOut σ0 dead l x K = K e (sp.mk' σ0 dead p)
  | [], x, h => by cases h
  | [(e', sp)], x, h => by
    simp only [exIn] at h
    cases hb : e'.same e with
    | false => rw [hb] at h; cases h
    | true =>
      rw [hb] at h
      cases AX.same_eq hb
      exact ⟨sp, x, by simp, h, fun K => rfl⟩
  | (e', sp) :: y :: r, x, h => by
    simp only [exIn] at h
    cases hb : e'.same e with
    | true =>
      rw [hb] at h
      simp only [cond_true] at h
      cases AX.same_eq hb
      split at h
      · rename_i p hp
        cases h
        exact ⟨sp, p, by simp, hp, fun K => rfl⟩
      · cases h
    | false =>
      rw [hb] at h
      simp only [cond_false] at h
      split at h
      · rename_i q hq
        cases h
        obtain ⟨sp', p, h1, h2, h3⟩ := exIn_ok (l := y :: r) hq
        exact ⟨sp', p, List.mem_cons_of_mem _ h1, h2, fun K => h3 K⟩
      · cases h

theorem subB_iff : ∀ {a b : List Nat}, subB a b = true ↔ ∀ x ∈ a, x ∈ b
  | [], b => by simp [subB]
  | x :: r, b => by simp [subB, memB_iff, subB_iff (a := r)]

theorem exDs_mem {ds : List Nat} : ∀ {l : List (AX × Spec)}, exDs ds l = true → ∀ e sp, (e, sp) ∈ l → ∀ t ∈ fsts sp.tms, t ∈ ds
  | [], _, _, _, h => by cases h
  | (e', sp') :: r, h, e, sp, hm => by
    simp only [exDs, Bool.and_eq_true] at h
    rcases List.mem_cons.1 hm with e1 | hm
    · cases e1; exact subB_iff.1 h.1
    · exact exDs_mem h.2 e sp hm
theorem exSkip_mem {ds : List Nat} : ∀ {l : List (AX × Spec)}, exSkip ds l = true → ∀ e sp, (e, sp) ∈ l → ∀ t ∈ ds, t ∈ sp.skip
  | [], _, _, _, h => by cases h
  | (e', sp') :: r, h, e, sp, hm => by
    simp only [exSkip, Bool.and_eq_true] at h
    rcases List.mem_cons.1 hm with e1 | hm
    · cases e1; exact subB_iff.1 h.1
    · exact exSkip_mem h.2 e sp hm

theorem putT_none : ∀ {tms : List (Nat × Bool × List CK)} {cs : List Cell} {t : Nat}, t ∉ fsts tms → look (putT tms cs) t = none
  | [], _, _, _ => rfl
  | (i, ag, ks) :: r, cs, t, h => by
    simp only [fsts, List.mem_cons, not_or] at h
    simp only [putT, look_cons]
    rw [if_neg (fun e => h.1 e.symm)]
    exact putT_none h.2
theorem putB_none : ∀ {bxs : List (Nat × List CK)} {cs : List Cell} {t : Nat}, t ∉ fsts bxs → look (putB bxs cs) t = none
  | [], _, _, _ => rfl
  | (i, ks) :: r, cs, t, h => by
    simp only [fsts, List.mem_cons, not_or] at h
    simp only [putB, look_cons]
    rw [if_neg (fun e => h.1 e.symm)]
    exact putB_none h.2
theorem plantObs_none : ∀ {ks : List CK} {p : (tupT (pay ks)).den} {i : Nat}, i ∉ tgts ks → look (plantObs ks p) i = none
  | [], _, _, _ => rfl
  | .cst _ :: ks, p, i, h => plantObs_none (ks := ks) h
  | .dat _ :: ks, p, i, h => plantObs_none (ks := ks) h
  | .own t g mu :: ks, p, i, h => by
    simp only [tgts, List.mem_cons, not_or] at h
    simp only [plantObs, look_cons]
    rw [if_neg (fun e => h.1 e.symm)]
    exact plantObs_none h.2
theorem putB_dirty : ∀ {bxs : List (Nat × List CK)} {cs : List Cell} {i : Nat} {b : Option Ob}, look (putB bxs cs) i = some b → ∃ o, b = some ⟨true, o⟩
  | [], _, _, _, h => by cases h
  | (j, ks) :: r, cs, i, b, h => by
    simp only [putB, look_cons] at h
    split at h
    · cases h; exact ⟨_, rfl⟩
    · exact putB_dirty h
theorem plantObs_dirty : ∀ {ks : List CK} {p : (tupT (pay ks)).den} {i : Nat} {b : Option Ob}, look (plantObs ks p) i = some b → ∃ o, b = some ⟨true, o⟩
  | [], _, _, _, h => by cases h
  | .cst _ :: ks, p, i, b, h => plantObs_dirty (ks := ks) h
  | .dat _ :: ks, p, i, b, h => plantObs_dirty (ks := ks) h
  | .own t g mu :: ks, p, i, b, h => by
    simp only [plantObs, look_cons] at h
    split at h
    · cases h; exact ⟨_, rfl⟩
    · exact plantObs_dirty h

theorem mk_frm {sp : Spec} {ds : List Nat} (hd : ∀ t ∈ fsts sp.tms, t ∈ ds) (p : sp.ty.den) : Frm ds σ0 (sp.mk' σ0 ds p) := by
  refine ⟨fun t ht => ?_, rfl, fun id o h => ?_⟩
  · simp only [St.get, Spec.mk', look_app, putT_none (fun h => ht (hd t h)), look_anys, if_neg ht]
  · simp only [Spec.mk', look_app] at h
    split at h
    · rename_i v hv
      obtain ⟨o', rfl⟩ := putB_dirty hv
      cases h
    · split at h
      · rename_i v hv
        obtain ⟨o', rfl⟩ := plantObs_dirty hv
        cases h
      · rw [look_nones] at h
        split at h
        · cases h
        · exact h

theorem mk_ob {sp : Spec} {ds : List Nat} {p : sp.ty.den} {id : Nat} {o : AO} (h : (sp.mk' σ0 ds p).ob id = some o) (hs : id ∉ sp.skip) (ht : id ∉ tgts sp.cks) : σ0.ob id = some o := by
  simp only [Spec.skip, List.mem_append, not_or] at hs
  obtain ⟨d, h⟩ := ob_look h
  simp only [Spec.mk', look_app, putB_none hs.2.1, plantObs_none ht, look_nones, if_neg hs.1] at h
  simp [St.ob, h]

theorem cksA_tgts : ∀ (ars : List (Nat × Ty × Bool)), tgts (cksA ars) = fsts ars
  | [] => rfl
  | (id, t, mu) :: r => by simp [cksA, tgts, fsts, cksA_tgts r]

theorem take_tgts {sp : Spec} {p : sp.ty.den} (h : sp.take σ0 σ = some p) {id : Nat} (hlt : id < σ0.nxt) (hs : id ∉ sp.skip) : id ∉ tgts sp.cks := by
  unfold Spec.take at h
  split at h
  · cases h
  · rename_i cs hcs
    simp only at h
    cases hb : nodupB (srcs sp.cks cs) && nodupB (tgts (cksT sp.tms ++ cksB sp.bxs) ++ (fsts sp.ars ++ fsts sp.bxs)) && allGe σ0.nxt (tgts (cksT sp.tms ++ cksB sp.bxs)) && allLt sp.nxt (tgts (cksT sp.tms ++ cksB sp.bxs)) && Nat.ble σ0.nxt sp.nxt &&
        allLt σ0.nxt (fsts sp.ars ++ fsts sp.bxs) && cstOk σ0.nxt sp.cks && allLt σ0.n (fsts sp.tms) && keptOk σ0 (freezeCk σ sp.cks cs) sp.skip (srcs sp.cks cs) σ0.hp with
    | false => rw [hb] at h; cases h
    | true =>
      simp only [Bool.and_eq_true] at hb
      obtain ⟨⟨⟨⟨⟨⟨⟨⟨b1, b2⟩, b3⟩, b4⟩, b5⟩, b6⟩, b7⟩, b8⟩, b9⟩ := hb
      have b3 := (allGe_iff _ _).1 b3
      intro hm
      have e : tgts sp.cks = tgts (cksT sp.tms ++ cksB sp.bxs) ++ fsts sp.ars := by
        show tgts (cksT sp.tms ++ (cksB sp.bxs ++ cksA sp.ars)) = _
        rw [← List.append_assoc, tgts_app, cksA_tgts]
      rw [e] at hm
      rcases List.mem_append.1 hm with hm | hm
      · exact absurd (b3 _ hm) (Nat.not_le.2 hlt)
      · exact hs (List.mem_append_right _ (List.mem_append_right _ hm))

theorem Sim.ids (h : Sim F ι ok N σ a w) (hN : Below N σ.nxt) : (∀ t, (σ.get t).idsIn (· < σ.nxt)) ∧ ∀ id o, σ.ob id = some o → id < σ.nxt ∧ o.idsIn (· < σ.nxt) := by
  have hc : ∀ c : Cell, c.idsIn N → c.idsIn (· < σ.nxt) := fun c hc => by
    cases c <;> first | trivial | exact hN _ hc | exact fun c h => hN _ (hc c h)
  have hv : ∀ x : V1, x.idsIn N → x.idsIn (· < σ.nxt) := fun x hx => by
    cases x with
    | one c => exact hc c hx
    | agg cs => exact fun c h => hc c (hx c h)
  refine ⟨fun t => ?_, fun id o ho => ?_⟩
  · have := (h.tms t).ids
    cases hx : σ.get t with
    | val x => rw [hx] at this; exact hv x this
    | tup l => rw [hx] at this; exact fun x h => hv x (this x h)
  · obtain ⟨g1, g2, _⟩ := h.objs id o ho
    have := g2.ids
    refine ⟨hN id g1, ?_⟩
    cases o with
    | box cs => exact fun c h => hc c (this c h)
    | arr t xs mu => trivial

theorem sealed_ok {c : Code} {ds : List Nat} {exits : List (AX × Spec)} {run : Run} (hrun : RunOk P c ds run) : RunOk P c ds (sealed ds exits run) := by
  intro R F ι ok N σ a w K r h hN hr Q hQ
  unfold sealed at hr
  cases hd : exDs ds exits with
  | false => rw [hd] at hr; cases hr
  | true =>
    rw [hd] at hr
    simp only [Bool.not_true, cond_false] at hr
    cases hx : run (R := exT exits) σ.clean (exIn σ exits) with
    | none => rw [hx] at hr; cases hr
    | some x =>
      rw [hx] at hr
      simp only [Option.bind_some] at hr
      obtain ⟨i1, i2⟩ := h.ids hN
      have hpin : ∀ x ∈ F.pin, x.1 < σ.nxt := fun x hx => hN _ (h.pins x hx).1
      refine hrun F ι ok N σ.clean a w (exIn σ exits) x h.clean hN hx Q (fun e σ' a' w' ι' ok' N' s1 s2 s3 s4 => ?_)
      obtain ⟨sp, p, m1, m2, m3⟩ := exIn_ok (dead := ds) s4
      obtain ⟨ι2, ok2, N2, t1, t2, t3⟩ := take_ok (σ0 := σ) (dead := ds) s1 hpin s3.n (fun t _ => i1 t) i2 (fun t ht => s3.tm t ht) (fun id o ho _ _ => by
        have := s3.hp id o ho
        rw [← St.ob_clean]; simp [St.ob, this]) m2
      exact hQ e _ a' w' ι2 ok2 N2 t1 t2 (mk_frm (exDs_mem hd e sp m1) p) (by rw [← m3 K]; exact hr)

theorem wrap_ok {ann : List (Nat × Ann)} {p : Nat} {c : Code} {ds : List Nat} {run : Run} (hrun : RunOk P c ds run) : RunOk P c ds (wrap ann p ds run) := by
  unfold wrap
  split
  · exact sealed_ok hrun
  · exact hrun

theorem least {J : Nat → Prop} (h : ∃ n, J n) : ∃ n, J n ∧ ∀ m, J m → n ≤ m := by
  obtain ⟨n, hn⟩ := h
  induction n using Nat.strongRecOn with
  | _ n ih =>
    by_cases hm : ∃ m, m < n ∧ J m
    · obtain ⟨m, h1, h2⟩ := hm; exact ih m h1 h2
    · exact ⟨n, hn, fun m hj => Nat.le_of_not_lt fun hlt => hm ⟨m, hlt, hj⟩⟩

/-- A loop whose rounds are counted down. -/
theorem wp_count {c : Code} {Q : Exit → Act → World → Prop} (J : Nat → Act → World → Prop) {n : Nat} {a : Act} {w : World} (h : J n a w)
    (round : ∀ n a w, J n a w → c.wp P (Exit.then (fun a' w' => ∃ m, m < n ∧ J m a' w') Q) a w) : (Code.loop c).wp P Q a w := by
  classical
  let μ : Act → World → Nat := fun a w => if h : ∃ n, J n a w then (least h).choose else 0
  have hμ : ∀ a w, (∃ n, J n a w) → J (μ a w) a w ∧ ∀ m, J m a w → μ a w ≤ m := fun a w h => by
    have e : μ a w = (least h).choose := dif_pos h
    rw [e]; exact (least h).choose_spec
  refine wp_loop (fun a w => ∃ n, J n a w) μ ⟨n, h⟩ (fun a w hI => ?_)
  refine wp_mono (round (μ a w) a w (hμ a w hI).1) (fun e a' w' hq => ?_)
  cases e with
  | normal =>
    obtain ⟨m, h1, h2⟩ := hq
    exact ⟨⟨m, h2⟩, Nat.lt_of_le_of_lt ((hμ a' w' ⟨m, h2⟩).2 m h2) h1⟩
  | _ => exact hq

theorem iter_some {A B : Type} {m : Fu} {f : A → Option (Step A B)} {x : A} {y : B} (h : iter m f x = some y) : ∃ n, iterN f n x = some y := by
  cases m with
  | some n => exact ⟨n, h⟩
  | none =>
    have h : iterW f x = some y := h
    unfold iterW at h
    by_cases hh : ∃ r n, iterN f n x = some r
    · rw [dif_pos hh] at h
      injection h with h
      rw [← h]; exact hh.choose_spec
    · rw [dif_neg hh] at h; cases h

theorem exec_ok {m : Fu} {Γ : List Summ} (hΓ : ∀ S ∈ Γ, Sound P S) (hmix : P.follows .mixedOrders = true) {ann : List (Nat × Ann)} : ∀ (c : Code) (p : Nat), RunOk P c (dsts c) (exec P Γ m ann c p) := by
  intro c
  induction c with
  | skip =>
    intro p R F ι ok N σ a w K r h hN hr Q hQ
    exact wp_skip (hQ .normal σ a w ι ok N h hN (Frm.refl _ _) hr)
  | exit i =>
    intro p R F ι ok N σ a w K r h hN hr Q hQ
    exact wp_exit (hQ (.exit i) σ a w ι ok N h hN (Frm.refl _ _) hr)
  | ret =>
    intro p R F ι ok N σ a w K r h hN hr Q hQ
    exact wp_ret (hQ .ret σ a w ι ok N h hN (Frm.refl _ _) hr)
  | region id ops draw =>
    intro p
    refine wrap_ok (c := .region id ops draw) (ds := opDsts ops.toList) ?_
    intro R F ι ok N σ a w K r h hN hr Q hQ
    cases draw with
    | false =>
      refine wp_region ?_
      have := aOps_sound (l := ops.toList) (k := 0) (nb := σ.nxt) (Q := Q) hΓ (fun j => by simp) h hN hr (fun σ' a' w' ι' ok' N' s1 s2 s3 s4 => ?_)
      · rw [List.range_eq_range']; simpa using this
      · exact hQ .normal { σ' with nxt := σ.nxt + 16 * ops.toList.length } a' w' ι' ok' N' ⟨s1.tms, s1.objs, s1.apart, s1.oks, s1.keep, s1.size, s1.defs, s1.pins⟩ s2 ⟨s3.tm, s3.n, s3.hp⟩ s4
    | true =>
      dsimp only at hr
      cases he : edgesB 0 ops.toList with
      | false => rw [he] at hr; cases hr
      | true =>
        rw [he] at hr
        simp only [cond_true] at hr
        obtain ⟨fs, σf, c1, c2, c4, c3⟩ := aOpsD_chain (base := σ.nxt) (l := ops.toList) (k := 0) (prev := []) (fun j => by simp) (fun j y rd wr hm => by cases hm) (fun j hj => by omega) hr
        refine wp_region_any hmix (any_order (base := σ.nxt) (fs := fs) (σf := σf) hΓ (fun i o hi e hm hb => by have := edgesB_spec he i o hi e hm hb; omega) (fun i j x hji hx => ?_) (fun a' w' ι' ok' N' s1 s2 => ?_) ops.size _ (List.range' 0 ops.toList.length) σ a _ ι ok N (by simp) (by simp) ?_ (fun i => ?_) c1 h.drew (fun i _ => hN.fresh (by omega)) (fun i hi => by have := hN i hi; omega))
        · have := c3 (fun _ => ([], [])) (fun _ _ _ _ hm => by cases hm) i j x hji (Nat.zero_le _) hx
          simpa using this
        · exact hQ .normal { σf with nxt := σ.nxt + 16 * ops.toList.length } a' w' ι' ok' N' ⟨s1.tms, s1.objs, s1.apart, s1.oks, s1.keep, s1.size, s1.defs, s1.pins⟩ (by simpa using s2) ⟨c4.tm, c4.n, c4.hp⟩ c2
        · exact List.pairwise_lt_range'
        · rw [List.mem_range'_1]
          simp
          intro hi
          simp [hi]
  | seq x y ihx ihy =>
    intro p
    refine wrap_ok (c := .seq x y) (ds := app (dsts x) (dsts y)) ?_
    intro R F ι ok N σ a w K r h hN hr Q hQ
    refine wp_seq (ihx (2 * p) F ι ok N σ a w _ r h hN hr _ (fun e σ' a' w' ι' ok' N' s1 s2 s3 s4 => ?_))
    have hfrm : ∀ e, K e σ' = some r → Q (exitOf e) a' w' := fun e he => hQ e σ' a' w' ι' ok' N' s1 s2 (by
      refine ⟨fun t ht => s3.tm t (fun hh => ht (by rw [app_eq]; exact List.mem_append_left _ hh)), s3.n, s3.hp⟩) he
    cases e with
    | normal =>
      exact ihy (2 * p + 1) F ι' ok' N' σ' a' w' K r s1 s2 s4 Q (fun e2 σ2 a2 w2 ι2 ok2 N2 t1 t2 t3 t4 => hQ e2 σ2 a2 w2 ι2 ok2 N2 t1 t2 (s3.trans t3) t4)
    | exit i => exact hfrm (.exit i) s4
    | ret => exact hfrm .ret s4
  | cond c x y ihx ihy =>
    intro p
    refine wrap_ok (c := .cond c x y) (ds := app (dsts x) (dsts y)) ?_
    intro R F ι ok N σ a w K r h hN hr Q hQ
    have hc := h.ev c
    dsimp only at hr
    split at hr
    · rename_i t ht
      rw [ht] at hc
      have hv : a.eval c = .bool t := by have : [a.eval c] = [.bool t] := hc; simpa using this
      refine wp_cond hv ?_
      cases t with
      | true =>
        exact ihx (2 * p) F ι ok N σ a w K r h hN hr Q (fun e σ' a' w' ι' ok' N' s1 s2 s3 s4 => hQ e σ' a' w' ι' ok' N' s1 s2 ⟨fun t ht => s3.tm t (fun hh => ht (by rw [app_eq]; exact List.mem_append_left _ hh)), s3.n, s3.hp⟩ s4)
      | false =>
        exact ihy (2 * p + 1) F ι ok N σ a w K r h hN hr Q (fun e σ' a' w' ι' ok' N' s1 s2 s3 s4 => hQ e σ' a' w' ι' ok' N' s1 s2 ⟨fun t ht => s3.tm t (fun hh => ht (by rw [app_eq]; exact List.mem_append_right _ hh)), s3.n, s3.hp⟩ s4)
    · cases hr
  | scope b ih =>
    intro p
    refine wrap_ok (c := .scope b) (ds := dsts b) ?_
    intro R F ι ok N σ a w K r h hN hr Q hQ
    refine wp_scope_straight (ih (2 * p) F ι ok N σ a w _ r h hN hr _ (fun e σ' a' w' ι' ok' N' s1 s2 s3 s4 => ?_))
    cases e with
    | normal => exact hQ .normal σ' a' w' ι' ok' N' s1 s2 s3 s4
    | ret => exact hQ .ret σ' a' w' ι' ok' N' s1 s2 s3 s4
    | exit i => exact hQ (.exit i) σ' a' w' ι' ok' N' s1 s2 s3 s4
  | block id b ih =>
    intro p
    refine wrap_ok (c := .block id b) (ds := dsts b) ?_
    intro R F ι ok N σ a w K r h hN hr Q hQ
    refine wp_block (ih (2 * p) F ι ok N σ a w _ r h hN hr _ (fun e σ' a' w' ι' ok' N' s1 s2 s3 s4 => ?_))
    cases e with
    | normal => exact hQ .normal σ' a' w' ι' ok' N' s1 s2 s3 s4
    | ret => exact hQ .ret σ' a' w' ι' ok' N' s1 s2 s3 s4
    | exit i =>
      show Exit.inBlock id Q (.exit i) a' w'
      simp only [Exit.inBlock]
      dsimp only at s4
      cases hb : Nat.beq i id with
      | true =>
        rw [hb] at s4
        rw [if_pos (Nat.eq_of_beq_eq_true hb)]
        exact hQ .normal σ' a' w' ι' ok' N' s1 s2 s3 s4
      | false =>
        rw [hb] at s4
        rw [if_neg (fun e => by subst e; simp at hb)]
        exact hQ (.exit i) σ' a' w' ι' ok' N' s1 s2 s3 s4
  | loop b ih =>
    intro p R F ι ok N σ a w K r h hN hr Q hQ
    unfold exec at hr
    split at hr
    case h_2 => cases hr
    rename_i head exits _
    cases hc : exDs (dsts b) exits && subB (fsts head.tms) (dsts b) && exSkip head.skip exits with
    | false => rw [hc] at hr; cases hr
    | true =>
      rw [hc] at hr
      simp only [Bool.not_true, cond_false] at hr
      simp only [Bool.and_eq_true] at hc
      obtain ⟨⟨c1, c2⟩, c3⟩ := hc
      have c2 := subB_iff.1 c2
      split at hr
      case h_2 => cases hr
      rename_i p0 hp0
      obtain ⟨i1, i2⟩ := h.ids hN
      have hpin : ∀ x ∈ F.pin, x.1 < σ.nxt := fun x hx => hN _ (h.pins x hx).1
      cases hx : iter m (loopRound σ head exits (dsts b) (exec P Γ m ann b (2 * p))) p0 with
      | none => rw [hx] at hr; cases hr
      | some x =>
        rw [hx] at hr
        simp only [Option.bind_some] at hr
        obtain ⟨n, hn⟩ := iter_some hx
        obtain ⟨ι0, ok0, N0, t1, t2, t3⟩ := take_ok (σ0 := σ) (dead := dsts b) h.clean hpin rfl (fun t _ => i1 t) i2 (fun t _ => rfl) (fun id o ho _ _ => by
          rw [← St.ob_clean]; simp [St.ob, ho]) hp0
        refine wp_count (fun n a w => ∃ q ι ok N, iterN (loopRound σ head exits (dsts b) (exec P Γ m ann b (2 * p))) n q = some x ∧ Sim F ι ok N (head.mk' σ (dsts b) q).clean a w ∧ Below N head.nxt) (n := n) ⟨p0, ι0, ok0, N0, hn, t1.clean, t2⟩ ?_
        rintro n a1 w1 ⟨q, ι1, ok1, N1, j1, j2, j3⟩
        cases n with
        | zero => cases j1
        | succ n =>
          simp only [iterN] at j1
          have hcl : ∀ {σ' : St} {sp : Spec}, Frm (dsts b) (head.mk' σ (dsts b) q).clean σ' → (∀ t ∈ head.skip, t ∈ sp.skip) → ∀ id o, look σ'.hp id = some (some ⟨false, o⟩) → id < σ.nxt → id ∉ sp.skip → σ.ob id = some o := fun s3 hsk id o ho hlt hns => by
            have h1 := s3.hp id o ho
            have h2 : (head.mk' σ (dsts b) q).ob id = some o := by rw [← St.ob_clean]; simp [St.ob, h1]
            have hns' : id ∉ head.skip := fun hh => hns (hsk id hh)
            exact mk_ob h2 hns' (take_tgts hp0 hlt hns')
          have htm : ∀ {σ' : St}, Frm (dsts b) (head.mk' σ (dsts b) q).clean σ' → ∀ t, t ∉ dsts b → σ'.get t = σ.get t := fun s3 t ht => (s3.tm t ht).trans ((mk_frm c2 q).tm t ht)
          split at j1
          · rename_i q' hq'
            refine RunOk.use (ih (2 * p)) (r := Step.next q') j2 j3 hq' _ (fun e σ' a' w' ι' ok' N' s1 s2 s3 s4 => ?_)
            cases e with
            | normal =>
              dsimp only at s4
              split at s4
              · rename_i q2 hq2
                cases s4
                obtain ⟨ι2, ok2, N2, u1, u2, u3⟩ := take_ok (σ0 := σ) (dead := dsts b) s1 hpin s3.n (fun t _ => i1 t) i2 (htm s3) (hcl s3 (fun _ h => h)) hq2
                exact ⟨n, by omega, q', ι2, ok2, N2, j1, u1.clean, u2⟩
              · cases s4
            | exit i => dsimp only at s4; split at s4 <;> cases s4
            | ret => dsimp only at s4; split at s4 <;> cases s4
          · rename_i x' hx'
            cases j1
            refine RunOk.use (ih (2 * p)) (r := Step.fin x) j2 j3 hx' _ (fun e σ' a' w' ι' ok' N' s1 s2 s3 s4 => ?_)
            have fin : e ≠ .normal → (match exIn σ exits e σ' with | some x => some (Step.fin (A := head.ty.den) x) | none => none) = some (.fin x) → Q (exitOf e) a' w' := fun _ s4 => by
              split at s4
              · rename_i x2 hx2
                cases s4
                obtain ⟨sp, pp, m1, m2, m3⟩ := exIn_ok (dead := dsts b) hx2
                obtain ⟨ι2, ok2, N2, u1, u2, u3⟩ := take_ok (σ0 := σ) (dead := dsts b) s1 hpin s3.n (fun t _ => i1 t) i2 (htm s3) (hcl s3 (exSkip_mem c3 e sp m1)) m2
                exact hQ e _ a' w' ι2 ok2 N2 u1 u2 (mk_frm (exDs_mem c1 e sp m1) pp) (by rw [← m3 K]; exact hr)
              · cases s4
            cases e with
            | normal => dsimp only at s4; split at s4 <;> cases s4
            | exit i => exact fin (by simp) s4
            | ret => exact fin (by simp) s4
          · cases j1
  | _ => intro p R F ι ok N σ a w K r h hN hr Q hQ; cases hr
end
end Go.Abs

/- Abs, part Zb: the begin and the end of a function. -/
namespace Go.Abs
section
variable {P : Program} {R : Type} {F : Fr} {ι : Nat → Value} {ok : Nat → Nat → Prop} {N : Nat → Prop} {σ σ0 : St} {a : Act} {w : World} {o : Oper} {r : R}

theorem Sim.congr (h : Sim F ι ok N σ a w) {σ' : St} (hg : ∀ t, σ'.get t = σ.get t) (ho : ∀ i, σ'.ob i = σ.ob i) (hn : σ'.n = σ.n) : Sim F ι ok N σ' a w where
  tms t := by rw [hg]; exact h.tms t
  objs id o hi := h.objs id o (by rw [← ho]; exact hi)
  apart i j o p b hi hj := h.apart i j o p b (by rw [← ho]; exact hi) (by rw [← ho]; exact hj)
  oks := h.oks
  keep := h.keep
  size := by rw [hn]; exact h.size
  defs := h.defs
  pins := h.pins

theorem addHp_one (σ : St) (id : Nat) (d : Bool) (o : AO) (i : Nat) : (addHp σ [(id, some ⟨d, o⟩)]).ob i = (σ.set id o).ob i := by
  rw [St.ob_set]
  unfold addHp St.ob
  simp only [app, look_cons]
  by_cases e : id = i
  · simp [e]
  · simp [e]

theorem addHp_cons (σ : St) (x : Nat × Option Ob) (l : List (Nat × Option Ob)) : addHp σ (x :: l) = addHp (addHp σ l) [x] := rfl

/-- What may stand in new blocks. -/
def NewBs (F : Fr) (ι : Nat → Value) (σ : St) (bs : List Nat) : Prop := ∀ b ∈ bs, (F.w0.heap.size ≤ b ∨ b ∈ F.S) ∧ ∀ i p, σ.ob i = some p → blk (ι i) ≠ some b

/-- More objects. -/
structure More (F : Fr) (ι : Nat → Value) (ok : Nat → Nat → Prop) (N : Nat → Prop) (a : Act) (w : World) (σ : St) (nb k : Nat) (bs : List Nat) (ι' : Nat → Value) (N' : Nat → Prop) (σ' : St) : Prop where
  sim : Sim F ι' ok N' σ' a w
  old : ∀ i, N i → N' i ∧ ι' i = ι i
  ge : ∀ i, N' i → N i ∨ (nb ≤ i ∧ i < nb + k)
  bb : ∀ i p, σ'.ob i = some p → σ.ob i = some p ∨ ∀ b, blk (ι' i) = some b → b ∈ bs

theorem More.one (h : Sim F ι ok N σ a w) {id : Nat} (hid : ¬N id) {o : AO} {V : Value} (hV : ObjRep w ok (upd ι id V) (plus N id) o V) (hb : NewBs F ι σ (blk V).toList) (d : Bool) :
    More F ι ok N a w σ id 1 (blk V).toList (upd ι id V) (plus N id) (addHp σ [(id, some ⟨d, o⟩)]) := by
  have hnew := h.newOb hid hV (fun b hb' => hb b (by simp [hb']))
  refine ⟨hnew.congr (fun _ => rfl) (addHp_one σ id d o) rfl, fun i hi => ⟨le_plus _ hi, upd_other _ _ _ (fun e => hid (by rw [← e]; exact hi))⟩, fun i hi => hi.imp (fun h => h) (fun e => by subst e; exact ⟨Nat.le_refl _, by omega⟩), fun i p hp => ?_⟩
  rw [addHp_one, St.ob_set] at hp
  split at hp
  · rename_i e; subst e; right; intro b hb'; rw [upd_same] at hb'; simp [hb']
  · exact .inl hp

theorem NewBs.next {k : Nat} {nb : Nat} {b1 b2 : List Nat} {ι' : Nat → Value} {N' : Nat → Prop} {σ' : St} (h0 : Sim F ι ok N σ a w) (h : More F ι ok N a w σ nb k b1 ι' N' σ') (hn : (b1 ++ b2).Nodup) (hb : NewBs F ι σ (b1 ++ b2)) : NewBs F ι' σ' b2 := fun b hm => by
  rw [List.nodup_append] at hn
  refine ⟨(hb b (List.mem_append_right _ hm)).1, fun i p hp hbi => ?_⟩
  rcases h.bb i p hp with hh | hh
  · rw [(h.old i (h0.objs i p hh).1).2] at hbi
    exact (hb b (List.mem_append_right _ hm)).2 i p hh hbi
  · exact hn.2.2 b (hh b hbi) b hm rfl

def capPins (j : Nat) : List Value → List (Nat × Value)
  | [] => []
  | u :: us => (j, u) :: capPins (j + 1) us
def pinsFor (i : Nat) : List PK → List Value → List (Nat × Value)
  | .box _ :: r, v :: vs => (16 * i, v) :: pinsFor (i + 1) r vs
  | .fn _ _ :: r, .func _ _ us :: vs => capPins (16 * i) us.toList ++ pinsFor (i + 1) r vs
  | _ :: r, _ :: vs => pinsFor (i + 1) r vs
  | _, _ => []

theorem caps_in : ∀ {caps : List (List Ty)} {j : Nat} {x : (tupT (concatT caps)).den} {vs : List Value} {bs : List Nat} {σ : St} {ι : Nat → Value} {N : Nat → Prop}, Sim F ι ok N σ a w → (∀ i, j ≤ i → ¬N i) → CapsRep w ok caps x vs bs → bs.Nodup → NewBs F ι σ bs →
    ∃ ι' N', More F ι ok N a w σ j caps.length bs ι' N' (addHp σ (entryPar.obs j caps x)) ∧ All2 (ptrAt ι' N') (entryPar.ids j caps) vs ∧ ∀ x ∈ capPins j vs, N' x.1 ∧ ι' x.1 = x.2
  | [], j, x, vs, bs, σ, ι, N, h, _, ⟨e1, e2⟩, _, _ => by
    subst e1; subst e2
    exact ⟨ι, N, ⟨h, fun i hi => ⟨hi, rfl⟩, fun i hi => .inl hi, fun i p hp => .inl hp⟩, trivial, fun x hx => by cases hx⟩
  | ts :: r, j, x, vs, bs, σ, ι, N, h, hN, ⟨v, vs', B, bs', e1, e2, hb, hr⟩, hn, hnew => by
    subst e1; subst e2
    have hn' : ([B] ++ bs').Nodup := hn
    obtain ⟨ι1, N1, m1, q1, q2⟩ := caps_in (caps := r) (j := j + 1) h (fun i hi => hN i (by omega)) hr (List.nodup_append.1 hn').2.1 (fun b hb' => hnew b (List.mem_cons_of_mem _ hb'))
    have hnj : ¬N1 j := fun hh => by
      rcases m1.ge j hh with h2 | h2
      · exact hN j (Nat.le_refl _) h2
      · omega
    have hbv : blk v = some B := by rw [hb.1]; rfl
    have hnb : NewBs F ι1 (addHp σ (entryPar.obs (j + 1) r (tsnd ts (concatT r) x))) (blk v).toList := fun b hm => by
      have hbB : b = B := by rw [hbv] at hm; simpa using hm
      subst hbB
      refine ⟨(hnew b (by simp)).1, fun i p hp hbi => ?_⟩
      rcases m1.bb i p hp with hh | hh
      · rw [(m1.old i (h.objs i p hh).1).2] at hbi
        exact (hnew b (by simp)).2 i p hh hbi
      · rw [List.nodup_append] at hn'
        exact hn'.2.2 b (by simp) b (hh b hbi) rfl
    have m2 := More.one m1.sim hnj (hb.obj (ι := upd ι1 j v) (N := plus N1 j)) hnb false
    refine ⟨upd ι1 j v, plus N1 j, ⟨m2.sim, fun i hi => ⟨le_plus _ (m1.old i hi).1, by rw [(m2.old i (m1.old i hi).1).2]; exact (m1.old i hi).2⟩, fun i hi => ?_, fun i p hp => ?_⟩, ⟨⟨plus_self, B, by rw [upd_same]; exact hb.1, hb.1⟩, ?_⟩, fun x hx => ?_⟩
    · rcases m2.ge i hi with hh | hh
      · rcases m1.ge i hh with h2 | h2
        · exact .inl h2
        · exact .inr ⟨by omega, by simp only [List.length_cons]; omega⟩
      · exact .inr ⟨by omega, by simp only [List.length_cons]; omega⟩
    · rcases m2.bb i p hp with hh | hh
      · rcases m1.bb i p hh with h2 | h2
        · exact .inl h2
        · refine .inr fun b hb' => ?_
          rw [(m2.old i (m1.sim.objs i p hh).1).2] at hb'
          exact List.mem_cons_of_mem _ (h2 b hb')
      · refine .inr fun b hb' => ?_
        have := hh b hb'
        rw [hbv] at this
        have : b = B := by simpa using this
        subst this; simp
    · exact All2.mono (fun _ _ hc => ptrAt.mono (fun i hi => (m2.old i hi).2) (fun i hi => (m2.old i hi).1) hc) q1
    · rcases List.mem_cons.1 hx with rfl | hx
      · exact ⟨plus_self, upd_same _ _ _⟩
      · obtain ⟨k1, k2⟩ := q2 x hx
        exact ⟨le_plus _ k1, by rw [(m2.old _ k1).2]; exact k2⟩

/-- One parameter. -/
theorem par_in {k : PK} {i : Nat} {x : (tupT (pkTs k)).den} {v : Value} {bs : List Nat} (h : Sim F ι ok N σ a w) (hN : Below N (16 * i)) (hv : ArgRep w ok k x v bs) (hn : bs.Nodup) (hnew : NewBs F ι σ bs) (hcap : ∀ f caps, k = .fn f caps → caps.length ≤ 16) :
    ∃ ι' N', More F ι ok N a w σ (16 * i) 16 bs ι' N' (addHp σ (entryPar i k x).2) ∧ RepAV w ok ι' N' (entryPar i k x).1 v ∧ ∀ y ∈ pinsFor i [k] [v], N' y.1 ∧ ι' y.1 = y.2 := by
  have hfr : ∀ j, 16 * i ≤ j → ¬N j := fun j hj hh => by have := hN j hh; omega
  have none : bs = [] → More F ι ok N a w σ (16 * i) 16 bs ι N (addHp σ []) := fun e => by
    subst e; exact ⟨h, fun i hi => ⟨hi, rfl⟩, fun i hi => .inl hi, fun i p hp => .inl hp⟩
  cases k with
  | val ag ts =>
    cases ag with
    | false =>
      obtain ⟨e, hr⟩ := hv
      refine ⟨ι, N, ?_, ?_, fun y hy => by cases hy⟩
      · exact none e
      · have hc := datCells_rep (ι := ι) (N := N) hr
        show RepAV w ok ι N (match datCells ts x with | [c] => .val (.one c) | _ => .val (.one .any)) v
        cases hd : datCells ts x with
        | nil => rw [hd] at hc; exact hc.elim
        | cons c l => cases l with
          | nil => rw [hd] at hc; exact hc.1
          | cons _ _ => rw [hd] at hc; exact hc.2.elim
    | true =>
      obtain ⟨e, us, hu, hr⟩ := hv
      exact ⟨ι, N, none e, ⟨us, hu, datCells_rep hr⟩, fun y hy => by cases hy⟩
  | own t =>
    obtain ⟨e, hr⟩ := hv
    subst e
    have m := More.one h (hfr _ (Nat.le_refl _)) (o := .arr t x false) hr hnew false
    refine ⟨upd ι (16 * i) v, plus N (16 * i), ⟨m.sim, m.old, fun j hj => (m.ge j hj).imp (fun h => h) (fun h => ⟨h.1, by omega⟩), m.bb⟩, ⟨plus_self, (upd_same _ _ _).symm, ?_⟩, fun y hy => by cases hy⟩
    obtain ⟨A, cap, e, _⟩ := hr
    exact ⟨_, _, _, e⟩
  | box ts =>
    obtain ⟨B, e, hr⟩ := hv
    subst e
    have hbv : (blk v).toList = [B] := by rw [hr.1]; rfl
    have m := More.one h (hfr _ (Nat.le_refl _)) (hr.obj (ι := upd ι (16 * i) v) (N := plus N (16 * i))) (by rw [hbv]; exact hnew) false
    rw [hbv] at m
    refine ⟨upd ι (16 * i) v, plus N (16 * i), ⟨m.sim, m.old, fun j hj => (m.ge j hj).imp (fun h => h) (fun h => ⟨h.1, by omega⟩), m.bb⟩, ⟨plus_self, B, by rw [upd_same]; exact hr.1, hr.1⟩, fun y hy => ?_⟩
    simp [pinsFor] at hy
    subst hy
    exact ⟨plus_self, upd_same _ _ _⟩
  | fn f caps =>
    obtain ⟨us, e, hr⟩ := hv
    subst e
    obtain ⟨ι', N', m, q1, q2⟩ := caps_in (j := 16 * i) h hfr hr hn hnew
    have hc := hcap f caps rfl
    refine ⟨ι', N', ⟨m.sim, m.old, fun j hj => (m.ge j hj).imp (fun h => h) (fun h => ⟨h.1, by omega⟩), m.bb⟩, ⟨us, rfl, q1⟩, fun y hy => ?_⟩
    simp [pinsFor] at hy
    exact q2 y hy
end
end Go.Abs

/- Abs, part Zc: functions. -/
namespace Go.Abs
section
variable {P : Program} {R : Type} {F : Fr} {ι : Nat → Value} {ok : Nat → Nat → Prop} {N : Nat → Prop} {σ σ0 : St} {a : Act} {w : World} {o : Oper} {r : R}

theorem entry_ok : ∀ {ks : List PK} {i : Nat} {p : (tupT (insL ks)).den} {vs : List Value} {bs : List Nat} {σ : St} {ι : Nat → Value} {N : Nat → Prop}, Sim F ι ok N σ a w → Below N (16 * i) → σ.nxt = 16 * i → ArgsRep w ok ks p vs bs → bs.Nodup → NewBs F ι σ bs → capsOk ks = true →
    (∀ j v, vs[j]? = some v → a.tmps.getD (i + j) undef = v) →
    ∃ ι' N', Sim F ι' ok N' (entry σ i ks p) a w ∧ Below N' (entry σ i ks p).nxt ∧ (∀ j, N j → N' j ∧ ι' j = ι j) ∧ ∀ y ∈ pinsFor i ks vs, N' y.1 ∧ ι' y.1 = y.2
  | [], i, p, vs, bs, σ, ι, N, h, hN, hx, ⟨e1, e2⟩, _, _, _, _ => by
    subst e1
    refine ⟨ι, N, h, ?_, fun j hj => ⟨hj, rfl⟩, fun y hy => by cases hy⟩
    show Below N σ.nxt
    rw [hx]; exact hN
  | k :: r, i, p, vs, bs, σ, ι, N, h, hN, hx, ⟨v, vs', b1, b2, e1, e2, hk, hr⟩, hn, hnew, hc, ht => by
    subst e1; subst e2
    have hcap : ∀ f caps, k = .fn f caps → caps.length ≤ 16 := fun f caps e => by
      subst e
      simp only [capsOk, Bool.and_eq_true] at hc
      exact Nat.le_of_ble_eq_true hc.1
    have hc2 : capsOk r = true := by cases k <;> simp_all [capsOk]
    obtain ⟨ι1, N1, m, q1, q2⟩ := par_in h hN hk (List.nodup_append.1 hn).1 (fun b hb => hnew b (List.mem_append_left _ hb)) hcap
    have hnext := NewBs.next h m hn hnew
    have hv0 : a.tmps.getD i undef = v := ht 0 v (by simp)
    let σ1 : St := { tm := (i, (entryPar i k (tfst (pkTs k) (insL r) p)).1) :: σ.tm, hp := app (entryPar i k (tfst (pkTs k) (insL r) p)).2 σ.hp, nxt := 16 * (i + 1), n := σ.n }
    have hs1 : Sim F ι1 ok N1 σ1 a w := (m.sim.refine (x := (entryPar i k (tfst (pkTs k) (insL r) p)).1) (d := i) (by rw [hv0]; exact q1)).congr (fun t => rfl) (fun t => rfl) rfl
    have hb1 : Below N1 (16 * (i + 1)) := fun j hj => by
      rcases m.ge j hj with hh | hh
      · have := hN j hh; omega
      · omega
    obtain ⟨ι2, N2, s1, s2, s3, s4⟩ := entry_ok (ks := r) (i := i + 1) (σ := σ1) hs1 hb1 rfl hr (List.nodup_append.1 hn).2.1 hnext hc2 (fun j u hj => by
      have := ht (j + 1) u (by simpa using hj)
      rw [← this]; congr 1; omega)
    refine ⟨ι2, N2, s1, s2, fun j hj => ⟨(s3 j (m.old j hj).1).1, by rw [(s3 j (m.old j hj).1).2]; exact (m.old j hj).2⟩, fun y hy => ?_⟩
    have hsplit : y ∈ pinsFor i [k] [v] ∨ y ∈ pinsFor (i + 1) r vs' := by
      cases k with
      | val ag ts => exact .inr (by simpa [pinsFor] using hy)
      | own t => exact .inr (by simpa [pinsFor] using hy)
      | box ts => simp [pinsFor] at hy ⊢; exact hy
      | fn f caps =>
        obtain ⟨us, e, _⟩ := hk
        subst e
        simp [pinsFor] at hy ⊢
        exact hy
    rcases hsplit with hy | hy
    · obtain ⟨k1, k2⟩ := q2 y hy
      exact ⟨(s3 _ k1).1, by rw [(s3 _ k1).2]; exact k2⟩
    · exact s4 y hy

/-! ### The results -/
def resF (tmps : Array Value) : ResultVar → Sem Value
  | .tmp t => pure (tmps.getD t undef)
  | .cell c t => do loadVar t (← asAddr (tmps.getD c undef))

theorem resGet_ok (h : Sim F ι ok N σ a w) : ∀ {rs : List ResultVar} {vs : List V1}, resGet P σ rs = some vs → ∃ us : List Value, (rs.mapM (resF a.tmps)).run P w = .ok us w ∧ All2 (RepV1 w ok ι N) vs us
  | [], vs, hg => by cases hg; exact ⟨[], by simp, trivial⟩
  | .tmp t :: r, vs, hg => by
    simp only [resGet] at hg
    split at hg
    · rename_i v l hv hl
      cases hg
      obtain ⟨us, h1, h2⟩ := resGet_ok h hl
      have ht := h.tms t
      rw [hv] at ht
      have hrun : (resF a.tmps (.tmp t)).run P w = .ok (a.tmps.getD t undef) w := by simp only [resF, Sem.run_pure]
      exact ⟨a.tmps.getD t undef :: us, by simp only [List.mapM_cons, Sem.run_bind, hrun, Result.andThen_ok, h1, Sem.run_pure], ⟨ht, h2⟩⟩
    · cases hg
  | .cell c t :: r, vs, hg => by
    simp only [resGet] at hg
    split at hg
    · rename_i v l hv hl
      cases hg
      obtain ⟨us, h1, h2⟩ := resGet_ok h hl
      obtain ⟨av, u, q1, q2, q3⟩ := aLoad_ok (P := P) h (h.tms c) hv
      cases q1
      have hrun : (resF a.tmps (.cell c t)).run P w = .ok u w := by
        unfold Instr.loadAt Instr.sureAddr at q2
        show (do loadVar t (← asAddr (a.tmps.getD c undef)) : Sem Value).run P w = .ok u w
        unfold asAddr
        generalize a.tmps.getD c undef = x at q2 ⊢
        cases x with
        | pointer A => cases A with
          | none => simp [stuck, Sem.run] at q2
          | some A => exact q2
        | _ => simp [stuck, Sem.run] at q2
      exact ⟨u :: us, by simp only [List.mapM_cons, Sem.run_bind, hrun, Result.andThen_ok, h1, Sem.run_pure], ⟨q3, h2⟩⟩
    · cases hg

theorem results_ok (h : Sim F ι ok N σ a w) {fn : Func} {vs : List V1} (hg : resGet P σ fn.results.toList = some vs) : ∃ us : List Value, (results fn a.tmps).run P w = .ok (tupV us) w ∧ All2 (RepV1 w ok ι N) vs us := by
  obtain ⟨us, h1, h2⟩ := resGet_ok h hg
  refine ⟨us, ?_, h2⟩
  have e : results fn a.tmps = (do let vs ← fn.results.mapM (resF a.tmps); pure (if h : vs.size = 1 then vs[0] else .tuple vs)) := by
    unfold results
    congr 1
  rw [e, Array.mapM_eq_mapM_toList, ← bind_pure_comp]
  simp only [Sem.run_bind, h1, Result.andThen_ok, Sem.run_pure]
  congr 1
  cases us with
  | nil => rfl
  | cons u us => cases us with
    | nil => rfl
    | cons _ _ => simp [tupV]
end
end Go.Abs

/- Abs, part Zd: the end of a function; functions. -/
namespace Go.Abs
section
variable {P : Program} {R : Type} {F : Fr} {ι : Nat → Value} {ok : Nat → Nat → Prop} {N : Nat → Prop} {σ σ0 : St} {a : Act} {w : World} {o : Oper} {r : R}

def Rvs : List (Bool × List CK) → List Value → List Value → Prop
  | [], [], flat => flat = []
  | (false, ks) :: r, u :: us, flat => ks.length = 1 ∧ ∃ f, flat = u :: f ∧ Rvs r us f
  | (true, ks) :: r, u :: us, flat => ∃ (c f : List Value), flat = c ++ f ∧ c.length = ks.length ∧ u = .agg c.toArray ∧ Rvs r us f
  | _, _, _ => False

theorem resCells_ok : ∀ {l : List (Bool × List CK)} {vs : List V1} {cs : List Cell} {us : List Value}, resCells l vs = some cs → All2 (RepV1 w ok ι N) vs us → ∃ flat, All2 (RepC w ok ι N) cs flat ∧ Rvs l us flat
  | [], [], cs, [], h, _ => by cases h; exact ⟨[], trivial, rfl⟩
  | [], [], _, _ :: _, _, hv => hv.elim
  | [], _ :: _, cs, _, h, _ => by simp [resCells] at h
  | _ :: _, [], cs, _, h, _ => by simp [resCells] at h
  | _ :: _, _ :: _, _, [], _, hv => hv.elim
  | (ag, ks) :: r, v :: vs, cs, u :: us, h, hv => by
    simp only [resCells] at h
    split at h
    · cases h
    · rename_i cs' hcs
      obtain ⟨flat, h1, h2⟩ := resCells_ok hcs hv.2
      have hu := hv.1
      split at h
      · rename_i c
        cases hb : Nat.beq ks.length 1 with
        | false => simp [hb] at h
        | true =>
          simp only [hb, cond_true] at h
          cases h
          exact ⟨u :: flat, ⟨hu, h1⟩, Nat.eq_of_beq_eq_true hb, flat, rfl, h2⟩
      · rename_i ds
        cases hb : Nat.beq ks.length ds.length with
        | false => simp [hb] at h
        | true =>
          simp only [hb, cond_true] at h
          cases h
          obtain ⟨c, e, hc⟩ := hu
          rw [app_eq]
          exact ⟨c ++ flat, All2.app hc h1, c, flat, rfl, by rw [← hc.len]; exact (Nat.eq_of_beq_eq_true hb).symm, e, h2⟩
      · cases h

theorem grab_cks (h : Sim F ι ok N σ a w) : ∀ {ks : List CK} {cs : List Cell} {vs : List Value} {p : (tupT (pay ks)).den}, grab σ ks cs = some p → All2 (RepC w ok ι N) cs vs → cstB ks = true →
    CksRep w ok ks p vs (bsOf ι (srcs ks cs)) ∧ ∀ id ∈ srcs ks cs, ∃ e ys m, σ.ob id = some (.arr e ys m)
  | [], [], [], _, _, _, _ => ⟨⟨rfl, rfl⟩, fun id hi => by cases hi⟩
  | [], [], _ :: _, _, _, hv, _ => hv.elim
  | [], _ :: _, _, _, hg, _, _ => by simp [grab] at hg
  | .cst c :: ks, [], _, _, hg, _, _ => by simp [grab] at hg
  | .dat t :: ks, [], _, _, hg, _, _ => by simp [grab] at hg
  | .own t g mu :: ks, [], _, _, hg, _, _ => by simp [grab] at hg
  | _ :: _, _ :: _, [], _, _, hv, _ => hv.elim
  | .cst c :: ks, d :: cs, v :: vs, p, hg, hv, hc => by
    simp only [grab] at hg
    have es : srcs (.cst c :: ks) (d :: cs) = srcs ks cs := by cases d <;> rfl
    rw [es]
    cases hb : c.same d with
    | false => simp [hb] at hg
    | true =>
      simp only [hb, cond_true] at hg
      have hc2 : cstB ks = true := by
        cases c with
        | fn f caps => cases caps <;> simp_all [cstB]
        | _ => simp_all [cstB]
      obtain ⟨q1, q2⟩ := grab_cks h (ks := ks) hg hv.2 hc2
      refine ⟨⟨v, vs, rfl, ?_, q1⟩, q2⟩
      cases c with
      | any => trivial
      | skip => cases d <;> simp [Cell.same] at hb; exact hv.1
      | nils => cases d <;> simp [Cell.same] at hb; exact hv.1
      | nilp => cases d <;> simp [Cell.same] at hb; exact hv.1
      | fn f caps =>
        cases caps with
        | cons _ _ => simp [cstB] at hc
        | nil =>
          cases d with
          | fn g ds =>
            simp [Cell.same] at hb
            obtain ⟨e1, e2⟩ := hb
            have e1 : f = g := e1
            subst e1
            subst e2
            obtain ⟨us, e, h1⟩ := hv.1
            cases us with
            | nil => exact ⟨[], e, trivial⟩
            | cons _ _ => exact h1.elim
          | _ => simp [Cell.same] at hb
      | _ => simp [cstB] at hc
  | .dat t :: ks, d :: cs, v :: vs, p, hg, hv, hc => by
    simp only [grab] at hg
    have es : srcs (.dat t :: ks) (d :: cs) = srcs ks cs := by cases d <;> rfl
    rw [es]
    split at hg
    · rename_i x hx
      split at hg
      · rename_i y hy
        cases hg
        obtain ⟨q1, q2⟩ := grab_cks h (ks := ks) hy hv.2 (by simpa [cstB] using hc)
        exact ⟨⟨v, vs, rfl, by rw [thd_tcons]; exact h.toDatS hx hv.1, by rw [ttl_tcons]; exact q1⟩, q2⟩
      · cases hg
    · cases hg
  | .own t g mu :: ks, d :: cs, v :: vs, p, hg, hv, hc => by
    simp only [grab] at hg
    split at hg
    · rename_i x hx
      split at hg
      · rename_i y hy
        cases hg
        obtain ⟨q1, q2⟩ := grab_cks h (ks := ks) hy hv.2 (by simpa [cstB] using hc)
        obtain ⟨g1, g2⟩ := toOwn_obj h hx hv.1
        rcases g2 with ⟨e, id, rfl, e2, e3, e4⟩ | ⟨rfl, e2, e3⟩
        · refine ⟨⟨v, vs, bsOf ι (srcs ks cs), rfl, ?_, ?_, by rw [ttl_tcons]; exact q1⟩, fun i hi => ?_⟩
          · show bsOf ι (id :: srcs ks cs) = _
            rw [e2]; rfl
          · rw [thd_tcons]; exact e4
          · rcases List.mem_cons.1 (show i ∈ id :: srcs ks cs from hi) with rfl | hi
            · exact e3
            · exact q2 i hi
        · refine ⟨⟨v, vs, bsOf ι (srcs ks cs), rfl, by rw [e2]; rfl, ?_, by rw [ttl_tcons]; exact q1⟩, fun i hi => q2 i hi⟩
          rw [thd_tcons, e3]
          exact ⟨none, 0, e2, Nat.le_refl _, Nat.zero_le _, .inl ⟨rfl, rfl, rfl⟩⟩
      · cases hg
    · cases hg

theorem srcs_cut : ∀ (ks more : List CK) (cs : List Cell), ks.length ≤ cs.length → srcs (ks ++ more) cs = srcs ks (cs.take ks.length) ++ srcs more (cs.drop ks.length)
  | [], more, cs, _ => by simp [srcs]
  | .cst c :: ks, more, [], h => by simp at h
  | .dat t :: ks, more, [], h => by simp at h
  | .own t g mu :: ks, more, [], h => by simp at h
  | .cst c :: ks, more, d :: cs, h => by
    have ih := srcs_cut ks more cs (by simpa using h)
    cases d <;> simp [srcs, ih]
  | .dat t :: ks, more, d :: cs, h => by
    have ih := srcs_cut ks more cs (by simpa using h)
    cases d <;> simp [srcs, ih]
  | .own t g mu :: ks, more, d :: cs, h => by
    have ih := srcs_cut ks more cs (by simpa using h)
    cases d <;> simp [srcs, ih]

theorem grabRes_ok (h : Sim F ι ok N σ a w) : ∀ {l : List (Bool × List CK)} {cs : List Cell} {us flat : List Value} {x : (tupT (resTs l)).den}, grabRes σ l cs = some x → All2 (RepC w ok ι N) cs flat → Rvs l us flat → resCst l = true →
    ResRep w ok l x us (bsOf ι (srcs (resCks l) cs)) ∧ ∀ id ∈ srcs (resCks l) cs, ∃ e ys m, σ.ob id = some (.arr e ys m)
  | [], [], us, flat, x, hg, hv, hr, hc => by
    cases us with
    | nil => exact ⟨⟨rfl, rfl⟩, fun id hi => by cases hi⟩
    | cons _ _ => exact hr.elim
  | [], _ :: _, us, flat, x, hg, _, _, _ => by simp [grabRes] at hg
  | (ag, ks) :: r, cs, us, flat, x, hg, hv, hr, hc => by
    simp only [grabRes] at hg
    simp only [resCst, Bool.and_eq_true] at hc
    split at hg
    · rename_i y hy
      split at hg
      · rename_i z hz
        cases hg
        have hl := grab_len hy
        have hle : ks.length ≤ cs.length := by rw [List.length_take] at hl; omega
        have es : srcs (resCks ((ag, ks) :: r)) cs = srcs ks (cs.take ks.length) ++ srcs (resCks r) (cs.drop ks.length) := by
          rw [resCks, app_eq, srcs_cut _ _ _ hle]
        rw [es]
        have hv1 := hv.take ks.length
        have hv2 := hv.drop ks.length
        cases us with
        | nil => cases ag <;> exact hr.elim
        | cons u us =>
          have key : ∃ c f, flat.take ks.length = c ∧ flat.drop ks.length = f ∧ Rvs r us f ∧ ∀ bs, CksRep w ok ks y c bs → V1Rep w ok ag ks y u bs := by
            cases ag with
            | false =>
              obtain ⟨hk, f, rfl, h2⟩ := hr
              refine ⟨[u], f, by rw [hk]; rfl, by rw [hk]; rfl, h2, fun bs hb => ⟨hk, hb⟩⟩
            | true =>
              obtain ⟨c, f, rfl, hk, e, h2⟩ := hr
              refine ⟨c, f, by rw [← hk, List.take_left' rfl], by rw [← hk, List.drop_left' rfl], h2, fun bs hb => ⟨c, e, hb⟩⟩
          obtain ⟨c, f, e1, e2, e3, e4⟩ := key
          rw [e1] at hv1
          rw [e2] at hv2
          obtain ⟨q1, q2⟩ := grab_cks h hy hv1 hc.1
          obtain ⟨q3, q4⟩ := grabRes_ok h (l := r) hz hv2 e3 hc.2
          refine ⟨⟨u, us, bsOf ι (srcs ks (cs.take ks.length)), bsOf ι (srcs (resCks r) (cs.drop ks.length)), rfl, by simp [bsOf], by rw [tfst_tapp]; exact e4 _ q1, by rw [tsnd_tapp]; exact q3⟩, fun id hi => ?_⟩
          rcases List.mem_append.1 hi with hi | hi
          · exact q2 id hi
          · exact q4 id hi
      · cases hg
    · cases hg

/-! ### The boxes -/
theorem box_out (h : Sim F ι ok N σ a w) {j : Nat} {v : Value} (hj : ι j = v) {cs : List Cell} {ts : List Ty} {x : (tupT ts).den} (hc : boxCells σ j = some cs) (hg : grabTs σ ts cs = some x) : ∃ B, BoxRep w ok ts x v B ∧ blk v = some B ∧ ∃ id ds, σ.ob id = some (.box ds) ∧ blk (ι id) = some B := by
  obtain ⟨B, hB, hr⟩ := boxRep h hc hg
  rw [hj] at hr
  exact ⟨B, hr, by rw [← hj]; exact hB, j, cs, boxCells_some hc, hB⟩

theorem caps_out (h : Sim F ι ok N σ a w) : ∀ {caps : List (List Ty)} {j : Nat} {x : (tupT (concatT caps)).den} {us : List Value}, grabCaps σ caps (entryPar.ids j caps) = some x → us.length = caps.length → (∀ y ∈ capPins j us, ι y.1 = y.2) →
    CapsOut w ok caps x us ∧ ∀ v ∈ us, ∀ b, blk v = some b → ∃ id ds, σ.ob id = some (.box ds) ∧ blk (ι id) = some b
  | [], j, x, us, hg, hl, _ => by
    have : us = [] := List.length_eq_zero_iff.1 hl
    subst this
    exact ⟨rfl, fun v hv => by cases hv⟩
  | ts :: r, j, x, [], hg, hl, _ => by simp at hl
  | ts :: r, j, x, u :: us, hg, hl, hp => by
    simp only [entryPar.ids, grabCaps] at hg
    simp only [show Nat.beq 0 0 = true from rfl, cond_true] at hg
    split at hg
    · rename_i cs hcs
      split at hg
      · rename_i y hy
        split at hg
        · rename_i z hz
          cases hg
          obtain ⟨q1, q2⟩ := caps_out h (caps := r) hz (by simpa using hl) (fun y hy => hp y (by simp [capPins, hy]))
          obtain ⟨B, k1, k2, k3⟩ := box_out h (hp (j, u) (by simp [capPins])) hcs hy
          refine ⟨⟨u, us, B, rfl, by rw [tfst_tapp]; exact k1, by rw [tsnd_tapp]; exact q1⟩, fun v hv b hb => ?_⟩
          rcases List.mem_cons.1 hv with rfl | hv
          · rw [k2] at hb; cases hb; exact k3
          · exact q2 v hv b hb
        · cases hg
      · cases hg
    · cases hg

theorem CapsRep.len {w : World} {ok : Nat → Nat → Prop} : ∀ {caps : List (List Ty)} {x : (tupT (concatT caps)).den} {us : List Value} {bs : List Nat}, CapsRep w ok caps x us bs → us.length = caps.length
  | [], _, _, _, ⟨e, _⟩ => by rw [e]; rfl
  | ts :: r, _, _, _, ⟨v, vs', B, bs', e, _, _, h⟩ => by rw [e, List.length_cons, List.length_cons, CapsRep.len h]

theorem outs_ok (h : Sim F ι ok N σ a w) {w0 : World} {ok0 : Nat → Nat → Prop} : ∀ {ks : List PK} {i : Nat} {y : (tupT (outsP ks)).den} {p : (tupT (insL ks)).den} {vs : List Value} {bs : List Nat}, outsGet σ i ks = some y → ArgsRep w0 ok0 ks p vs bs → (∀ x ∈ pinsFor i ks vs, ι x.1 = x.2) →
    OutsRep w ok ks y vs ∧ ∀ b ∈ boxBs ks vs, ∃ id ds, σ.ob id = some (.box ds) ∧ blk (ι id) = some b
  | [], i, y, p, vs, bs, hg, ⟨e, _⟩, hp => by subst e; exact ⟨rfl, fun b hb => by cases hb⟩
  | .val ag ts :: r, i, y, p, vs, bs, hg, ⟨v, vs', b1, b2, e, _, _, hr⟩, hp => by
    subst e
    obtain ⟨q1, q2⟩ := outs_ok h (ks := r) (i := i + 1) hg hr (fun x hx => hp x (by simpa [pinsFor] using hx))
    exact ⟨⟨v, vs', rfl, q1⟩, fun b hb => q2 b (by simpa [boxBs] using hb)⟩
  | .own t :: r, i, y, p, vs, bs, hg, ⟨v, vs', b1, b2, e, _, _, hr⟩, hp => by
    subst e
    obtain ⟨q1, q2⟩ := outs_ok h (ks := r) (i := i + 1) hg hr (fun x hx => hp x (by simpa [pinsFor] using hx))
    exact ⟨⟨v, vs', rfl, q1⟩, fun b hb => q2 b (by simpa [boxBs] using hb)⟩
  | .box ts :: r, i, y, p, vs, bs, hg, ⟨v, vs', b1, b2, e, _, _, hr⟩, hp => by
    subst e
    simp only [outsGet] at hg
    split at hg
    · rename_i cs hcs
      split at hg
      · rename_i x hx
        split at hg
        · rename_i z hz
          cases hg
          obtain ⟨q1, q2⟩ := outs_ok h (ks := r) (i := i + 1) hz hr (fun x hx => hp x (by simp [pinsFor, hx]))
          obtain ⟨B, k1, k2, k3⟩ := box_out h (hp (16 * i, v) (by simp [pinsFor])) hcs hx
          refine ⟨⟨v, vs', B, rfl, by rw [tfst_tapp]; exact k1, by rw [tsnd_tapp]; exact q1⟩, fun b hb => ?_⟩
          simp only [boxBs, k2, Option.toList_some, List.singleton_append, List.mem_cons] at hb
          rcases hb with rfl | hb
          · exact k3
          · exact q2 b hb
        · cases hg
      · cases hg
    · cases hg
  | .fn f caps :: r, i, y, p, vs, bs, hg, ⟨v, vs', b1, b2, e, _, ⟨us, ev, hc⟩, hr⟩, hp => by
    subst e
    subst ev
    simp only [outsGet] at hg
    split at hg
    · rename_i x hx
      split at hg
      · rename_i z hz
        cases hg
        obtain ⟨q1, q2⟩ := outs_ok h (ks := r) (i := i + 1) hz hr (fun x hx => hp x (by simp [pinsFor, hx]))
        obtain ⟨k1, k2⟩ := caps_out h hx hc.len (fun x hx => hp x (by simp [pinsFor, hx]))
        refine ⟨⟨us, vs', _, rfl, rfl, by rw [tfst_tapp]; exact k1, by rw [tsnd_tapp]; exact q1⟩, fun b hb => ?_⟩
        simp only [boxBs, List.mem_append, List.mem_flatMap] at hb
        rcases hb with ⟨v, hv, hb⟩ | hb
        · exact k2 v (by simpa using hv) b (by simpa using hb)
        · exact q2 b hb
      · cases hg
    · cases hg

theorem finish_ok {w0 : World} {bs : List Nat} {ok0 : Nat → Nat → Prop} {sig : Sig} {p : sig.ins.den} {args : List Value} (hargs : ArgsRep w0 ok0 sig.pars p args bs) (h : Sim ⟨w0, bs, ok0, pinsFor 0 sig.pars args⟩ ι ok N σ a w) {fn : Func} {rr : sig.outs.den}
    (hf : finish P sig fn.results.toList σ = some rr) (hcst : resCst sig.res = true) : ∃ v, (results fn a.tmps).run P w = .ok v w ∧ ∃ ok' vs rbs, After w0 bs ok0 sig args rr v w ok' vs rbs := by
  unfold finish at hf
  split at hf
  · cases hf
  · rename_i vs hvs
    obtain ⟨us, r1, r2⟩ := results_ok h hvs
    split at hf
    · cases hf
    · rename_i cs hcs
      obtain ⟨flat, c1, c2⟩ := resCells_ok hcs r2
      obtain ⟨ok1, h1, l1⟩ := h.freezeCk (resCks sig.res) cs
      obtain ⟨ok2, h2, l2⟩ := Sim.freeze (lentCells σ 0 sig.pars) h1
      simp only at hf
      cases hb : nodupB (srcs (resCks sig.res) cs) with
      | false => rw [hb] at hf; cases hf
      | true =>
        rw [hb] at hf
        simp only [cond_true] at hf
        have hb := (nodupB_iff _).1 hb
        split at hf
        · rename_i x y hx hy
          cases hf
          have c1 : All2 (RepC w ok2 ι N) cs flat := All2.mono (fun _ _ hc => RepC.mono (ext_ok (fun b j hk => l2 b j (l1 b j hk))) (fun _ _ => rfl) (fun _ h => h) hc) c1
          obtain ⟨g1, g2⟩ := grabRes_ok h2 hx c1 c2 hcst
          obtain ⟨o1, o2⟩ := outs_ok h2 hy hargs (fun x hx => (h2.pins x hx).2)
          refine ⟨_, r1, ok2, us, bsOf ι (srcs (resCks sig.res) cs), rfl, ⟨h2.keep.size, h2.keep.old, h2.keep.os, h2.keep.tape, h2.keep.output, h2.keep.kept, h2.keep.new⟩, h2.oks, by rw [tfst_tapp]; exact g1, by rw [tsnd_tapp]; exact o1,
            h2.nodup hb (fun id hi => by obtain ⟨e, ys, m, hh⟩ := g2 id hi; exact ⟨_, hh⟩), fun b hbm => ?_⟩
          simp only [bsOf, List.mem_flatMap] at hbm
          obtain ⟨id, hid, hbi⟩ := hbm
          have hbi : blk (ι id) = some b := by simpa using hbi
          obtain ⟨e, ys, m, hh⟩ := g2 id hid
          refine ⟨(h2.objs id _ hh).2.2 b hbi, fun hbx => ?_⟩
          obtain ⟨id2, ds, hh2, hb2⟩ := o2 b hbx
          refine h2.apart id id2 _ _ b hh hh2 (fun e => ?_) hbi hb2
          subst e
          rw [hh] at hh2; cases hh2
        · cases hf

theorem ArgsRep.len {w : World} {ok : Nat → Nat → Prop} : ∀ {ks : List PK} {x : (tupT (insL ks)).den} {vs : List Value} {bs : List Nat}, ArgsRep w ok ks x vs bs → vs.length = ks.length
  | [], _, _, _, ⟨e, _⟩ => by rw [e]; rfl
  | k :: r, _, _, _, ⟨v, vs', b1, b2, e, _, _, h⟩ => by rw [e, List.length_cons, List.length_cons, ArgsRep.len h]

/-- A function's summary is sound. -/
theorem absF_sound {Γ : List Summ} (hΓ : ∀ S ∈ Γ, Sound P S) (hmix : P.follows .mixedOrders = true) {ann : List (Nat × Ann)} {sig : Sig} {f : FuncId} {fn : Func} {g : Fu → sig.ins.den → Option sig.outs.den}
    (hf : P.funcs[f]? = some fn) (hname : (fn.name == "runtime.NumGoroutine") = false) (heq : ∀ m p, absF P Γ ann sig fn m p = g m p) : Sound P ⟨f, sig, g⟩ := by
  intro m p rr hg w ok args bs hargs hnd hoks
  have hg : absF P Γ ann sig fn m p = some rr := by rw [heq]; exact hg
  unfold absF at hg
  split at hg
  · cases hg
  · rename_i c hbody
    cases hc : Nat.ble sig.pars.length fn.ntmps && capsOk sig.pars && resCst sig.res with
    | false => rw [hc] at hg; cases hg
    | true =>
      rw [hc] at hg
      simp only [Bool.not_true, cond_false] at hg
      simp only [Bool.and_eq_true] at hc
      obtain ⟨⟨c1, c2⟩, c3⟩ := hc
      have c1 := Nat.le_of_ble_eq_true c1
      have hlen : args.length = sig.pars.length := hargs.len
      have hrun : (callFunc f args.toArray).run P w = .ok (.enter f args.toArray) w := by
        have hn : ¬ fn.name = "runtime.NumGoroutine" := by simpa using hname
        simp [callFunc, hf, hn, hbody]
      unfold Ends
      dsimp only
      rw [hrun]
      dsimp only
      refine calls_of_wp hf hbody ?_
      let a0 : Act := { tmps := args.toArray ++ Array.replicate (fn.ntmps - args.toArray.size) undef, defers := [] }
      have h0 : Sim ⟨w, bs, ok, []⟩ noι ok noN (⟨[], [], 0, fn.ntmps⟩ : St) a0 w := by
        refine ⟨fun t => trivial, (fun id o ho => by cases ho), (fun i j o p b hi => by cases hi), hoks, ⟨Nat.le_refl _, fun _ _ _ => rfl, rfl, rfl, rfl, fun b o hk => ⟨hk, rfl⟩, fun b o hk => .inl hk⟩, ?_, rfl, (fun x hx => by cases hx)⟩
        simp [a0]; omega
      obtain ⟨ι1, N1, s1, s2, s3, s4⟩ := entry_ok (ks := sig.pars) (i := 0) (p := p) h0 (fun i hi => hi.elim) rfl hargs hnd (fun b hb => ⟨.inr hb, fun i q hq => by cases hq⟩) c2 (fun j v hj => by
        rw [Nat.zero_add, Array.getD_eq_getD_getElem?]
        show ((args.toArray ++ Array.replicate (fn.ntmps - args.toArray.size) undef)[j]?).getD undef = v
        have hlt : j < args.length := by
          rcases Nat.lt_or_ge j args.length with h | h
          · exact h
          · rw [List.getElem?_eq_none h] at hj; cases hj
        rw [Array.getElem?_append_left (by simpa using hlt)]
        simp [hj])
      have s1' : Sim ⟨w, bs, ok, pinsFor 0 sig.pars args⟩ ι1 ok N1 (entry ⟨[], [], 0, fn.ntmps⟩ 0 sig.pars p) a0 w :=
        ⟨s1.tms, s1.objs, s1.apart, s1.oks, ⟨s1.keep.size, s1.keep.old, s1.keep.os, s1.keep.tape, s1.keep.output, s1.keep.kept, s1.keep.new⟩, s1.size, s1.defs, s4⟩
      refine exec_ok hΓ hmix c 1 _ ι1 ok N1 _ a0 w _ rr s1' s2 hg _ (fun e σ' a' w' ι' ok' N' t1 t2 t3 t4 => ?_)
      cases e with
      | exit i => cases t4
      | normal =>
        obtain ⟨v, hv, hA⟩ := finish_ok hargs t1 t4 c3
        exact ⟨t1.defs, v, hv, v, rfl, hA⟩
      | ret =>
        obtain ⟨v, hv, hA⟩ := finish_ok hargs t1 t4 c3
        exact ⟨t1.defs, v, hv, v, rfl, hA⟩
end
end Go.Abs

/- Abs, part La: what is handed in reads as data: from the form's reading to ours; a law whose function answers true. -/
namespace Go.Abs

/-! ## Types that are read -/
def fldTy (rd : TypeId → Option Ty) (co : TypeId → Nat) : Nat → List Field → Option Ty
  | _, [] => some .un
  | off, [f] => match rd f.type with
    | some u => bif Nat.beq f.offset off && Nat.beq (co f.type) u.sz then some u else none
    | none => none
  | off, f :: g :: r => match rd f.type with
    | some u => bif Nat.beq f.offset off && Nat.beq (co f.type) u.sz then match fldTy rd co (off + u.sz) (g :: r) with
        | some v => some (.pr u v)
        | none => none
      else none
    | none => none

def rdTy (P : Program) : Nat → TypeId → Option Ty
  | 0, _ => none
  | n + 1, t => match P.underlying t with
    | some (.int k) => some (.int k)
    | some .bool => some .bool
    | some .string => some .str
    | some (.slice e) => match rdTy P n e with
      | some u => bif Nat.beq (P.cellsOf e) u.sz && Nat.blt 0 u.sz && Nat.blt 0 (P.bytesOf e) then some (.sl u) else none
      | none => none
    | some (.struct fs) => match fldTy (rdTy P n) P.cellsOf 0 fs.toList with
      | some u => bif Nat.beq (P.cellsOf t) u.sz then some u else none
      | none => none
    | _ => none

def flat : Ty → List Ty
  | .pr a b => flat a ++ flat b
  | .un => []
  | t => [t]

def tysBeq : List Ty → List Ty → Bool
  | [], [] => true
  | a :: r, b :: s => a.beq b && tysBeq r s
  | _, _ => false
theorem tysBeq_eq : ∀ {a b : List Ty}, tysBeq a b = true → a = b
  | [], [], _ => rfl
  | a :: r, b :: s, h => by
    simp only [tysBeq, Bool.and_eq_true] at h
    rw [Ty.eq_of_beq h.1, tysBeq_eq h.2]
  | [], _ :: _, h => by cases h
  | _ :: _, [], h => by cases h

/-! ## Well-formed data -/
def Ty.wf : (t : Ty) → t.den → Prop
  | .int k, n => k.wrap n = n
  | .bool, _ => True
  | .str, l => (∀ c ∈ (l : List Int), 0 ≤ c ∧ c < 256) ∧ List.length (α := Int) l ≤ big
  | .sl e, xs => (∀ x ∈ (xs : List e.den), e.wf x) ∧ List.length (α := e.den) xs ≤ big
  | .pr a b, x => a.wf x.1 ∧ b.wf x.2
  | .un, _ => True

theorem bytesOf_range (s : ByteArray) : ∀ c ∈ bytesOf s, 0 ≤ c ∧ c < 256 := by
  intro c hc
  simp only [bytesOf, List.mem_map] at hc
  obtain ⟨b, _, rfl⟩ := hc
  have := b.toNat_lt
  omega

theorem Reps.all {α : Type} {R : α → List Value → Prop} {Q : α → Prop} (h : ∀ x us, R x us → Q x) : ∀ {xs : List α} {us : List Value}, Reps R xs us → ∀ x ∈ xs, Q x
  | [], _, _, x, hx => by cases hx
  | y :: r, us, ⟨v1, v2, _, h1, h2⟩, x, hx => by
    rcases List.mem_cons.1 hx with rfl | hx
    · exact h _ _ h1
    · exact Reps.all h h2 x hx

theorem RepD.wf {w : World} {ok : Nat → Nat → Prop} : ∀ {t : Ty} {x : t.den} {vs : List Value}, RepD w ok t x vs → t.wf x := by
  intro t
  induction t with
  | int k => intro x vs h; exact h.2
  | bool => intro x vs h; trivial
  | str => intro x vs h; obtain ⟨s, _, rfl, h2⟩ := h; exact ⟨bytesOf_range s, h2⟩
  | sl e ih =>
    intro x vs h
    obtain ⟨a, c, _, _, h2, h3⟩ := h
    refine ⟨fun y hy => ?_, h2⟩
    rcases h3 with rfl | ⟨b, o, _, us, hr, _⟩
    · cases hy
    · exact Reps.all (fun _ _ h => ih h) hr y hy
  | pr a b iha ihb => intro x vs h; obtain ⟨v1, v2, _, h1, h2⟩ := h; exact ⟨iha h1, ihb h2⟩
  | un => intro x vs h; trivial

def wfTs : (ts : List Ty) → (tupT ts).den → Prop
  | [], _ => True
  | t :: r, x => t.wf (thd t r x) ∧ wfTs r (ttl t r x)
theorem RepTs.wf {w : World} {ok : Nat → Nat → Prop} : ∀ {ts : List Ty} {x : (tupT ts).den} {vs : List Value}, RepTs w ok ts x vs → wfTs ts x
  | [], _, _, _ => trivial
  | _ :: _, _, _, ⟨_, _, _, h1, h2⟩ => ⟨h1.wf, h2.wf⟩

def wfIns : (ks : List PK) → (tupT (insL ks)).den → Prop
  | [], _ => True
  | k :: r, x => wfTs (pkTs k) (tfst (pkTs k) (insL r) x) ∧ wfIns r (tsnd (pkTs k) (insL r) x)

/-! ## Reading -/
section
variable {H : Type} {enc : TypeId × Value → H} {P : Program} {W : World} {sp : Nat → Bool} {held : Bool}

/-- All old memory may be read. -/
def oldOk (W : World) : Nat → Nat → Prop := fun b _ => b < W.heap.size

def Light (P : Program) (t : TypeId) (d : DataW H) : Prop := ∀ n ∈ d.weights P t, n ≤ reachBytes

theorem light_all {e : TypeId} : ∀ {l : List (DataW H)}, (∀ n ∈ DataW.weightsAll P e l, n ≤ reachBytes) → ∀ d ∈ l, Light P e d
  | [], _, d, hd => by cases hd
  | x :: r, h, d, hd => by
    rcases List.mem_cons.1 hd with rfl | hd
    · exact fun n hn => h n (by simp [DataW.weightsAll, hn])
    · exact light_all (fun n hn => h n (by simp [DataW.weightsAll, hn])) d hd

theorem light_each : ∀ {ts : List TypeId} {l : List (DataW H)}, (∀ n ∈ DataW.weightsEach P ts l, n ≤ reachBytes) → ∀ (i : Nat) (t : TypeId) (d : DataW H), ts[i]? = some t → l[i]? = some d → Light P t d
  | [], _, _, i, t, d, ht, _ => by simp at ht
  | _ :: _, [], _, i, t, d, _, hd => by simp at hd
  | u :: us, x :: r, h, i, t, d, ht, hd => by
    cases i with
    | zero => cases ht; cases hd; exact fun n hn => h n (by simp [DataW.weightsEach, hn])
    | succ j => exact light_each (ts := us) (l := r) (fun n hn => h n (by simp [DataW.weightsEach, hn])) j t d (by simpa using ht) (by simpa using hd)

theorem add_block (a : Addr) (k : Nat) : (a.add k).block = a.block := by unfold Addr.add; split <;> rfl
theorem add_off (a : Addr) (k : Nat) : (a.add k).off = a.off + k := by
  unfold Addr.add
  split
  · rename_i h; have : k = 0 := by simpa using h
    subst this; rfl
  · rfl
theorem add_zero (a : Addr) : a.add 0 = a := by simp [Addr.add]
theorem add_spot {a : Addr} (h : a.spot = none) (k : Nat) : (a.add k).spot = none := by unfold Addr.add; split <;> first | exact h | rfl
theorem add_eq {a : Addr} (h : a.spot = none) (k : Nat) : a.add k = ⟨a.block, a.off + k, none⟩ := by
  have h1 := add_block a k
  have h2 := add_off a k
  have h3 := add_spot h k
  cases hh : a.add k
  rw [hh] at h1 h2 h3
  simp_all

theorem cells_at {a : Addr} {n : Nat} {cs : List Value} (h : W.cells? 0 a n = some cs) (hn : 0 < n) : a.spot = none ∧ At W a.block a.off cs ∧ a.block < W.heap.size ∧ cs.length = n := by
  obtain ⟨_, hl, hc⟩ := World.cells?_some h
  have h0 := hc 0 hn
  obtain ⟨c0, hc0⟩ : ∃ c0, cs[0]? = some c0 := by
    cases cs with
    | nil => simp at hl; omega
    | cons c _ => exact ⟨c, rfl⟩
  have hs : a.spot = none := by
    rw [hc0] at h0
    cases hsp : a.spot with
    | none => rfl
    | some x =>
      exfalso
      rw [add_zero] at h0
      unfold World.cell? at h0
      rw [hsp] at h0
      split at h0 <;> simp at h0
  refine ⟨hs, fun j v hv => ?_, World.cells?_block h hn, hl⟩
  have hj : j < n := by
    rcases Nat.lt_or_ge j cs.length with g | g
    · omega
    · rw [List.getElem?_eq_none g] at hv; cases hv
  have := hc j hj
  rw [hv] at this
  rw [add_eq hs] at this
  exact this

def Pieces (P : Program) (W : World) (n : Nat) (t : TypeId) (u : Ty) : Prop :=
  ∀ (fuel : Nat) (cs : List Value) (x : DataW H × List MemPlace), DataW.trod enc P W 0 sp held fuel t cs = some x → Light P t x.1 → ∃ d, RepD W (oldOk W) u d cs

theorem fld_rep {rd : TypeId → Option Ty} (hrd : ∀ t u, rd t = some u → ∀ (fuel : Nat) (cs : List Value) (x : DataW H × List MemPlace), DataW.trod enc P W 0 sp held fuel t cs = some x → Light P t x.1 → ∃ d, RepD W (oldOk W) u d cs) :
    ∀ {fs : List Field} {off : Nat} {u : Ty} {cs : List Value} {xs : List (DataW H × List MemPlace)} {n : Nat}, fldTy rd P.cellsOf off fs = some u → cs.length = off + u.sz →
      (∀ (i : Nat) (f : Field), fs[i]? = some f → DataW.trod enc P W 0 sp held n f.type ((cs.drop f.offset).take (P.cellsOf f.type)) = xs[i]?) → xs.length = fs.length →
      (∀ (i : Nat) (t : TypeId) (d : DataW H), (fs.map (·.type))[i]? = some t → (xs.map (·.1))[i]? = some d → Light P t d) → ∃ d, RepD W (oldOk W) u d (cs.drop off) := by
  intro fs
  induction fs with
  | nil =>
    intro off u cs xs n h hl _ _ _
    cases h
    exact ⟨(), by simp only [RepD]; exact List.drop_eq_nil_of_le (by simp [Ty.sz] at hl; omega)⟩
  | cons f r ih =>
    intro off u cs xs n h hl hp hx hw
    cases xs with
    | nil => simp at hx
    | cons y ys =>
      have h0 := hp 0 f rfl
      simp only [List.getElem?_cons_zero] at h0
      cases r with
      | nil =>
        simp only [fldTy] at h
        split at h
        · rename_i v hv
          cases hb : Nat.beq f.offset off && Nat.beq (P.cellsOf f.type) v.sz with
          | false => simp [hb] at h
          | true =>
            simp only [hb, cond_true] at h
            cases h
            rw [Bool.and_eq_true] at hb
            have e1 := Nat.eq_of_beq_eq_true hb.1
            have e2 := Nat.eq_of_beq_eq_true hb.2
            rw [e1, e2, List.take_of_length_le (by simp; omega)] at h0
            exact hrd _ _ hv _ _ _ h0 (hw 0 _ _ rfl rfl)
        · cases h
      | cons g r =>
        simp only [fldTy] at h
        split at h
        · rename_i v hv
          cases hb : Nat.beq f.offset off && Nat.beq (P.cellsOf f.type) v.sz with
          | false => simp [hb] at h
          | true =>
            simp only [hb, cond_true] at h
            split at h
            · rename_i v2 hv2
              cases h
              rw [Bool.and_eq_true] at hb
              have e1 := Nat.eq_of_beq_eq_true hb.1
              have e2 := Nat.eq_of_beq_eq_true hb.2
              rw [e1, e2] at h0
              obtain ⟨d1, g1⟩ := hrd _ _ hv _ _ _ h0 (hw 0 _ _ rfl rfl)
              have hl2 : cs.length = off + v.sz + v2.sz := by simp only [Ty.sz] at hl; omega
              obtain ⟨d2, g2⟩ := ih (off := off + v.sz) (xs := ys) hv2 hl2 (fun i f' hf => by simpa using hp (i + 1) f' (by simpa using hf)) (by simpa using hx)
                (fun i t d ht hd => hw (i + 1) t d (by simpa using ht) (by simpa using hd))
              refine ⟨(d1, d2), (cs.drop off).take v.sz, cs.drop (off + v.sz), ?_, g1, g2⟩
              rw [← List.drop_drop]
              exact (List.take_append_drop _ _).symm
            · cases h
        · cases h

theorem els_rep {e : TypeId} {u : Ty} {n : Nat} {a : Addr} (hsz : P.cellsOf e = u.sz) (hpos : 0 < u.sz)
    (hrd : ∀ (cs : List Value) (x : DataW H × List MemPlace), DataW.trod enc P W 0 sp held n e cs = some x → Light P e x.1 → ∃ d, RepD W (oldOk W) u d cs) :
    ∀ (l : List (DataW H × List MemPlace)) (k : Nat), (∀ i, i < l.length → (W.cells? 0 (a.add ((k + i) * P.cellsOf e)) (P.cellsOf e)).bind (DataW.trod enc P W 0 sp held n e) = l[i]?) → (∀ d ∈ l.map (·.1), Light P e d) →
      ∃ (xs : List u.den) (us : List Value), xs.length = l.length ∧ Reps (fun x us => RepD W (oldOk W) u x us) xs us ∧ At W a.block (a.off + k * u.sz) us ∧ (k = 0 → l ≠ [] → a.spot = none ∧ a.block < W.heap.size) := by
  intro l
  induction l with
  | nil => intro k _ _; exact ⟨[], [], rfl, rfl, (fun j v hv => by simp at hv), fun _ h => absurd rfl h⟩
  | cons y ys ih =>
    intro k hel hw
    have h0 := hel 0 (by simp)
    simp only [Nat.add_zero, List.getElem?_cons_zero] at h0
    obtain ⟨cs, hc, ht⟩ := Option.bind_eq_some_iff.1 h0
    obtain ⟨c1, c2, c3, c4⟩ := cells_at hc (by omega)
    obtain ⟨d, hd⟩ := hrd _ _ ht (hw _ (by simp))
    obtain ⟨xs, us, g1, g2, g3, g4⟩ := ih (k + 1) (fun i hi => by
      have := hel (i + 1) (by simpa using hi)
      rw [show k + 1 + i = k + (i + 1) from by omega]
      simpa using this) (fun d hd => hw d (by simp [hd]))
    refine ⟨d :: xs, cs ++ us, by simp [g1], ⟨cs, us, rfl, hd, g2⟩, ?_, fun k0 _ => ⟨by subst k0; rw [Nat.zero_mul, add_zero] at c1; exact c1, by rw [add_block] at c3; exact c3⟩⟩
    intro j v hv
    rcases Nat.lt_or_ge j cs.length with hj | hj
    · rw [List.getElem?_append_left hj] at hv
      have := c2 j v hv
      rw [add_block, add_off, hsz] at this
      exact this
    · rw [List.getElem?_append_right hj] at hv
      have := g3 _ v hv
      rw [show a.off + k * u.sz + j = a.off + (k + 1) * u.sz + (j - cs.length) from by rw [c4, hsz] at hj ⊢; rw [Nat.add_mul]; omega]
      exact this

theorem trod_rep : ∀ {n : Nat} {t : TypeId} {u : Ty}, rdTy P n t = some u → ∀ (fuel : Nat) (cs : List Value) (x : DataW H × List MemPlace), DataW.trod enc P W 0 sp held fuel t cs = some x → Light P t x.1 → ∃ d, RepD W (oldOk W) u d cs := by
  intro n
  induction n with
  | zero => intro t u h; cases h
  | succ n ih =>
    intro t u h fuel cs x hx hl
    simp only [rdTy] at h
    split at h
    · rename_i k hu
      cases h
      obtain ⟨m, rfl, _, hw⟩ := DataW.trod_int hu hx
      refine ⟨m, rfl, ?_⟩
      simp only [Lit.wf, Bool.and_eq_true, decide_eq_true_eq] at hw
      exact (in_iff k m).2 hw
    · rename_i hu
      cases h
      obtain ⟨b, rfl, _⟩ := DataW.trod_bool hu hx
      exact ⟨b, rfl⟩
    · rename_i hu
      cases h
      obtain ⟨s, rfl, rfl, hs⟩ := DataW.trod_string hu hx
      refine ⟨bytesOf s, s, rfl, rfl, ?_⟩
      have := hl s.data.toList.length (by simp [DataW.weights])
      have e : (bytesOf s).length = s.data.toList.length := by simp [bytesOf]
      rw [e]
      unfold big; unfold reachBytes at this; omega
    · rename_i e hu
      split at h
      · rename_i v hv
        cases hb : Nat.beq (P.cellsOf e) v.sz && Nat.blt 0 v.sz && Nat.blt 0 (P.bytesOf e) with
        | false => simp [hb] at h
        | true =>
          simp only [hb, cond_true] at h
          cases h
          simp only [Bool.and_eq_true] at hb
          obtain ⟨⟨hb1, hb2⟩, hb3⟩ := hb
          have e1 := Nat.eq_of_beq_eq_true hb1
          have e2 := Nat.le_of_ble_eq_true hb2
          have e3 := Nat.le_of_ble_eq_true hb3
          rcases DataW.trod_slice hu hx with ⟨rfl, rfl⟩ | ⟨a, len, cap, elems, rest, m, rfl, rfl, rfl, _, hle, _, hlen, hel, _, _⟩
          · exact ⟨[], none, 0, rfl, Nat.zero_le _, by simp, .inl rfl⟩
          · have hw1 : (elems.length + rest.length) * P.bytesOf e ≤ reachBytes := by
              have := hl ((elems.length + rest.length) * P.bytesOf e) (by simp [DataW.weights, hu])
              simpa using this
            have hw2 : ∀ d ∈ elems.map (·.1), Light P e d := light_all (fun k hk => hl k (by simp [DataW.weights, hu, hk]))
            obtain ⟨xs, us, g1, g2, g3, g4⟩ := els_rep (a := a) e1 e2 (fun cs x hx hw => ih hv m cs x hx hw) elems 0 (fun i hi => by rw [Nat.zero_add]; exact hel i (by omega)) hw2
            have hbig : xs.length ≤ big := by
              have : elems.length ≤ (elems.length + rest.length) * P.bytesOf e := by
                calc elems.length ≤ elems.length + rest.length := by omega
                  _ = (elems.length + rest.length) * 1 := by omega
                  _ ≤ _ := Nat.mul_le_mul_left _ e3
              unfold big; unfold reachBytes at hw1; omega
            refine ⟨xs, some a, cap, by rw [g1, hlen], by rw [g1, hlen]; exact hle, hbig, ?_⟩
            by_cases he : elems = []
            · subst he; left; exact List.length_eq_zero_iff.1 g1
            · right
              obtain ⟨q1, q2⟩ := g4 rfl he
              refine ⟨a.block, a.off, by cases a; simp_all, us, g2, by simpa using g3, fun j _ => q2⟩
      · cases h
    · rename_i fs hu
      split at h
      · rename_i v hv
        cases hb : Nat.beq (P.cellsOf t) v.sz with
        | false => simp [hb] at h
        | true =>
          simp only [hb, cond_true] at h
          cases h
          have e1 := Nat.eq_of_beq_eq_true hb
          obtain ⟨xs, m, rfl, rfl, hlen, hxs, hf⟩ := DataW.trod_struct hu hx
          have := fld_rep (P := P) (W := W) (sp := sp) (held := held) (enc := enc) (rd := rdTy P n) (fun t u h => ih h) (off := 0) (xs := xs) (n := m) hv (by rw [hlen, e1]; omega)
            (fun i f hi => hf i f (by simpa using hi)) (by simpa using hxs) (light_each (fun k hk => hl k (by simpa [DataW.weights, hu] using hk)))
          simpa using this
      · cases h
    · cases h

theorem flat_rep : ∀ {u : Ty} {d : u.den} {cs : List Value} {ts : List Ty} {ok : Nat → Nat → Prop} {y : (tupT ts).den} {cs' : List Value}, RepD W ok u d cs → RepTs W ok ts y cs' → ∀ L, L = flat u ++ ts → ∃ x, RepTs W ok L x (cs ++ cs') := by
  intro u
  have one : ∀ {u : Ty} {d : u.den} {cs : List Value} {ts : List Ty} {ok : Nat → Nat → Prop} {y : (tupT ts).den} {cs' : List Value}, cs.length = 1 → RepD W ok u d cs → RepTs W ok ts y cs' → ∀ L, L = u :: ts → ∃ x, RepTs W ok L x (cs ++ cs') := by
    rintro u d cs ts ok y cs' h1 h h' L rfl
    match cs, h1 with
    | [c], _ => exact ⟨tcons u ts d y, c, cs', rfl, by rw [thd_tcons]; exact h, by rw [ttl_tcons]; exact h'⟩
  induction u with
  | pr a b iha ihb =>
    intro d cs ts ok y cs' h h' L hL
    obtain ⟨v1, v2, rfl, h1, h2⟩ := h
    obtain ⟨x2, g2⟩ := ihb h2 h' _ rfl
    obtain ⟨x1, g1⟩ := iha h1 g2 L (by rw [hL]; simp [flat])
    exact ⟨x1, by rw [List.append_assoc]; exact g1⟩
  | un =>
    intro d cs ts ok y cs' h h' L hL
    cases (show cs = [] from h)
    subst hL
    exact ⟨y, h'⟩
  | int k => intro d cs ts ok y cs' h h' L hL; exact one (by rw [h.1]; rfl) h h' L hL
  | bool => intro d cs ts ok y cs' h h' L hL; exact one (by rw [show cs = _ from h]; rfl) h h' L hL
  | str => intro d cs ts ok y cs' h h' L hL; exact one (by obtain ⟨s, rfl, _⟩ := h; rfl) h h' L hL
  | sl e _ => intro d cs ts ok y cs' h h' L hL; exact one (by obtain ⟨a, c, rfl, _⟩ := h; rfl) h h' L hL

/-! ## Arguments -/
def argOk (P : Program) : List TypeId → List PK → Bool
  | [], [] => true
  | t :: ts, .val ag us :: ks => (match rdTy P tyD t with
      | some u => tysBeq (flat u) us && (match P.underlying t with
        | some (.struct _) => ag
        | some (.int _) | some .bool | some .string | some (.slice _) => !ag
        | _ => false)
      | none => false) && argOk P ts ks
  | _, _ => false

theorem arg_rep {t : TypeId} {v : Value} {d : DataW H} {p : List MemPlace} {u : Ty} {ag : Bool} (hu : rdTy P tyD t = some u)
    (hag : (match P.underlying t with
        | some (.struct _) => ag
        | some (.int _) | some .bool | some .string | some (.slice _) => !ag
        | _ => false) = true)
    (h : DataW.Trod enc P W 0 sp held t v d p) {base : Nat} (hv : Value.okWide P W .any base t v) (hl : Light P t d) : ∃ x, ArgRep W (oldOk W) (.val ag (flat u)) x v [] := by
  obtain ⟨fuel, hf⟩ := h
  obtain ⟨y, hy⟩ := trod_rep hu _ _ _ hf hl
  obtain ⟨x, hx⟩ := flat_rep (ts := []) (y := ()) (cs' := []) hy (show RepTs W (oldOk W) [] () [] from rfl) (flat u) (List.append_nil _).symm
  rw [List.append_nil] at hx
  unfold Value.okWide at hv
  have fin : ag = false → v.cells = #[v] → ∃ x, ArgRep W (oldOk W) (.val ag (flat u)) x v [] := fun e1 e2 => by
    subst e1
    rw [e2] at hx
    exact ⟨x, rfl, hx⟩
  split at hag
  · rename_i fs hs
    simp only [hs] at hv
    obtain ⟨cs, rfl, _⟩ := hv
    subst hag
    exact ⟨x, rfl, cs.toList, by simp, hx⟩
  all_goals first
    | (rename_i hs; simp only [hs] at hv; exact fin (by simpa using hag) (by cases v <;> first | rfl | simp [Cell.okWide, Cell.ok, hs] at hv))
    | cases hag

theorem args_rep : ∀ {ts : List TypeId} {ks : List PK} {vs : List Value} {ds : List (DataW H)} {p : List MemPlace} {base : Nat}, argOk P ts ks = true → DataW.TrodAll enc P W 0 sp held ts vs ds p →
    (∀ (j : Nat) t v, ts[j]? = some t → vs[j]? = some v → Value.okWide P W .any base t v) → (∀ n ∈ DataW.weightsEach P ts ds, n ≤ reachBytes) → ∃ x, ArgsRep W (oldOk W) ks x vs []
  | [], [], vs, ds, p, base, _, h, _, _ => by
    cases vs with
    | nil => exact ⟨(), rfl, rfl⟩
    | cons _ _ => cases ds <;> exact h.elim
  | [], _ :: _, _, _, _, _, h, _, _, _ => by cases h
  | _ :: _, [], _, _, _, _, h, _, _, _ => by simp [argOk] at h
  | t :: ts, k :: ks, vs, ds, p, base, hk, h, hv, hl => by
    cases vs with
    | nil => cases ds <;> exact h.elim
    | cons v vs =>
      cases ds with
      | nil => exact h.elim
      | cons d ds =>
        obtain ⟨p1, q1, h1, h2, _⟩ := h
        cases k with
        | val ag us =>
          simp only [argOk, Bool.and_eq_true] at hk
          obtain ⟨hk1, hk2⟩ := hk
          split at hk1
          · rename_i u hu
            rw [Bool.and_eq_true] at hk1
            have e := tysBeq_eq hk1.1
            subst e
            obtain ⟨x, hx⟩ := arg_rep hu hk1.2 h1 (hv 0 t v rfl rfl) (fun n hn => hl n (by simp [DataW.weightsEach, hn]))
            obtain ⟨y, hy⟩ := args_rep (base := base) hk2 h2 (fun j t' v' ht hv' => hv (j + 1) t' v' (by simpa using ht) (by simpa using hv')) (fun n hn => hl n (by simp [DataW.weightsEach, hn]))
            refine ⟨tapp (flat u) (insL ks) x y, v, vs, [], [], rfl, rfl, ?_, ?_⟩
            · show ArgRep W (oldOk W) (.val ag (flat u)) (tfst (flat u) (insL ks) (tapp (flat u) (insL ks) x y)) v []
              rw [tfst_tapp]; exact hx
            · show ArgsRep W (oldOk W) ks (tsnd (flat u) (insL ks) (tapp (flat u) (insL ks) x y)) vs []
              rw [tsnd_tapp]; exact hy
          · cases hk1
        | own t => simp [argOk] at hk
        | box ts => simp [argOk] at hk
        | fn f c => simp [argOk] at hk

theorem ArgsRep.wf {w : World} {ok : Nat → Nat → Prop} : ∀ {ks : List PK} {ts : List TypeId}, argOk P ts ks = true → ∀ {x : (tupT (insL ks)).den} {vs : List Value} {bs : List Nat}, ArgsRep w ok ks x vs bs → wfIns ks x
  | [], _, _, _, _, _, _ => trivial
  | .val ag us :: ks, [], h, _, _, _, _ => by cases h
  | .val ag us :: ks, t :: ts, h, x, vs, bs, ⟨v, vs', b1, b2, _, _, h1, h2⟩ => by
    simp only [argOk, Bool.and_eq_true] at h
    refine ⟨?_, ArgsRep.wf (ts := ts) h.2 h2⟩
    cases ag with
    | false => exact h1.2.wf
    | true => obtain ⟨_, vs, _, h1⟩ := h1; exact h1.wf
  | .own _ :: _, ts, h, _, _, _, _ => by cases ts <;> simp [argOk] at h
  | .box _ :: _, ts, h, _, _, _, _ => by cases ts <;> simp [argOk] at h
  | .fn _ _ :: _, ts, h, _, _, _, _ => by cases ts <;> simp [argOk] at h
end
end Go.Abs

/- Abs, part Lb: a law whose function answers true, as the form says it. -/
namespace Go.Abs
open Go.ChangeShapes Go.WideShapes Go.ChangeAt Go.RowKit
section
variable {H : Type} {enc : TypeId × Value → H} {P : Program}

theorem all_nil : ∀ S ∈ ([] : List Summ), Sound P S := fun S h => by cases h
theorem all_cons {S : Summ} {l : List Summ} (h : Sound P S) (t : ∀ S ∈ l, Sound P S) : ∀ T ∈ S :: l, Sound P T := fun T hT => by
  rcases List.mem_cons.1 hT with rfl | hT
  · exact h
  · exact t T hT

def rowsOk (P : Program) : List TypeId → Bool
  | [] => true
  | t :: r => P.readableRec t && Nat.blt t P.types.size && rowsOk P r

theorem trodAll_below (hl : laidOutB P = true) {W W' : World} (hb : Go.RowKit.Below W.heap.size W W') : ∀ {ts : List TypeId} {vs : List Value} {ds : List (DataW H)} {p : List MemPlace}, rowsOk P ts = true →
    DataW.TrodAll enc P W 0 (fun _ => true) true ts vs ds p → DataW.TrodAll enc P W' 0 (fun b => decide (b < W.heap.size)) true ts vs ds p
  | [], [], [], _, _, h => h
  | [], _ :: _, _, _, _, h => by cases ‹List (DataW H)› <;> exact h.elim
  | [], [], _ :: _, _, _, h => h.elim
  | _ :: _, [], _, _, _, h => by cases ‹List (DataW H)› <;> exact h.elim
  | _ :: _, _ :: _, [], _, _, h => h.elim
  | t :: ts, v :: vs, d :: ds, p, hr, ⟨p1, q1, h1, h2, e⟩ => by
    simp only [rowsOk, Bool.and_eq_true] at hr
    have lt : ∀ x ∈ p1, x.block < W.heap.size := by obtain ⟨m, hm⟩ := h1; exact DataW.trod_lt m _ _ _ hm
    exact ⟨p1, q1, Go.RowKit.Below.trod hl hr.1.1 (Nat.le_of_ble_eq_true hr.1.2) h1 hb lt, trodAll_below hl hb hr.2 h2, e⟩

theorem trodAll_len {W : World} {b : Nat} {sp : Nat → Bool} {hd : Bool} : ∀ {ts : List TypeId} {vs : List Value} {ds : List (DataW H)} {p : List MemPlace}, DataW.TrodAll enc P W b sp hd ts vs ds p → ds.length = ts.length
  | [], [], [], _, _ => rfl
  | [], _ :: _, _, _, h => by cases ‹List (DataW H)› <;> exact h.elim
  | [], [], _ :: _, _, h => h.elim
  | _ :: _, [], _, _, h => by cases ‹List (DataW H)› <;> exact h.elim
  | _ :: _, _ :: _, [], _, h => h.elim
  | t :: ts, v :: vs, d :: ds, p, ⟨p1, q1, h1, h2, e⟩ => by simp [trodAll_len h2]

theorem weightsEach_app : ∀ {ts : List TypeId} {ds : List (DataW H)} {us : List TypeId} {es : List (DataW H)}, ds.length = ts.length → DataW.weightsEach P (ts ++ us) (ds ++ es) = DataW.weightsEach P ts ds ++ DataW.weightsEach P us es
  | [], [], us, es, _ => by simp [DataW.weightsEach]
  | t :: ts, d :: ds, us, es, h => by
    have := weightsEach_app (ts := ts) (ds := ds) (us := us) (es := es) (by simpa using h)
    simp [DataW.weightsEach, this]
  | [], _ :: _, _, _, h => by simp at h
  | _ :: _, [], _, _, h => by simp at h

theorem law_lifted {C : Checked} {os : Os} {f : FuncId} {fn : Func} {s : ChangeSpec} {conds : List PathCond} {pars : List PK} {tb : TypeId}
    {F : Fu → (tupT (insL pars)).den → Option (tupT (app [Ty.bool] (outsP pars))).den}
    (own : ownKnob C.prog.godebug = none) (started : os.Started) (noInit : C.prog.inits.idxOf? f = none) (hfn : C.prog.funcs[f]? = some fn)
    (witness : ∃ (w : World) (tape : Tape) (i : Input), w.os = os ∧ (w.forCall tape i).Shaped C.prog ∧ i.vars = [] ∧ Input.okWide C.prog (w.forCall tape i) .any w.heap.size f i ∧
      s.pre6 enc C.prog fn conds false (w.forCall tape i).memory i.args ∧ ({} : Assume).holds C.prog (lone (Frame.enter C.prog f i.args .normal) [] (w.forCall tape i)))
    (hbody : fn.body.isSome = true) (hname : (fn.name == "runtime.NumGoroutine") = false)
    (laidOut : laidOutB C.prog = true) (hrows : rowsOk C.prog fn.params.toList = true) (hargs : argOk C.prog fn.params.toList pars = true)
    (hres : fn.resultTypes = #[tb]) (hb : C.prog.underlying tb = some .bool) (hvars : s.vars = [])
    (hs : ∀ (H : Type) (ds : List (DataW H)), ds.length = fn.params.toList.length → s.fn H ds = { results := [.lit (.bool true)], args := ds })
    (hS : Sound C.prog ⟨f, ⟨pars, [(false, [.dat .bool])]⟩, F⟩)
    (hF : ∀ p, wfIns pars p → ∃ m r, F m p = some r ∧ tfst [Ty.bool] (outsP pars) r = true) :
    ReturnsInHanded {} C os f .any (s.pre6 enc C.prog fn conds false) (s.post enc C.prog fn false true false false) := by
  obtain ⟨body, hbody⟩ := Option.isSome_iff_exists.1 hbody
  refine returnsInHanded_of_change_sized own started noInit hfn witness ?_
  intro W base args ds gs before hval hW hcnd hsz _
  have hW' := hW
  obtain ⟨p, q, hA, hV, rfl, hfz, hnd⟩ := hW
  rw [hvars] at hV
  obtain ⟨rfl, rfl⟩ := trodVars_none hV
  have hlen := trodAll_len hA
  have hwe : ∀ n ∈ DataW.weightsEach C.prog fn.params.toList ds, n ≤ reachBytes := by
    rw [weightsEach_app hlen] at hsz
    intro n hn
    have := List.all_eq_true.1 hsz n (by simp [hn])
    simpa using this
  obtain ⟨x, hx⟩ := args_rep (base := base) hargs hA (fun j t v ht hv => hval j t v (by simpa using ht) (by simpa using hv)) hwe
  obtain ⟨m, r, hr1, hr2⟩ := hF x (ArgsRep.wf hargs hx)
  have hE := hS m x r hr1 W (oldOk W) args.toList [] hx List.nodup_nil (fun b o h => h)
  have hrun : (callFunc f args.toList.toArray).run C.prog W = .ok (.enter f args) W := by
    have hn : ¬ fn.name = "runtime.NumGoroutine" := by simpa using hname
    simp [callFunc, hfn, hn, hbody]
  unfold Ends at hE
  dsimp only at hE
  rw [hrun] at hE
  dsimp only at hE
  refine hE.mono fun e W' he => ?_
  obtain ⟨v, rfl, ok', vs, rbs, hAf⟩ := he
  have bel : Go.RowKit.Below W.heap.size W W' := ⟨hAf.keep.os, hAf.keep.tape, hAf.keep.output, hAf.keep.size, fun k hk => hAf.keep.old k hk (by simp)⟩
  have hv : v = .bool true := by
    have h1 := hAf.res
    obtain ⟨v0, vs', b1, b2, rfl, _, h3, h4⟩ := h1
    obtain ⟨rfl, _⟩ := (show vs' = [] ∧ b2 = [] from h4)
    obtain ⟨_, u, us, e, h5, h6⟩ := h3
    simp only [List.cons.injEq] at e
    obtain ⟨rfl, rfl⟩ := e
    have h7 : [v0] = [Value.bool (tfst [Ty.bool] (outsP pars) r)] := h5
    rw [hr2] at h7
    simp only [List.cons.injEq, and_true] at h7
    rw [hAf.val, h7]; rfl
  subst hv
  refine ⟨_, rfl, ds, [], p ++ [], [], p, [], hW', ?_, ?_, ?_, ?_, ?_⟩
  · rw [List.append_nil, hs H ds hlen, hres]
    exact trodAll_mk1 (shut_bool hb _)
  · rw [List.append_nil, hs H ds hlen]
    exact trodAll_below laidOut bel hrows hA
  · rw [hvars, List.append_nil, hs H ds hlen]
    rfl
  · exact bel.frame _
  · intro h; cases h
end
end Go.Abs

/- Abs, part Pa: plain words on the printed functions: rounds, wraps. -/
namespace Go.Abs

/-- Rounds enough for whatever a machine may hold. -/
def N0 : Nat := 1180591620717411303424
@[reducible] def mx : Fu := some N0

section
variable {A R : Type}
theorem iterN_next {f : A → Option (Step A R)} {a b : A} {n : Nat} (h : f a = some (.next b)) : iterN f (n + 1) a = iterN f n b := by simp [iterN, h]
theorem iterN_fin {f : A → Option (Step A R)} {a : A} {r : R} {n : Nat} (h : f a = some (.fin r)) : iterN f (n + 1) a = some r := by simp [iterN, h]

theorem iterN_inv {f : A → Option (Step A R)} {I : A → Prop} (μ : A → Nat) {Q : R → Prop}
    (h : ∀ a, I a → (∃ b, f a = some (.next b) ∧ I b ∧ μ b < μ a) ∨ (∃ r, f a = some (.fin r) ∧ Q r)) : ∀ (n : Nat) (a : A), I a → μ a < n → ∃ r, iterN f n a = some r ∧ Q r
  | 0, a, _, hm => by omega
  | n + 1, a, ha, hm => by
    rcases h a ha with ⟨b, h1, h2, h3⟩ | ⟨r, h1, h2⟩
    · rw [iterN_next h1]; exact iterN_inv μ h n b h2 (by omega)
    · exact ⟨r, iterN_fin h1, h2⟩

/-- Rounds: an invariant and a measure. -/
theorem iter_inv {f : A → Option (Step A R)} (I : A → Prop) (μ : A → Nat) (Q : R → Prop) (a : A) (ha : I a) (hm : μ a < N0)
    (h : ∀ a, I a → (∃ b, f a = some (.next b) ∧ I b ∧ μ b < μ a) ∨ (∃ r, f a = some (.fin r) ∧ Q r)) : ∃ r, iter mx f a = some r ∧ Q r :=
  iterN_inv μ h N0 a ha hm

theorem iterN_count {f : A → Option (Step A R)} (s : Nat → A) {r : R} : ∀ (n i fuel : Nat), (∀ k, i ≤ k → k < i + n → f (s k) = some (.next (s (k + 1)))) → f (s (i + n)) = some (.fin r) → n < fuel → iterN f fuel (s i) = some r
  | 0, i, fuel, _, h, hf => by
    obtain ⟨m, rfl⟩ : ∃ m, fuel = m + 1 := ⟨fuel - 1, by omega⟩
    exact iterN_fin h
  | n + 1, i, fuel, hs, h, hf => by
    obtain ⟨m, rfl⟩ : ∃ m, fuel = m + 1 := ⟨fuel - 1, by omega⟩
    rw [iterN_next (hs i (Nat.le_refl _) (by omega))]
    exact iterN_count s n (i + 1) m (fun k h1 h2 => hs k (by omega) (by omega)) (by rw [show i + 1 + n = i + (n + 1) from by omega]; exact h) (by omega)

/-- Rounds whose states are known, up to the one that ends. -/
theorem iter_count {f : A → Option (Step A R)} (s : Nat → A) (n : Nat) {r : R} (hn : n < N0) (hs : ∀ k, k < n → f (s k) = some (.next (s (k + 1)))) (h : f (s n) = some (.fin r)) : iter mx f (s 0) = some r :=
  iterN_count s n 0 N0 (fun k _ h2 => hs k (by omega)) (by rw [Nat.zero_add]; exact h) hn

theorem lt_N0 {n : Nat} (h : n ≤ 1000000000000000000) : n < N0 := by unfold N0; omega
end

/-! ## Wraps -/
theorem w64 {n : Int} (h1 : -9223372036854775808 ≤ n) (h2 : n ≤ 9223372036854775807) : IntKind.i64.wrap n = n := IntWalk.i64_in n ⟨h1, h2⟩
theorem wu64 {n : Int} (h1 : 0 ≤ n) (h2 : n ≤ 18446744073709551615) : IntKind.u64.wrap n = n := IntWalk.u64_in n ⟨h1, h2⟩
theorem wu8 {n : Int} (h1 : 0 ≤ n) (h2 : n ≤ 255) : IntKind.u8.wrap n = n := IntWalk.u8_in n ⟨h1, h2⟩
theorem wu16 {n : Int} (h1 : 0 ≤ n) (h2 : n ≤ 65535) : IntKind.u16.wrap n = n := IntWalk.u16_in n ⟨h1, h2⟩
theorem wu32 {n : Int} (h1 : 0 ≤ n) (h2 : n ≤ 4294967295) : IntKind.u32.wrap n = n := IntWalk.u32_in n ⟨h1, h2⟩
theorem wf64 {n : Int} (h : Ty.wf (.int .i64) n) : -9223372036854775808 ≤ n ∧ n ≤ 9223372036854775807 := by
  have : IntKind.i64.wrap n = n := h
  rw [IntKind.wrap_i64] at this; omega
theorem wfu64 {n : Int} (h : Ty.wf (.int .u64) n) : 0 ≤ n ∧ n ≤ 18446744073709551615 := by
  have : IntKind.u64.wrap n = n := h
  rw [IntKind.wrap_u64] at this; omega
theorem wfu16 {n : Int} (h : Ty.wf (.int .u16) n) : 0 ≤ n ∧ n ≤ 65535 := by
  have := (in_iff .u16 n).1 h
  have h1 : IntKind.u16.min = 0 := rfl
  have h2 : IntKind.u16.max = 65535 := rfl
  omega
theorem wfu32 {n : Int} (h : Ty.wf (.int .u32) n) : 0 ≤ n ∧ n ≤ 4294967295 := by
  have : IntKind.u32.wrap n = n := h
  rw [IntKind.wrap_u32] at this; omega
theorem wfu8 {n : Int} (h : Ty.wf (.int .u8) n) : 0 ≤ n ∧ n ≤ 255 := by
  have : IntKind.u8.wrap n = n := h
  rw [IntKind.wrap_u8] at this; omega

theorem cond_dec {α : Type} (p : Prop) [Decidable p] (a b : α) : (bif decide p then a else b) = if p then a else b := by by_cases h : p <;> simp [h]
theorem getD_some {α : Type} {l : List α} {i : Nat} (h : i < l.length) (d : α) : l.getD i d = l[i] := by simp [List.getD_eq_getElem?_getD, h]

end Go.Abs
namespace Go.Abs
section
variable {α : Type}
theorem bif_and (a b : Bool) : (bif a then some b else some false) = some (a && b) := by cases a <;> rfl
theorem bif_or (a b : Bool) : (bif a then some true else some b) = some (a || b) := by cases a <;> rfl
theorem bif_or' (a b : Bool) : (bif a then some a else some b) = some (a || b) := by cases a <;> rfl
theorem bif_andN (a : Bool) (b : Bool) : (bif a then some false else some b) = some (!a && b) := by cases a <;> rfl
theorem bif_some (a : Bool) (x y : α) : (bif a then some x else some y) = some (bif a then x else y) := by cases a <;> rfl
theorem len_toInt (n : Nat) : (n : Int) ≤ 140737488355328 → IntKind.i64.wrap (n : Int) = n := fun h => w64 (by omega) (by omega)
end
end Go.Abs
namespace Go.Abs
/-! ## Sums, first places -/
def sumTo (g : Nat → Int) : Nat → Int
  | 0 => 0
  | k + 1 => sumTo g k + g k
theorem sumTo_congr {g h : Nat → Int} : ∀ (k : Nat), (∀ i, i < k → g i = h i) → sumTo g k = sumTo h k
  | 0, _ => rfl
  | k + 1, hh => by simp only [sumTo]; rw [sumTo_congr k (fun i hi => hh i (by omega)), hh k (by omega)]
theorem sumTo_bd {g : Nat → Int} {c : Int} : ∀ (k : Nat), (∀ i, i < k → 0 ≤ g i ∧ g i ≤ c) → 0 ≤ sumTo g k ∧ sumTo g k ≤ c * k
  | 0, _ => by simp [sumTo]
  | k + 1, hh => by
    have h1 := sumTo_bd k (fun i hi => hh i (by omega))
    have h2 := hh k (by omega)
    have e : c * ((k + 1 : Nat) : Int) = c * (k : Int) + c := by rw [Int.natCast_add, Int.mul_add]; simp
    simp only [sumTo]
    rw [e]
    omega
theorem sumTo_mono {g : Nat → Int} {k n : Nat} (h : ∀ i, i < n → 0 ≤ g i) (hk : k ≤ n) : sumTo g k ≤ sumTo g n := by
  induction n with
  | zero => have : k = 0 := by omega
            subst this; exact Int.le_refl _
  | succ n ih =>
    by_cases e : k = n + 1
    · subst e; exact Int.le_refl _
    · have := ih (fun i hi => h i (by omega)) (by omega)
      have h2 := h n (by omega)
      simp only [sumTo]; omega
/-- All but one. -/
theorem sumTo_but {g h : Nat → Int} {t : Nat} : ∀ (k : Nat), (∀ i, i < k → i ≠ t → g i = h i) → g t = 0 → sumTo h k = sumTo g k + (if t < k then h t else 0)
  | 0, _, _ => by simp [sumTo]
  | k + 1, hh, h0 => by
    have ih := sumTo_but k (fun i hi hne => hh i (by omega) hne) h0
    simp only [sumTo]
    rw [ih]
    by_cases e : k = t
    · subst e; simp [h0]
    · have := hh k (by omega) e
      by_cases h1 : t < k
      · rw [if_pos h1, if_pos (by omega)]; omega
      · rw [if_neg h1, if_neg (by omega)]; omega

theorem first_bad (P : Nat → Prop) [DecidablePred P] : ∀ (n : Nat), (∀ k, k < n → P k) ∨ ∃ k, k < n ∧ ¬P k ∧ ∀ j, j < k → P j
  | 0 => .inl fun k hk => absurd hk (Nat.not_lt_zero k)
  | n + 1 => by
    rcases first_bad P n with h | ⟨k, h1, h2, h3⟩
    · by_cases hn : P n
      · left
        intro k hk
        by_cases e : k = n
        · subst e; exact hn
        · exact h k (by omega)
      · exact .inr ⟨n, by omega, hn, h⟩
    · exact .inr ⟨k, by omega, h2, h3⟩

theorem gset_self {α : Type} {l : List α} {i : Nat} {x d : α} (h : i < l.length) : (l.set i x).getD i d = x := by simp [List.getD_eq_getElem?_getD, h]
theorem gset_ne {α : Type} {l : List α} {i j : Nat} {x d : α} (h : i ≠ j) : (l.set i x).getD j d = l.getD j d := by simp [List.getD_eq_getElem?_getD, List.getElem?_set_ne h]
theorem getD_lt {α : Type} {l : List α} {i : Nat} {d : α} (h : i < l.length) : l.getD i d ∈ l := by rw [getD_some h]; exact List.getElem_mem h
theorem nat_lt {a b : Nat} : decide ((a : Int) < (b : Int)) = decide (a < b) := by simp
end Go.Abs

