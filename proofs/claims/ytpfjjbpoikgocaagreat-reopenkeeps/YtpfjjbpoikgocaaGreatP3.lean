/- Part 3 of the proof. -/
import Derived.Test.YtpfjjbpoikgocaaGreatP2
import Derived.Scope
import Derived.ProofKit
import Derived.OpenShut
import Derived.ChangeArms
import Derived.SizedLaws
import Derived.ChangeSame
import Derived.ChangeOld
import Derived.JoinedOf
import Derived.LaidMore
import Derived.Stop.Joined
import Derived.MakeChecks
import Derived.Lib.TrailingZeros
noncomputable section
namespace Go.Abs
section
variable {P : Program} {R : Type} {σ τ : St} {o : Oper} {r : R} {nb : Nat} {m : Fu} {Γ : List Summ}
theorem Qqi {K : AV → St → Option R} (hr : aOp P Γ m nb o σ K = some r) {rd wr : List Nat} (hf : foot Γ nb o σ = some (rd, wr)) : ∃ v pre, Fra P Γ m o nb σ rd wr v pre := by
 unfold foot at hf
 have unf : ∀ τ (R' : Type) (K' : AV → St → Option R') op, o.op = op → aOp P Γ m nb o τ K' = aOp P Γ m nb { o with op := op } τ K' := fun τ R' K' op h => by subst h; rfl
 cases hop : o.op with
 | move x =>
  rw [hop] at hf; cases hf
  refine Fra.fixed (σ.ev x) [] (fun i hi => by cases hi) (fun τ h1 h2 R' K' => ?_)
  rw [unf τ R' K' _ hop]
  show K' (τ.ev x) τ = _
  rw [h1 x (by rw [hop]; simp [Op.operands])]; rfl
 | assign x =>
  rw [hop] at hf; cases hf
  refine Fra.fixed (σ.ev x) [] (fun i hi => by cases hi) (fun τ h1 h2 R' K' => ?_)
  rw [unf τ R' K' _ hop]
  show K' (τ.ev x) τ = _
  rw [h1 x (by rw [hop]; simp [Op.operands])]; rfl
 | pick c x y =>
  rw [hop] at hf; cases hf
  refine Fra.pure (G := fun R' τ K' => QkR (τ.ev c) (τ.ev x) (τ.ev y) K') (fun τ R' K' => by rw [unf τ R' K' _ hop]; rfl) (fun τ h1 h2 R' K' => ?_) hr
  rw [hop] at h1
  rw [h1 c (by simp [Op.operands]), h1 x (by simp [Op.operands]), h1 y (by simp [Op.operands])]
  exact Qod _ _ _ K'
 | build t ps =>
  rw [hop] at hf; cases hf
  refine Fra.pure (G := fun R' τ K' => QgW P t (evPs τ ps.toList) K') (fun τ R' K' => by rw [unf τ R' K' _ hop]; rfl) (fun τ h1 h2 R' K' => ?_) hr
  rw [hop] at h1
  rw [Qel (σ := σ) fun x hx => h1 x (by simpa [Op.operands] using hx)]
  exact Qms _ _ K'
 | binOp op xt x y yt =>
  rw [hop] at hf
  simp only at hf
  cases hnil : QqE (σ.ev x) (σ.ev y) with
  | true => rw [hnil] at hf; cases hf
  | false =>
   rw [hnil] at hf
   cases hf
   have hno : ∀ (R' : Type) (K' : AV → Option R') (els : Option R'), aNil P op xt (σ.ev x) (σ.ev y) K' els = els := fun R' K' els => by
    unfold aNil
    split <;> first | rfl | (rename_i h1 h2; rw [h1, h2] at hnil; cases hnil)
   refine Fra.pure (G := fun R' τ K' => aNil P op xt (τ.ev x) (τ.ev y) K' (aBin P op xt (τ.ev x) (τ.ev y) K')) (fun τ R' K' => by rw [unf τ R' K' _ hop]; rfl) (fun τ h1 h2 R' K' => ?_) hr
   rw [hop] at h1
   rw [h1 x (by simp [Op.operands]), h1 y (by simp [Op.operands]), hno, hno]
   exact Qpd _ _ _ _ K'
 | unOp op xt x =>
  rw [hop] at hf; cases hf
  refine Fra.pure (G := fun R' τ K' => aUn op (τ.ev x) K') (fun τ R' K' => by rw [unf τ R' K' _ hop]; rfl) (fun τ h1 h2 R' K' => ?_) hr
  rw [hop] at h1
  rw [h1 x (by simp [Op.operands])]
  exact Qqg _ _ K'
 | fieldAddr s x f =>
  rw [hop] at hf; cases hf
  refine Fra.pure (G := fun R' τ K' => QaR P s (τ.ev x) f K') (fun τ R' K' => by rw [unf τ R' K' _ hop]; rfl) (fun τ h1 h2 R' K' => ?_) hr
  rw [hop] at h1
  rw [h1 x (by simp [Op.operands])]
  exact Qg6 _ _ _ K'
 | field s x f =>
  rw [hop] at hf; cases hf
  refine Fra.pure (G := fun R' τ K' => QgV P s (τ.ev x) f K') (fun τ R' K' => by rw [unf τ R' K' _ hop]; rfl) (fun τ h1 h2 R' K' => ?_) hr
  rw [hop] at h1
  rw [h1 x (by simp [Op.operands])]
  exact Qmq _ _ _ K'
 | index t x i =>
  rw [hop] at hf; cases hf
  refine Fra.pure (G := fun R' τ K' => QgU P t (τ.ev x) (τ.ev i) K') (fun τ R' K' => by rw [unf τ R' K' _ hop]; rfl) (fun τ h1 h2 R' K' => ?_) hr
  rw [hop] at h1
  rw [h1 x (by simp [Op.operands]), h1 i (by simp [Op.operands])]
  exact Qmp _ _ _ K'
 | extract x i =>
  rw [hop] at hf; cases hf
  refine Fra.pure (G := fun R' τ K' => Qcr (τ.ev x) i K') (fun τ R' K' => by rw [unf τ R' K' _ hop]; rfl) (fun τ h1 h2 R' K' => ?_) hr
  rw [hop] at h1
  rw [h1 x (by simp [Op.operands])]
  exact Qj4 _ _ K'
 | nilCheck x =>
  rw [hop] at hf; cases hf
  refine Fra.pure (G := fun R' τ K' => match τ.ev x with
   | .val (.one (.ptr i f)) => K' (.val (.one (.ptr i f)))
   | .val (.one (.vptr t d f)) => K' (.val (.one (.vptr t d f)))
   | .val (.one (.eptr t i j f)) => K' (.val (.one (.eptr t i j f)))
   | .val (.one (.fn f cs)) => K' (.val (.one (.fn f cs)))
   | _ => none) (fun τ R' K' => by rw [unf τ R' K' _ hop]; rfl) (fun τ h1 h2 R' K' => ?_) hr
  rw [hop] at h1
  rw [h1 x (by simp [Op.operands])]
  split <;> rfl
 | makeFunc f first caps =>
  rw [hop] at hf; cases hf
  refine Fra.pure (G := fun R' τ K' => match f with
   | .func f => (match first.toList, Qje (evs τ caps.toList) with
    | [], some ps => K' (.val (.one (.fn f ps)))
    | _, _ => none)
   | _ => none) (fun τ R' K' => by rw [unf τ R' K' _ hop]; cases f <;> rfl) (fun τ h1 h2 R' K' => ?_) hr
  rw [hop] at h1
  rw [Qek (σ := σ) fun x hx => h1 x (by simp [Op.operands]; simp at hx; exact .inr hx)]
  cases f with
  | func f => dsimp only; split <;> rfl
  | _ => rfl
 | load t a =>
  rw [hop] at hf; cases hf
  refine Fra.pure (G := fun R' τ K' => Qfs P t (τ.ev a) τ K') (fun τ R' K' => by rw [unf τ R' K' _ hop]; rfl) (fun τ h1 h2 R' K' => ?_) hr
  rw [hop] at h1
  rw [h1 a (by simp [Op.operands]), Qmo h2]
  exact Qoh _ _ _ K'
 | indexAddr t x i =>
  rw [hop] at hf; cases hf
  refine Fra.pure (G := fun R' τ K' => VL P t (τ.ev x) (τ.ev i) τ K') (fun τ R' K' => by rw [unf τ R' K' _ hop]; rfl) (fun τ h1 h2 R' K' => ?_) hr
  rw [hop] at h1
  rw [h1 x (by simp [Op.operands]), h1 i (by simp [Op.operands]), QgT h2]
  exact Qg5 _ _ _ _ K'
 | alloc t =>
  rw [hop] at hf; cases hf
  rw [unf σ R K _ hop] at hr
  change (match V5 P t with | some z => K (.val (.one (.ptr nb 0))) (σ.set nb (.box (z.map Cell.ofValue))) | none => none) = some r at hr
  cases hz : V5 P t with
  | none => rw [hz] at hr; cases hr
  | some z =>
   refine Fra.fixed (.val (.one (.ptr nb 0))) [(nb, some ⟨true, .box (z.map Cell.ofValue)⟩)] Qkr (fun τ h1 h2 R' K' => ?_)
   rw [unf τ R' K' _ hop]
   show (match V5 P t with | some z => K' (.val (.one (.ptr nb 0))) (τ.set nb (.box (z.map Cell.ofValue))) | none => none) = _
   rw [hz]; rfl
 | box t x =>
  rw [hop] at hf; cases hf
  rw [unf σ R K _ hop] at hr
  change (match σ.ev x with | .val v => bif QbN v.cells then K (.val (.one (.ptr nb 0))) (σ.set nb (.box v.cells)) else none | _ => none) = some r at hr
  cases hx : σ.ev x with
  | tup l => rw [hx] at hr; cases hr
  | val v =>
   rw [hx] at hr
   dsimp only at hr
   cases hs : QbN v.cells with
   | false => rw [hs] at hr; cases hr
   | true =>
    refine Fra.fixed (.val (.one (.ptr nb 0))) [(nb, some ⟨true, .box v.cells⟩)] Qkr (fun τ h1 h2 R' K' => ?_)
    rw [unf τ R' K' _ hop]
    show (match τ.ev x with | .val v => bif QbN v.cells then K' (.val (.one (.ptr nb 0))) (τ.set nb (.box v.cells)) else none | _ => none) = _
    rw [h1 x (by rw [hop]; simp [Op.operands]), hx]
    dsimp only
    rw [hs]; rfl
 | store t a x => rw [hop] at hf; cases hf; exact Qov hop hr
 | convert s d x => rw [hop] at hf; cases hf; exact Qmj hop hr
 | slice t x lo hi mx => rw [hop] at hf; cases hf; exact Qox hop hr
 | makeSlice t l c => rw [hop] at hf; cases hf; exact Qjj hop hr
 | buildSlice t n ps => rw [hop] at hf; cases hf; exact Qiz hop hr
 | call c =>
  rw [hop] at hf
  dsimp only at hf
  have hargs : ∀ τ : St, (∀ x ∈ o.op.operands.toList, τ.ev x = σ.ev x) → evs τ c.args.toList = evs σ c.args.toList := fun τ h => Qek fun y hy => h y (by
   rw [hop]; simp only [Op.operands, Call.operands]; simp at hy ⊢; exact .inr hy)
  cases hc : c.callee with
  | invoke a b => rw [hc] at hf; cases hf
  | value f =>
   rw [hc] at hf
   dsimp only at hf
   split at hf
   ·rename_i g hfe
    cases hwin : QhR g Γ with
    | some q =>
     rw [hwin] at hf
     cases hf
     have h4 : ∀ τ : St, (∀ x ∈ o.op.operands.toList, τ.ev x = σ.ev x) → τ.ev f = σ.ev f := fun τ h1 => h1 f (by rw [hop]; simp [Op.operands, Call.operands, hc])
     have key : ∀ τ, (∀ x ∈ o.op.operands.toList, τ.ev x = σ.ev x) → Zv (VA (evs σ c.args.toList)) σ τ → ∀ (R' : Type) (K' : AV → St → Option R'), aOp P Γ m nb o τ K' = (aWin m q (evs σ c.args.toList) σ some).bind fun v => K' v τ := fun τ h1 h2 R' K' => by
      unfold aOp
      rw [hop]
      dsimp only
      rw [hc]
      dsimp only
      rw [h4 τ h1, hfe]
      dsimp only
      rw [hwin]
      dsimp only
      rw [hargs τ h1, Qoa h2]
      exact Qo7 _ _ _ _
     have h0 := key σ (fun _ _ => rfl) (fun _ _ => rfl) R K
     rw [h0] at hr
     cases hv : aWin m q (evs σ c.args.toList) σ some with
     | none => rw [hv] at hr; cases hr
     | some v => exact ⟨v, [], (fun i hi => by cases hi), (fun τ h1 h2 R' K' => by rw [key τ h1 h2, hv]; rfl), Qs.nil⟩
    | none =>
    rw [hwin] at hf
    cases hb : Qc5 g Γ with
    | false => rw [hb] at hf; cases hf
    | true =>
     rw [hb] at hf
     cases hf
     obtain ⟨res, k1, k2⟩ := Qfm (m := m) (xs := evs σ c.args.toList) nb σ hb
     have key : ∀ τ, (∀ x ∈ o.op.operands.toList, τ.ev x = σ.ev x) → Zv (Zu σ (VA (evs σ c.args.toList))) σ τ → ∀ (R' : Type) (K' : AV → St → Option R'), aOp P Γ m nb o τ K' = res.bind fun y => K' y.1 (Jp τ y.2) := fun τ h1 h2 R' K' => by
      have h3 := hargs τ h1
      have h4 : τ.ev f = σ.ev f := h1 f (by rw [hop]; simp [Op.operands, Call.operands, hc])
      unfold aOp
      rw [hop]
      dsimp only
      rw [hc]
      dsimp only
      rw [h4, hfe]
      dsimp only
      rw [hwin]
      dsimp only
      rw [h3, Qm]
      simp only [QcY, List.append_nil]
      exact k1 τ h2 R' K'
     have h0 := key σ (fun _ _ => rfl) (fun _ _ => rfl) R K
     rw [h0] at hr
     cases hv : res with
     | none => rw [hv] at hr; cases hr
     | some y =>
      obtain ⟨c1, c2⟩ := k2 y hv
      refine ⟨y.1, y.2, fun i hi => ?_, fun τ h1 h2 R' K' => by rw [key τ h1 h2, hv]; rfl, c2⟩
      show i ∈ Qn1 g Γ nb (Zu σ (VA (evs σ c.args.toList)))
      simp only [Qn1, Qm, List.mem_append]
      rcases c1 i hi with ⟨d1, d2⟩ | ⟨d1, d2⟩
      ·exact .inl (by rw [d1]; exact d2)
      ·exact .inr (by rw [d1]; exact d2)
   ·cases hf
  | builtin b =>
   rw [hc] at hf
   cases b with
   | len =>
    dsimp only at hf
    split at hf
    ·rename_i x hx
     cases hf
     refine Fra.pure (G := fun R' τ K' => match evs τ c.args.toList, c.argTypes.toList with
      | [x], [t] => match P.underlying t with
       | some (.map _ _) => QbR P t x τ K'
       | _ => aLen P t x τ K'
      | _, _ => none) (fun τ R' K' => by unfold aOp; rw [hop]; dsimp only; rw [hc]; rfl) (fun τ h1 h2 R' K' => ?_) hr
     rw [hargs τ h1, hx]
     cases c.argTypes.toList with
     | nil => rfl
     | cons t l => cases l with
      | nil =>
       dsimp only
       split
       ·rw [Qj3 h2]; exact QkV _ _ _ K'
       ·rw [Qoi h2]; exact Qpa _ _ _ K'
      | cons _ _ => rfl
    ·cases hf
   | append =>
    dsimp only at hf
    split at hf
    ·rename_i s x hx
     cases hf
     exact Qn5 hop hc hx hr
    ·cases hf
   | max =>
    cases hf
    refine Fra.pure (G := fun R' τ K' => Qcq mxI (evs τ c.args.toList) K') (fun τ R' K' => by unfold aOp; rw [hop]; dsimp only; rw [hc]) (fun τ h1 h2 R' K' => ?_) hr
    rw [hargs τ h1]
    exact QgS _ _ K'
   | min =>
    cases hf
    refine Fra.pure (G := fun R' τ K' => Qcq mnI (evs τ c.args.toList) K') (fun τ R' K' => by unfold aOp; rw [hop]; dsimp only; rw [hc]) (fun τ h1 h2 R' K' => ?_) hr
    rw [hargs τ h1]
    exact QgS _ _ K'
   | delete =>
    dsimp only at hf
    split at hf
    ·rename_i x y hx
     cases hf
     have e : ∀ τ (R' : Type) (K' : AV → St → Option R'), (∀ z ∈ o.op.operands.toList, τ.ev z = σ.ev z) → aOp P Γ m nb o τ K' = (match c.argTypes.toList with
       | t :: _ => Qe3 P t x y τ fun σ' => K' (.val (.one .skip)) σ'
       | _ => none) := fun τ R' K' h1 => by
      unfold aOp; rw [hop]; dsimp only; rw [hc]; dsimp only
      rw [hargs τ h1, hx]
      cases c.argTypes.toList <;> rfl
     rw [e σ R K (fun _ _ => rfl)] at hr
     cases hat : c.argTypes.toList with
     | nil => rw [hat] at hr; cases hr
     | cons t tl =>
      rw [hat] at hr
      dsimp only at hr
      unfold Qe3 at hr
      split at hr
      case h_2 => cases hr
      rename_i ka k va v hmo
      split at hr
      case h_2 => cases hr
      rename_i id xs kx hma hel
      refine Fra.fixed (.val (.one .skip)) [(id, some ⟨true, .arr (.pr k v) (mdel (Jx k) xs kx) (.mp ka va)⟩)] (fun i hi => ?_) (fun τ h1 h2 R' K' => ?_)
      ·have : i = id := by simpa [fsts] using hi
       subst this
       exact Qln hma
      ·rw [e τ R' K' h1, hat]
       dsimp only
       unfold Qe3
       rw [hmo]
       dsimp only
       rw [Qdd (σ := σ) (h2.sub fun i hi => by rw [Qm]; exact List.mem_append_left _ hi), Qen (σ := σ) (h2.sub fun i hi => by rw [Qm]; exact List.mem_append_right _ hi), hma, hel]
       rfl
    ·cases hf
   | copy =>
    dsimp only at hf
    split at hf
    ·rename_i d x hx
     cases hf
     have e : ∀ τ (R' : Type) (K' : AV → St → Option R'), (∀ z ∈ o.op.operands.toList, τ.ev z = σ.ev z) → aOp P Γ m nb o τ K' = Qmr P c.argTypes.toList d x τ K' := fun τ R' K' h1 => by
      unfold aOp; rw [hop]; dsimp only; rw [hc]; dsimp only
      rw [hargs τ h1, hx]
     rw [e σ R K (fun _ _ => rfl)] at hr
     unfold Qmr at hr
     split at hr
     case h_2 => cases hr
     rename_i dt xt t id lo n t' ys hat
     split at hr
     case h_2 => cases hr
     rename_i el u t0 xs ys' he hob hys
     cases hb : (t.beq u && t0.beq t && Nat.beq u.sz 1) && (Nat.ble (lo + n) (List.length xs) && (Nat.beq (List.length ys') n && Nat.ble n 4294967296)) with
     | false => rw [hb] at hr; cases hr
     | true =>
      rw [hb] at hr
      simp only [cond_true] at hr
      split at hr
      case h_2 => cases hr
      rename_i zs hzs
      refine Fra.fixed (one (.int .i64) (n : Int)) [(id, some ⟨true, .arr t0 (List.take lo xs ++ zs ++ List.drop (lo + n) xs) .wr⟩)] (fun i hi => ?_) (fun τ h1 h2 R' K' => ?_)
      ·have : i = id := by simpa [fsts] using hi
       subst this
       simp [AV.ids, V1.cells, Qk, Cell.ids, Qm]
      ·rw [e τ R' K' h1, hat]
       unfold Qmr
       dsimp only
       rw [he, h2 id (by simp [AV.ids, V1.cells, Qk, Cell.ids, Qm]), hob, hys]
       dsimp only
       rw [hb]
       simp only [cond_true]
       rw [hzs]
       rfl
    ·cases hf
   | _ => cases hf
 | mapUpdate t x y z =>
  rw [hop] at hf; cases hf
  have e : ∀ τ (R' : Type) (K' : AV → St → Option R'), (∀ z ∈ o.op.operands.toList, τ.ev z = σ.ev z) → aOp P Γ m nb o τ K' = Qbl P t (σ.ev x) (σ.ev y) (σ.ev z) τ fun σ' => K' (.val (.one .skip)) σ' := fun τ R' K' h1 => by
   rw [unf τ R' K' _ hop]
   rw [hop] at h1
   rw [← h1 x (by simp [Op.operands]), ← h1 y (by simp [Op.operands]), ← h1 z (by simp [Op.operands])]
   rfl
  rw [e σ R K (fun _ _ => rfl)] at hr
  unfold Qbl at hr
  split at hr
  case h_2 => cases hr
  rename_i ka k va v hmo
  split at hr
  case h_2 => cases hr
  rename_i id xs kx vy hma hel1 hel2
  cases hb : Nat.blt xs.length 4294967296 with
  | false => rw [hb] at hr; cases hr
  | true =>
   refine Fra.fixed (.val (.one .skip)) [(id, some ⟨true, .arr (.pr k v) (mset (Jx k) xs kx vy) (.mp ka va)⟩)] (fun i hi => ?_) (fun τ h1 h2 R' K' => ?_)
   ·have : i = id := by simpa [fsts] using hi
    subst this
    exact Qln hma
   ·rw [e τ R' K' h1]
    unfold Qbl
    rw [hmo]
    dsimp only
    rw [Qdd (σ := σ) (h2.sub fun i hi => by rw [Qm]; exact List.mem_append_left _ hi), Qen (σ := σ) (x := σ.ev y) (h2.sub fun i hi => by simp only [Qm, List.mem_append]; exact .inr (.inl hi)), Qen (σ := σ) (x := σ.ev z) (h2.sub fun i hi => by simp only [Qm, List.mem_append]; exact .inr (.inr hi)), hma, hel1, hel2]
    dsimp only
    rw [hb]
    rfl
 | lookup t x y okb =>
  rw [hop] at hf; cases hf
  refine Fra.pure (G := fun R' τ K' => QbQ P t (τ.ev x) (τ.ev y) okb τ K') (fun τ R' K' => by rw [unf τ R' K' _ hop]; rfl) (fun τ h1 h2 R' K' => ?_) hr
  rw [hop] at h1
  rw [h1 x (by simp [Op.operands]), h1 y (by simp [Op.operands])]
  rw [Qj2 (h2.sub fun i hi => by rw [Qm]; exact List.mem_append_left _ hi) (h2.sub fun i hi => by rw [Qm]; exact List.mem_append_right _ hi)]
  exact QkU _ _ _ _ _ K'
 | _ => rw [hop] at hf; cases hf
end
end Go.Abs
namespace Go.Abs
structure Eqv (σ τ : St) : Prop where
 tm : ∀ t, σ.get t = τ.get t
 ob : ∀ i, σ.ob i = τ.ob i
 n : σ.n = τ.n
theorem Eqv.refl (σ : St) : Eqv σ σ := ⟨fun _ => rfl, fun _ => rfl, rfl⟩
theorem Eqv.symm {σ τ : St} (h : Eqv σ τ) : Eqv τ σ := ⟨fun t => (h.tm t).symm, fun i => (h.ob i).symm, h.n.symm⟩
theorem Eqv.trans {a b c : St} (h : Eqv a b) (k : Eqv b c) : Eqv a c := ⟨fun t => (h.tm t).trans (k.tm t), fun i => (h.ob i).trans (k.ob i), h.n.trans k.n⟩
theorem Eqv.put {σ τ : St} (h : Eqv σ τ) (d : Option Nat) (v : AV) : Eqv (σ.put d v) (τ.put d v) := by
 cases d with
 | none => exact h
 | some d => exact ⟨fun t => by rw [St.get_put, St.get_put, h.tm], fun i => by rw [St.ob_put, St.ob_put, h.ob], h.n⟩
theorem Eqv.add {σ τ : St} (h : Eqv σ τ) (pre : List (Nat × Option Ob)) : Eqv (Jp σ pre) (Jp τ pre) :=
 ⟨h.tm, fun i => by rw [QaD, QaD, h.ob], h.n⟩
theorem QhK : ∀ {l : List Operand} {t : Nat}, Operand.tmp t ∈ l → QhL t l = true
 | [], _, h => by cases h
 | x :: r, t, h => by
  rcases List.mem_cons.1 h with rfl | h
  ·simp [QhL]
  ·have := QhK h
   cases x <;> simp [QhL, this]
section
variable {P : Program} {R : Type} {F : Fr} {ι : Nat → Value} {ok : Ok} {N : Nat → Prop} {σ τ : St} {a : Act} {w : World} {o : Oper} {r : R} {m : Fu} {Γ : List Summ} {all : List Oper}
def Qdx (all : List Oper) (o : Oper) (σ : St) : Option Bool := match o.guard with
 | none => some true
 | some (j, want) => match Vx all j with
  | some t => match σ.get t with
   | .val (.one (.dat .bool b)) => some (b == want)
   | .val (.one .skip) => some false
   | _ => none
  | none => none
inductive Qbi (P : Program) (Γ : List Summ) (m : Fu) (all : List Oper) (base : Nat) (i : Nat) (f : List Nat × List Nat) (σ σ' : St) : Prop
 | go (o : Oper) (h0 : all[i]? = some o) (hw : Qdx all o σ = some true) (hf : foot Γ (base + 16 * i) o σ = some f) (v : AV) (pre : List (Nat × Option Ob)) (hF : Fra P Γ m o (base + 16 * i) σ f.1 f.2 v pre)
  (hd : ∀ d, o.dst = some d → d < σ.n) (he : Eqv σ' ((Jp σ pre).put o.dst v))
 | no (o : Oper) (h0 : all[i]? = some o) (hw : Qdx all o σ = some false) (hf : f = ([], [])) (hd : ∀ d, o.dst = some d → d < σ.n) (he : Eqv σ' (σ.put o.dst (.val (.one .skip))))
theorem QnJ {nb : Nat} {fo : List Nat × List Nat} (h : ∀ x ∈ o.op.operands.toList, τ.ev x = σ.ev x) (hf : foot Γ nb o σ = some fo) (hob : Zv fo.1 σ τ) : foot Γ nb o τ = some fo := by
 rw [← hf]
 unfold foot at hf ⊢
 cases hop : o.op with
 | load t a => rw [hop] at h; dsimp only; rw [h a (by simp [Op.operands])]
 | indexAddr t x i => rw [hop] at h; dsimp only; rw [h x (by simp [Op.operands])]
 | store t a x => rw [hop] at h; dsimp only; rw [h a (by simp [Op.operands]), h x (by simp [Op.operands])]
 | convert s d x => rw [hop] at h; dsimp only; rw [h x (by simp [Op.operands])]
 | lookup t x y okb => rw [hop] at h; dsimp only; rw [h x (by simp [Op.operands]), h y (by simp [Op.operands])]
 | mapUpdate t x y z => rw [hop] at h; dsimp only; rw [h x (by simp [Op.operands]), h y (by simp [Op.operands]), h z (by simp [Op.operands])]
 | binOp op xt x y yt => rw [hop] at h; dsimp only; rw [h x (by simp [Op.operands]), h y (by simp [Op.operands])]
 | slice t x lo hi mx => rw [hop] at h; dsimp only; rw [h x (by simp [Op.operands])]
 | buildSlice t n ps => rw [hop] at h; dsimp only; rw [Qel (σ := σ) fun x hx => h x (by simpa [Op.operands] using hx)]
 | call c =>
  rw [hop] at h hf
  dsimp only at hf ⊢
  have hargs : evs τ c.args.toList = evs σ c.args.toList := Qek fun y hy => h y (by simp only [Op.operands, Call.operands]; simp at hy ⊢; exact .inr hy)
  rw [hargs]
  cases hc : c.callee with
  | value f =>
   rw [hc] at hf
   dsimp only at hf ⊢
   rw [h f (by simp [Op.operands, Call.operands, hc])]
   split at hf
   ·rename_i g hfe
    cases hwin : QhR g Γ with
    | some q => rfl
    | none =>
    rw [hwin] at hf
    dsimp only
    cases hb : Qc5 g Γ with
    | false => rw [hb] at hf; cases hf
    | true =>
     rw [hb] at hf
     cases hf
     rw [Qff (hob.sub fun i hi => VS.2 (.inl hi))]
   ·cases hf
  | builtin b => cases b <;> rfl
  | _ => rfl
 | _ => rfl
theorem Fra.move {nb : Nat} {rd wr : List Nat} {v : AV} {pre : List (Nat × Option Ob)} (h : Fra P Γ m o nb σ rd wr v pre) (h1 : ∀ x ∈ o.op.operands.toList, τ.ev x = σ.ev x) (h2 : Zv rd σ τ) : Fra P Γ m o nb τ rd wr v pre :=
 ⟨h.keys, (fun ρ k1 k2 => h.go ρ (fun x hx => (k1 x hx).trans (h1 x hx)) (fun i hi => (k2 i hi).trans (h2 i hi))), h.nc⟩
theorem Qc4 (h : ∀ t, Qec all o t = true → τ.get t = σ.get t) : Qdx all o τ = Qdx all o σ := by
 unfold Qdx
 cases hg : o.guard with
 | none => rfl
 | some g =>
  obtain ⟨j, want⟩ := g
  dsimp only
  cases ht : Vx all j with
  | none => rfl
  | some t => dsimp only; rw [h t (by simp [Qec, hg, ht])]
theorem QnQ (h : ∀ t, Qec all o t = true → τ.get t = σ.get t) : ∀ x ∈ o.op.operands.toList, τ.ev x = σ.ev x := fun x hx => by
 cases x with
 | tmp t => exact h t (by
  simp only [Qec, Bool.or_eq_true]
  exact .inl (QhK hx))
 | _ => rfl
theorem Qbi.det {base i : Nat} {f : List Nat × List Nat} {σ' : St} (h : Qbi P Γ m all base i f σ σ') (o : Oper) (h0 : all[i]? = some o) :
  ∃ v pre, Eqv σ' ((Jp σ pre).put o.dst v) ∧ (∀ j ∈ fsts pre, j ∈ f.2) ∧ ∀ τ, (∀ t, Qec all o t = true → τ.get t = σ.get t) → Zv f.1 σ τ → τ.n = σ.n → Qbi P Γ m all base i f τ ((Jp τ pre).put o.dst v) := by
 cases h with
 | go o' h0' hw hf v pre hF hd he =>
  have e : o' = o := Option.some.inj (h0'.symm.trans h0)
  subst e
  exact ⟨v, pre, he, hF.keys, fun τ hl hob hn => .go o' h0 (by rw [Qc4 hl]; exact hw) (QnJ (QnQ hl) hf hob) v pre (hF.move (QnQ hl) hob) (fun d hd' => by rw [hn]; exact hd d hd') (Eqv.refl _)⟩
 | no o' h0' hw hf hd he =>
  have e : o' = o := Option.some.inj (h0'.symm.trans h0)
  subst e
  exact ⟨.val (.one .skip), [], he, (fun j hj => by cases hj), fun τ hl hob hn => .no o' h0 (by rw [Qc4 hl]; exact hw) hf (fun d hd' => by rw [hn]; exact hd d hd') (Eqv.refl _)⟩
theorem Qbi.conv {base i : Nat} {f : List Nat × List Nat} {σ' τ' : St} (h : Qbi P Γ m all base i f σ σ') (he : Eqv τ' σ') : Qbi P Γ m all base i f σ τ' := by
 cases h with
 | go o h0 hw hf v pre hF hd he' => exact .go o h0 hw hf v pre hF hd (he.trans he')
 | no o h0 hw hf hd he' => exact .no o h0 hw hf hd (he.trans he')
theorem Qbi.eqv {base i : Nat} {f : List Nat × List Nat} {σ' : St} (h : Qbi P Γ m all base i f σ σ') (he : Eqv τ σ) : Qbi P Γ m all base i f τ σ' := by
 have hh : ∃ o, all[i]? = some o := by cases h with
  | go o h0 => exact ⟨o, h0⟩
  | no o h0 => exact ⟨o, h0⟩
 obtain ⟨o, h0⟩ := hh
 obtain ⟨v, pre, h2, _, h1⟩ := h.det o h0
 exact (h1 τ (fun t _ => he.tm t) (fun i _ => he.ob i) he.n).conv (h2.trans ((he.symm.add pre).put o.dst v))
def Disj (a b : List Nat) : Prop := ∀ i ∈ a, i ∉ b
structure Qpg (all : List Oper) (x y : Oper) (f g : List Nat × List Nat) : Prop where
 t1 : ∀ d, x.dst = some d → Qec all y d = false ∧ y.dst ≠ some d
 t2 : ∀ d, y.dst = some d → Qec all x d = false
 o1 : Disj f.2 g.1
 o2 : Disj f.2 g.2
 o3 : Disj g.2 f.1
theorem Qm5 {σ : St} {d : Option Nat} {v : AV} {t : Nat} (h : d ≠ some t) : (σ.put d v).get t = σ.get t := by
 cases d with
 | none => rfl
 | some d => rw [St.get_put, if_neg (fun e => h (by rw [e]))]
theorem Qed {α : Type} : ∀ {l : List (Nat × α)} {i : Nat}, i ∉ fsts l → look l i = none
 | [], _, _ => rfl
 | (j, x) :: r, i, h => by
  simp only [fsts, List.mem_cons, not_or] at h
  rw [Q8, if_neg (fun e => h.1 e.symm)]; exact Qed h.2
theorem QgP {pre : List (Nat × Option Ob)} {i : Nat} (h : i ∉ fsts pre) : (Jp σ pre).ob i = σ.ob i := by
 rw [QaD, Qed h]
theorem Qbi.swap {base i j : Nat} {f g : List Nat × List Nat} {σ1 σ2 : St} {x y : Oper} (hx : all[i]? = some x) (hy : all[j]? = some y) (hI : Qpg all x y f g) (h1 : Qbi P Γ m all base j g σ σ1) (h2 : Qbi P Γ m all base i f σ1 σ2) :
  ∃ τ, Qbi P Γ m all base i f σ τ ∧ Qbi P Γ m all base j g τ σ2 := by
 obtain ⟨vy, py, a2, a3, a1⟩ := h1.det y hy
 have h2' := h2.eqv a2.symm
 obtain ⟨vx, px, b2, b3, b1⟩ := h2'.det x hx
 refine ⟨_, b1 σ (fun t ht => ?_) (fun k hk => ?_) (by rw [St.n_put]; rfl), (a1 ((Jp σ px).put x.dst vx) (fun t ht => ?_) (fun k hk => ?_) (by rw [St.n_put]; rfl)).conv (b2.trans ⟨fun t => ?_, fun k => ?_, ?_⟩)⟩
 ·rw [Qm5 (fun e => by rw [hI.t2 t e] at ht; cases ht)]; rfl
 ·rw [St.ob_put, QgP (fun hh => hI.o3 k (a3 k hh) hk)]
 ·rw [Qm5 (fun e => by rw [(hI.t1 t e).1] at ht; cases ht)]; rfl
 ·rw [St.ob_put, QgP (fun hh => hI.o1 k (b3 k hh) hk)]
 ·have key : ∀ (d e : Option Nat), (∀ k, d = some k → e ≠ some k) → ((σ.put e vy).put d vx).get t = ((σ.put d vx).put e vy).get t := fun d e hde => by
   cases d with
   | none => rfl
   | some d =>
    cases e with
    | none => rfl
    | some e =>
     have : d ≠ e := fun h => hde d rfl (by rw [h])
     simp only [St.get_put]
     by_cases h1 : d = t
     ·subst h1
      have hne : ¬ e = d := fun h => this h.symm
      simp [hne]
     ·simp [h1]
  have := key x.dst y.dst (fun k hk => (hI.t1 k hk).2)
  cases hxd : x.dst <;> cases hyd : y.dst <;> rw [hxd, hyd] at this <;> exact this
 ·rw [St.ob_put, St.ob_put, QaD, QaD, St.ob_put, St.ob_put, QaD, QaD]
  by_cases hk : k ∈ fsts px
  ·have : k ∉ fsts py := fun hh => hI.o2 k (b3 k hk) (a3 k hh)
   rw [Qed this]
  ·rw [Qed hk]
 ·cases x.dst <;> cases y.dst <;> rfl
end
end Go.Abs
namespace Go.Abs
section
variable {P : Program} {R : Type} {F : Fr} {ι : Nat → Value} {ok : Ok} {N : Nat → Prop} {σ τ : St} {a : Act} {w : World} {o : Oper} {r : R} {m : Fu} {Γ : List Summ} {all : List Oper}
def QdT (P : Program) (Γ : List Summ) (m : Fu) (all : List Oper) (base : Nat) (fs : Nat → List Nat × List Nat) : List Nat → St → St → Prop
 | [], σ, σf => Eqv σf σ
 | i :: l, σ, σf => ∃ σ1, Qbi P Γ m all base i (fs i) σ σ1 ∧ QdT P Γ m all base fs l σ1 σf
theorem QdT.fs_congr {base : Nat} {fs fs' : Nat → List Nat × List Nat} : ∀ {l : List Nat} {σ σf : St}, (∀ i ∈ l, fs' i = fs i) → QdT P Γ m all base fs l σ σf → QdT P Γ m all base fs' l σ σf
 | [], _, _, _, h => h
 | i :: l, σ, σf, hf, ⟨σ1, h1, h2⟩ => ⟨σ1, by rw [hf i (by simp)]; exact h1, QdT.fs_congr (fun j hj => hf j (by simp [hj])) h2⟩
def QgX (all : List Oper) (fs : Nat → List Nat × List Nat) (i j : Nat) : Prop := ∃ x y, all[i]? = some x ∧ all[j]? = some y ∧ Qpg all x y (fs i) (fs j)
theorem QdT.front {base : Nat} {fs : Nat → List Nat × List Nat} {i : Nat} {l2 : List Nat} : ∀ {l1 : List Nat} {σ σf : St}, QdT P Γ m all base fs (l1 ++ i :: l2) σ σf → (∀ j ∈ l1, QgX all fs i j) → ∃ τ, Qbi P Γ m all base i (fs i) σ τ ∧ QdT P Γ m all base fs (l1 ++ l2) τ σf
 | [], σ, σf, ⟨σ1, h1, h2⟩, _ => ⟨σ1, h1, h2⟩
 | j :: l1, σ, σf, ⟨σ1, h1, h2⟩, hI => by
  obtain ⟨τ1, k1, k2⟩ := QdT.front (l1 := l1) h2 (fun j hj => hI j (by simp [hj]))
  obtain ⟨x, y, hx, hy, hxy⟩ := hI j (by simp)
  obtain ⟨τ, s1, s2⟩ := Qbi.swap hx hy hxy h1 k1
  exact ⟨τ, s1, τ1, s2, k2⟩
theorem Sim.eqv (h : Sim F ι ok N σ a w) (he : Eqv τ σ) : Sim F ι ok N τ a w where
 tms t := by rw [he.tm]; exact h.tms t
 objs id o hi := h.objs id o (by rw [← he.ob]; exact hi)
 apart i j o p b hi hj := h.apart i j o p b (by rw [← he.ob]; exact hi) (by rw [← he.ob]; exact hj)
 oks := h.oks
 keep := h.keep
 size := by rw [he.n]; exact h.size
 defs := h.defs
 pins := h.pins
 pls := h.pls
theorem QmC {ops : Array Oper} (h : Sim F ι ok N σ a w) {b : Bool} (hw : Qdx ops.toList o σ = some b) : Region.wanted o (yielded ops a.tmps) = b := by
 unfold Qdx at hw
 cases hg : o.guard with
 | none => rw [hg] at hw; cases hw; simp [Region.wanted, hg]
 | some g =>
  obtain ⟨j, want⟩ := g
  rw [hg] at hw
  dsimp only at hw
  have hwt : Region.wanted o (yielded ops a.tmps) = (yielded ops a.tmps j == some want) := by simp [Region.wanted, hg]
  rw [hwt]
  cases ht : Vx ops.toList j with
  | none => rw [ht] at hw; cases hw
  | some t =>
   rw [ht] at hw
   dsimp only at hw
   obtain ⟨oj, hoj, hdj⟩ := Qbe ht
   have hgt := h.tms t
   have hy : ∀ v, a.tmps.getD t undef = v → yielded ops a.tmps j = (match v with | .bool b => some b | _ => none) := fun v hv => by
    unfold yielded
    rw [← Array.getElem?_toList, hoj]
    simp only [Option.bind_some, hdj]
    rw [Array.getD_eq_getD_getElem?] at hv
    cases hx : a.tmps[t]? with
    | none => rw [hx] at hv; simp at hv; subst hv; rfl
    | some u => rw [hx] at hv; simp at hv; subst hv; cases u <;> rfl
   split at hw
   ·rename_i c hc
    cases hw
    rw [hc] at hgt
    have hv : a.tmps.getD t undef = .bool c := by have : [a.tmps.getD t undef] = [.bool c] := hgt; simpa using this
    rw [hy _ hv]
    cases c <;> cases want <;> rfl
   ·rename_i hc
    cases hw
    rw [hc] at hgt
    have hv : a.tmps.getD t undef = .tuple #[] := hgt
    rw [hy _ hv]
    rfl
   ·cases hw
theorem Qbi.sound (hΓ : ∀ S ∈ Γ, Qau P F S) {ops : Array Oper} {base i : Nat} {f : List Nat × List Nat} (hs : Qbi P Γ m ops.toList base i f σ τ) (h : Sim F ι ok N σ a w) (hN : Qba N (base + 16 * i)) {Q : Exit → Act → World → Prop} {K : Act → World → Prop}
  (hK : ∀ a' w' ι' ok' N', Sim F ι' ok' N' τ a' w' → (∀ k, N' k → span N (base + 16 * i) k) → K a' w') : wpOp P ops Q i K a w := by
 cases hs with
 | go o h0 hw hf v pre hF hd he =>
  have h0 : ops[i]? = some o := by rw [← Array.getElem?_toList]; exact h0
  unfold wpOp
  rw [h0]
  dsimp only
  rw [if_pos (QmC h hw)]
  left
  have hgo := hF.go σ (fun _ _ => rfl) (fun _ _ => rfl) (AV × St) (fun v s => some (v, s))
  refine Qj1 hΓ h hN hgo K Q (fun av σ1 v' w' ι' ok' h1 hv hf hKK => ?_)
  cases hKK
  refine hK _ w' ι' ok' _ ?_ (fun _ h => h)
  cases hdst : o.dst with
  | none => rw [hdst] at he; exact h1.eqv he
  | some d => rw [hdst] at he; exact (h1.put hv (hd d hdst)).eqv he
 | no o h0 hw hf hd he =>
  have h0 : ops[i]? = some o := by rw [← Array.getElem?_toList]; exact h0
  unfold wpOp
  rw [h0]
  dsimp only
  rw [if_neg (by rw [QmC h hw]; simp)]
  refine hK _ w ι ok N ?_ (fun _ h => .inl h)
  cases hdst : o.dst with
  | none => rw [hdst] at he; exact h.eqv he
  | some d => rw [hdst] at he; exact (h.put (x := .val (.one .skip)) (v := undef) (rfl : undef = _) (hd d hdst)).eqv he
theorem QeZ {j : Nat} : ∀ {l : List Edge}, Qfi j l = true ↔ ∃ e ∈ l, Region.binds .any e = true ∧ e.on = j
 | [] => by simp [Qfi]
 | e :: r => by
  simp only [Qfi, Bool.or_eq_true, Bool.and_eq_true, QeZ (l := r), List.mem_cons]
  constructor
  ·rintro (⟨h1, h2⟩ | ⟨e', h1, h2⟩)
   ·exact ⟨e, .inl rfl, h1, Nat.eq_of_beq_eq_true h2⟩
   ·exact ⟨e', .inr h1, h2⟩
  ·rintro ⟨e', rfl | h1, h2, h3⟩
   ·exact .inl ⟨h2, by rw [h3]; simp⟩
   ·exact .inr ⟨e', h1, h2, h3⟩
theorem Qgu {k : Nat} : ∀ {l : List Edge}, Qlv k l = true → ∀ e ∈ l, Region.binds .any e = true → e.on < k
 | [], _, e, h, _ => by cases h
 | x :: r, h, e, he, hb => by
  simp only [Qlv, Bool.and_eq_true, Bool.or_eq_true] at h
  rcases List.mem_cons.1 he with rfl | he
  ·rcases h.1 with h1 | h1
   ·rw [hb] at h1; cases h1
   ·simpa using h1
  ·exact Qgu h.2 e he hb
theorem QdM : ∀ {l : List Oper} {k : Nat}, Qgv k l = true → ∀ i o, l[i]? = some o → ∀ e ∈ o.after, Region.binds .any e = true → e.on < k + i
 | [], _, _, i, o, h, _, _, _ => by simp at h
 | x :: r, k, h, i, o, hi, e, he, hb => by
  simp only [Qgv, Bool.and_eq_true] at h
  cases i with
  | zero =>
   simp at hi; subst hi
   exact Qgu h.1 e (by simpa using he) hb
  | succ i =>
   have := QdM h.2 i o (by simpa using hi) e he hb
   omega
theorem Qpx {all : List Oper} {j : Nat} : ∀ (f : Nat) {l : List Edge}, Qfi j l = true → viaE all j f l = true
 | 0, _, h => h
 | f + 1, l, h => by simp only [viaE, h, Bool.true_or]
theorem QdX {all : List Oper} {D : Nat → Prop} {j : Nat} (hd : ∀ k o, D k → all[k]? = some o → ∀ e ∈ o.after, Region.binds .any e = true → D e.on) :
  ∀ (f : Nat) {l : List Edge}, (∀ e ∈ l, Region.binds .any e = true → D e.on) → viaE all j f l = true → D j
 | 0, l, hl, h => by
  obtain ⟨e, he, h1, h2⟩ := QeZ.1 h
  exact h2 ▸ hl e he h1
 | f + 1, l, hl, h => by
  simp only [viaE, Bool.or_eq_true] at h
  rcases h with h | h
  ·obtain ⟨e, he, h1, h2⟩ := QeZ.1 h
   exact h2 ▸ hl e he h1
  ·obtain ⟨e, he, h1⟩ := List.any_eq_true.1 h
   simp only [Bool.and_eq_true] at h1
   obtain ⟨h1, h2⟩ := h1
   have hD := hl e he h1
   cases hy : all[e.on]? with
   | none => rw [hy] at h2; cases h2
   | some y =>
    rw [hy] at h2
    exact QdX hd f (fun e' he' hb' => hd e.on y hD hy e' (by simpa using he') hb') h2
theorem Qn7 (hΓ : ∀ S ∈ Γ, Qau P F S) {ops : Array Oper} {base : Nat} {fs : Nat → List Nat × List Nat} {σf : St} {Q : Exit → Act → World → Prop}
  (hedge : ∀ i o, ops.toList[i]? = some o → ∀ e ∈ o.after, Region.binds .any e = true → e.on < i)
  (hpair : ∀ i j x, j < i → ops.toList[i]? = some x → viaE ops.toList j 9 x.after.toList = true ∨ QgX ops.toList fs i j)
  (hQ : ∀ a w ι ok N, Sim F ι ok N σf a w → Below N (base + 16 * ops.size) → Q .normal a w) :
  ∀ (fuel : Nat) (listed : Array Bool) (l : List Nat) (σ : St) (a : Act) (w : World) (ι : Nat → Value) (ok : Ok) (N : Nat → Prop), listed.size = ops.size → l.length = fuel → l.Pairwise (· < ·) → (∀ i, i ∈ l ↔ i < ops.size ∧ listed.getD i true = false) →
   (∀ k o, listed.getD k true = true → ops.toList[k]? = some o → ∀ e ∈ o.after, Region.binds .any e = true → listed.getD e.on true = true) →
   QdT P Γ m ops.toList base fs l σ σf → Sim F ι ok N σ a w → (∀ i ∈ l, Qba N (base + 16 * i)) → Below N (base + 16 * ops.size) → wpAny P .any ops Q fuel listed a w := by
 intro fuel
 have ready0 : ∀ (listed : Array Bool) (l : List Nat), listed.size = ops.size → l.Pairwise (· < ·) → (∀ i, i ∈ l ↔ i < ops.size ∧ listed.getD i true = false) → Region.ready .any ops listed = [] → l = [] := by
  intro listed l hsz hs hl hr
  cases l with
  | nil => rfl
  | cons i r =>
   exfalso
   have hi := (hl i).1 (by simp)
   have : i ∈ Region.ready .any ops listed := by
    rw [mem_ready]
    refine ⟨hi.2, ops[i]'hi.1, by simp [hi.1], fun e he hb => ?_⟩
    have hlt := hedge i (ops[i]'hi.1) (by rw [Array.getElem?_toList]; simp [hi.1]) e he hb
    have hnot : e.on ∉ i :: r := fun hm => by
     rcases List.mem_cons.1 hm with h | h
     ·omega
     ·have := (List.pairwise_cons.1 hs).1 _ h; omega
    have hlt2 : e.on < listed.size := by omega
    have h2 : ¬ (listed.getD e.on true = false) := fun hh => hnot ((hl e.on).2 ⟨by omega, hh⟩)
    have h3 : listed.getD e.on true = true := by cases hx : listed.getD e.on true <;> simp_all
    simpa [hlt2] using h3
   rw [hr] at this; cases this
 induction fuel with
 | zero =>
  intro listed l σ a w ι ok N hsz hlen hs hl hdn hc h hN hB
  have hl0 : l = [] := List.length_eq_zero_iff.1 hlen
  subst hl0
  refine ⟨?_, hQ a w ι ok N (h.eqv hc) hB⟩
  cases hr : Region.ready .any ops listed with
  | nil => rfl
  | cons i r =>
   have hm : i ∈ Region.ready .any ops listed := by rw [hr]; simp
   obtain ⟨h1, o, h2, _⟩ := mem_ready.1 hm
   have hlt := (Array.getElem?_eq_some_iff.1 h2).1
   have := (hl i).2 ⟨hlt, h1⟩
   cases this
 | succ fuel ih =>
  intro listed l σ a w ι ok N hsz hlen hs hl hdn hc h hN hB
  refine ⟨fun hr => ?_, fun i hi => ?_⟩
  ·have := ready0 listed l hsz hs hl hr
   subst this; simp at hlen
  ·obtain ⟨h1, o, h2, h3⟩ := mem_ready.1 hi
   have hlt := (Array.getElem?_eq_some_iff.1 h2).1
   have him := (hl i).2 ⟨hlt, h1⟩
   obtain ⟨l1, l2, e⟩ := List.append_of_mem him
   subst e
   have hs' := hs
   rw [List.pairwise_append] at hs
   obtain ⟨p1, p2, p3⟩ := hs
   rw [List.pairwise_cons] at p2
   obtain ⟨τ, s1, s2⟩ := QdT.front hc (fun j hj => by
    have hji := p3 j hj i (by simp)
    rcases hpair i j o hji (by rw [Array.getElem?_toList]; exact h2) with hb | hb
    ·exfalso
     have hlisted : listed.getD j true = true := QdX (D := fun k => listed.getD k true = true) hdn 9 (fun e he hb1 => by
      have h4 := h3 e (by simpa using he) hb1
      have hlt2 := hedge i o (by rw [Array.getElem?_toList]; exact h2) e (by simpa using he) hb1
      have hjs : e.on < listed.size := by omega
      simpa [hjs] using h4) hb
     have := (hl j).1 (List.mem_append_left _ hj)
     rw [hlisted] at this
     cases this.2
    ·exact hb)
   refine s1.sound hΓ h (hN i (by simp)) (fun a' w' ι' ok' N' t1 t2 => ?_)
   refine ih (listed.setIfInBounds i true) (l1 ++ l2) τ a' w' ι' ok' N' (by simpa using hsz) (by simp at hlen ⊢; omega) ?_ (fun k => ?_) (fun k y hk hy e he hb => ?_) s2 t1 (fun k hk j hj1 hj2 hj3 => ?_) (fun j hj => ?_)
   ·rw [List.pairwise_append]
    exact ⟨p1, p2.2, fun x hx y hy => p3 x hx y (by simp [hy])⟩
   ·have hmem : k ∈ l1 ++ i :: l2 ↔ k ∈ l1 ++ l2 ∨ k = i := by
     simp only [List.mem_append, List.mem_cons]
     constructor
     ·rintro (h | h | h)
      ·exact .inl (.inl h)
      ·exact .inr h
      ·exact .inl (.inr h)
     ·rintro ((h | h) | h)
      ·exact .inl h
      ·exact .inr (.inr h)
      ·exact .inr (.inl h)
    have hne : k ∈ l1 ++ l2 → k ≠ i := fun hk e => by
     subst e
     rcases List.mem_append.1 hk with hk | hk
     ·have := p3 k hk k (by simp); omega
     ·have := p2.1 k hk; omega
    have h4 := hl k
    rw [hmem] at h4
    by_cases e : k = i
    ·subst e
     constructor
     ·intro hk; exact absurd rfl (hne hk)
     ·rintro ⟨hk1, hk2⟩
      have : k < listed.size := by omega
      simp [this] at hk2
    ·rw [getD_set_ne true (fun h => e h.symm), ← h4]
     simp [e]
   ·have hmon : ∀ n, listed.getD n true = true → (listed.setIfInBounds i true).getD n true = true := fun n hn => by
     by_cases e : n = i
     ·subst e
      rw [Array.getD_eq_getD_getElem?, Array.getElem?_setIfInBounds]
      split <;> simp_all
     ·rw [getD_set_ne true (fun h => e h.symm)]; exact hn
    refine hmon _ ?_
    by_cases ek : k = i
    ·subst ek
     have hyo : y = o := by rw [Array.getElem?_toList] at hy; exact Option.some.inj (hy.symm.trans h2)
     subst hyo
     have h4 := h3 e (by simpa using he) hb
     have hlt2 := hedge k y hy e (by simpa using he) hb
     have hjs : e.on < listed.size := by omega
     simpa [hjs] using h4
    ·rw [getD_set_ne true (fun h => ek h.symm)] at hk
     exact hdn k y hk hy e he hb
   ·have hki : k ≠ i := fun e => by
     subst e
     rcases List.mem_append.1 hk with hk | hk
     ·have := p3 k hk k (by simp); omega
     ·have := p2.1 k hk; omega
    rcases t2 j hj3 with hh | hh
    ·exact hN k (by rcases List.mem_append.1 hk with hk | hk; exact List.mem_append_left _ hk; exact List.mem_append_right _ (List.mem_cons_of_mem _ hk)) j hj1 hj2 hh
    ·omega
   ·rcases t2 j hj with hh | hh
    ·exact hB j hh
    ·omega
end
end Go.Abs
namespace Go.Abs
section
variable {P : Program} {R : Type} {F : Fr} {ι : Nat → Value} {ok : Ok} {N : Nat → Prop} {σ τ : St} {a : Act} {w : World} {o : Oper} {r : R} {m : Fu} {Γ : List Summ} {all : List Oper}
theorem Qeo : ∀ {a b : List Nat}, Qiu a b = true → Disj a b
 | [], b, _ => fun i hi => by cases hi
 | x :: r, b, h => by
  simp only [Qiu, Bool.and_eq_true, Bool.not_eq_true'] at h
  intro i hi hb
  rcases List.mem_cons.1 hi with rfl | hi
  ·rw [(Qch _ _).2 hb] at h; cases h.1
  ·exact Qeo h.2 i hi hb
theorem QkN {x y : Oper} {f g : List Nat × List Nat} (h1 : QlM all x y = true) (h2 : Qiu f.2 g.1 = true) (h3 : Qiu f.2 g.2 = true) (h4 : Qiu g.2 f.1 = true) : Qpg all x y f g := by
 refine ⟨fun d hd => ?_, fun d hd => ?_, Qeo h2, Qeo h3, Qeo h4⟩
 ·simp only [QlM, hd, Bool.and_eq_true, Bool.not_eq_true'] at h1
  refine ⟨h1.1.1, fun e => ?_⟩
  rw [e] at h1
  simp at h1
 ·simp only [QlM, hd, Bool.and_eq_true, Bool.not_eq_true'] at h1
  exact h1.2
theorem QdF {x : Oper} {rd wr : List Nat} : ∀ {prev : List (Nat × Oper × List Nat × List Nat)}, Qbb all x rd wr prev = true → ∀ j y rd' wr', (j, y, rd', wr') ∈ prev → viaE all j 9 x.after.toList = true ∨ Qpg all x y (rd, wr) (rd', wr')
 | [], _, _, _, _, _, h => by cases h
 | (j0, y0, rd0, wr0) :: r, h, j, y, rd', wr', hm => by
  simp only [Qbb, Bool.and_eq_true, Bool.or_eq_true] at h
  rcases List.mem_cons.1 hm with e | hm
  ·cases e
   rcases h.1 with (h1 | h1) | h1
   ·exact .inl (Qpx 9 h1)
   ·exact .inr (QkN h1.1.1.1 h1.1.1.2 h1.1.2 h1.2)
   ·exact .inl h1
  ·exact QdF h.2 j y rd' wr' hm
theorem Qog {nb : Nat} {f : List Nat × List Nat} (hf : foot Γ nb o σ = some f) {K : St → Option R} (hr : Qe2 P Γ m nb o σ K = some r) :
  ∃ v pre, Fra P Γ m o nb σ f.1 f.2 v pre ∧ (∀ d, o.dst = some d → d < σ.n) ∧ K ((Jp σ pre).put o.dst v) = some r := by
 unfold Qe2 at hr
 obtain ⟨v, pre, hF⟩ := Qqi hr (rd := f.1) (wr := f.2) hf
 rw [hF.go σ (fun _ _ => rfl) (fun _ _ => rfl)] at hr
 refine ⟨v, pre, hF, ?_⟩
 cases hd : o.dst with
 | none => rw [hd] at hr; exact ⟨(fun d h => by cases h), hr⟩
 | some d =>
  rw [hd] at hr
  dsimp only at hr
  cases hb : Nat.blt d σ.n with
  | false => rw [hb] at hr; cases hr
  | true =>
   rw [hb] at hr
   exact ⟨(fun e h => by cases h; simpa using hb), hr⟩
theorem Qoc {K : St → Option R} (hr : Qds o σ K = some r) : (∀ d, o.dst = some d → d < σ.n) ∧ K (σ.put o.dst (.val (.one .skip))) = some r := by
 unfold Qds at hr
 cases hd : o.dst with
 | none => rw [hd] at hr; exact ⟨(fun d h => by cases h), hr⟩
 | some d =>
  rw [hd] at hr
  dsimp only at hr
  cases hb : Nat.blt d σ.n with
  | false => rw [hb] at hr; cases hr
  | true =>
   rw [hb] at hr
   exact ⟨(fun e h => by cases h; simpa using hb), hr⟩
theorem Qh4 {σ : St} {t : Nat} {x : AV} (h : σ.get t = x) : Eqv (σ.put (some t) x) σ :=
 ⟨fun u => by
  rw [St.get_put]
  split
  ·rename_i e; subst e; exact h.symm
  ·rfl, fun i => St.ob_put _ _ _ _, rfl⟩
theorem Qn9 {pre : List (Nat × Option Ob)} (h : Qs pre) (ds : List Nat) (σ : St) : Frm ds σ (Jp σ pre) :=
 ⟨fun _ _ => rfl, rfl, fun i o ho => by
  unfold Jp at ho
  simp only [QbJ] at ho
  cases hl : look pre i with
  | none => rw [hl] at ho; exact ho
  | some x => rw [hl] at ho; cases ho; exact absurd rfl (h _ (QfA hl) o)⟩
theorem Qlg {ds : List Nat} {d : Option Nat} (h : ∀ k, d = some k → k ∈ ds) (v : AV) (σ : St) : Frm ds σ (σ.put d v) := by
 cases d with
 | none => exact Frm.refl _ _
 | some d => exact Frm.put (h d rfl) v
theorem Qpr {base k : Nat} (h0 : all[k]? = some o) {prev : List (Nat × Oper × List Nat × List Nat)} {K : List Nat × List Nat → St → Option R}
    (hr : (let go (σ : St) := match foot Γ (base + 16 * k) o σ with
        | some (rd, wr) => bif Qbb all o rd wr prev then Qe2 P Γ m (base + 16 * k) o σ fun σ' => K (rd, wr) σ' else none
        | none => none
      let no (σ : St) := bif Qbb all o [] [] prev then Qds o σ fun σ' => K ([], []) σ' else none
      match o.guard with
      | none => go σ
      | some (j, want) => match Vx all j with
        | some t => match σ.get t with
          | .val (.one (.dat .bool b)) => match want with
            | true => bif b then go (σ.put (some t) (one .bool true)) else no (σ.put (some t) (one .bool false))
            | false => bif b then no (σ.put (some t) (one .bool true)) else go (σ.put (some t) (one .bool false))
          | .val (.one .skip) => no σ
          | _ => none
        | none => none) = some r) :
    ∃ f σ1, Qbi P Γ m all base k f σ σ1 ∧ Qbb all o f.1 f.2 prev = true ∧ K f σ1 = some r ∧ Frm (J5 all) σ σ1 := by
  have hod : ∀ k, o.dst = some k → k ∈ J5 all := fun k hk => VI (List.mem_of_getElem? h0) hk
  have go : ∀ σ' : St, Eqv σ' σ → Frm (J5 all) σ σ' → Qdx all o σ = some true → (match foot Γ (base + 16 * k) o σ' with
        | some (rd, wr) => bif Qbb all o rd wr prev then Qe2 P Γ m (base + 16 * k) o σ' fun σ' => K (rd, wr) σ' else none
        | none => none) = some r → ∃ f σ1, Qbi P Γ m all base k f σ σ1 ∧ Qbb all o f.1 f.2 prev = true ∧ K f σ1 = some r ∧ Frm (J5 all) σ σ1 := by
    intro σ' he hfr hw hg
    cases hf : foot Γ (base + 16 * k) o σ' with
    | none => rw [hf] at hg; cases hg
    | some f =>
      obtain ⟨rd, wr⟩ := f
      rw [hf] at hg
      dsimp only at hg
      cases hp : Qbb all o rd wr prev with
      | false => rw [hp] at hg; cases hg
      | true =>
        rw [hp] at hg
        simp only [cond_true] at hg
        obtain ⟨v, pre, hF, hd, hK⟩ := Qog hf hg
        have hw' : Qdx all o σ' = some true := by rw [Qc4 (σ := σ) fun t _ => he.tm t]; exact hw
        exact ⟨(rd, wr), _, Qbi.eqv (.go o h0 hw' hf v pre hF hd (Eqv.refl _)) he.symm, hp, hK, hfr.trans' ((Qn9 hF.nc _ _).trans' (Qlg hod _ _))⟩
  have no : ∀ σ' : St, Eqv σ' σ → Frm (J5 all) σ σ' → Qdx all o σ = some false → (bif Qbb all o [] [] prev then Qds o σ' fun σ' => K ([], []) σ' else none) = some r → ∃ f σ1, Qbi P Γ m all base k f σ σ1 ∧ Qbb all o f.1 f.2 prev = true ∧ K f σ1 = some r ∧ Frm (J5 all) σ σ1 := by
    intro σ' he hfr hw hg
    cases hp : Qbb all o [] [] prev with
    | false => rw [hp] at hg; cases hg
    | true =>
      rw [hp] at hg
      simp only [cond_true] at hg
      obtain ⟨hd, hK⟩ := Qoc hg
      have hw' : Qdx all o σ' = some false := by rw [Qc4 (σ := σ) fun t _ => he.tm t]; exact hw
      exact ⟨([], []), _, Qbi.eqv (.no o h0 hw' rfl hd (Eqv.refl _)) he.symm, hp, hK, hfr.trans' (Qlg hod _ _)⟩
  dsimp only at hr
  cases hg : o.guard with
  | none =>
    rw [hg] at hr
    exact go σ (Eqv.refl _) (Frm.refl _ _) (by simp [Qdx, hg]) hr
  | some gw =>
    obtain ⟨j, want⟩ := gw
    rw [hg] at hr
    dsimp only at hr
    cases ht : Vx all j with
    | none => rw [ht] at hr; cases hr
    | some t =>
      rw [ht] at hr
      dsimp only at hr
      have htd : ∀ x, Frm (J5 all) σ (σ.put (some t) x) := fun x => by
        obtain ⟨oj, hoj, hdj⟩ := Qbe ht
        exact Frm.put (VI (List.mem_of_getElem? hoj) hdj) x
      split at hr
      · rename_i b hb
        have hw : Qdx all o σ = some (b == want) := by simp [Qdx, hg, ht, hb]
        cases want with
        | true =>
          dsimp only at hr
          cases b with
          | true => exact go _ (Qh4 hb) (htd _) hw hr
          | false => exact no _ (Qh4 hb) (htd _) hw hr
        | false =>
          dsimp only at hr
          cases b with
          | true => exact no _ (Qh4 hb) (htd _) hw hr
          | false => exact go _ (Qh4 hb) (htd _) hw hr
      · rename_i hb
        exact no σ (Eqv.refl _) (Frm.refl _ _) (by simp [Qdx, hg, ht, hb]) hr
      · cases hr
theorem QgR {base : Nat} {K : St → Option R} : ∀ {l : List Oper} {k : Nat} {σ : St} {prev : List (Nat × Oper × List Nat × List Nat)}, (∀ j, l[j]? = all[k + j]?) → (∀ j y rd wr, (j, y, rd, wr) ∈ prev → j < k ∧ all[j]? = some y) →
  (∀ j, j < k → ∃ y rd wr, (j, y, rd, wr) ∈ prev) → Qof P Γ m all l k (base + 16 * k) σ prev K = some r →
  ∃ fs σf, QdT P Γ m all base fs (List.range' k l.length) σ σf ∧ K σf = some r ∧ Frm (J5 all) σ σf ∧
   ∀ (fs0 : Nat → List Nat × List Nat), (∀ j y rd wr, (j, y, rd, wr) ∈ prev → fs0 j = (rd, wr)) → ∀ i j x, j < i → k ≤ i → all[i]? = some x → viaE all j 9 x.after.toList = true ∨ QgX all (fun n => if n < k then fs0 n else fs n) i j
 | [], k, σ, prev, hl, hp, hall, hr => ⟨fun _ => ([], []), σ, Eqv.refl _, hr, Frm.refl _ _, fun fs0 _ i j x _ hik hx => by
   have := hl (i - k)
   rw [show k + (i - k) = i by omega, hx] at this
   simp at this⟩
 | o :: l, k, σ, prev, hl, hp, hall, hr => by
  have h0 : all[k]? = some o := by have := hl 0; simpa using this.symm
  obtain ⟨f, σ1, s1, s2, s3, s4⟩ := Qpr (K := fun f σ' => Qof P Γ m all l (k + 1) (base + 16 * k + 16) σ' ((k, o, f.1, f.2) :: prev) K) h0 hr
  rw [show base + 16 * k + 16 = base + 16 * (k + 1) by omega] at s3
  obtain ⟨fs, σf, c1, c2, c4, c3⟩ := QgR (base := base) (l := l) (k := k + 1) (fun j => by have := hl (j + 1); rw [List.getElem?_cons_succ] at this; rw [this]; congr 1; omega)
   (fun j y rd wr hm => by
    rcases List.mem_cons.1 hm with e | hm
    ·cases e; exact ⟨by omega, h0⟩
    ·obtain ⟨h1, h2⟩ := hp j y rd wr hm; exact ⟨by omega, h2⟩)
   (fun j hj => by
    by_cases e : j = k
    ·subst e; exact ⟨o, f.1, f.2, by simp⟩
    ·obtain ⟨y, rd, wr, hm⟩ := hall j (by omega); exact ⟨y, rd, wr, by simp [hm]⟩) s3
  refine ⟨fun n => if n = k then f else fs n, σf, ⟨σ1, by simpa using s1, c1.fs_congr (fun i hi => ?_)⟩, c2, s4.trans' c4, fun fs0 hfs i j x hji hik hx => ?_⟩
  ·have := List.mem_range'_1.1 hi
   rw [if_neg (by omega)]
  ·have e1 : (fun n => if n < k + 1 then (if n < k then fs0 n else f) else fs n) = (fun n => if n < k then fs0 n else if n = k then f else fs n) := by
    funext n
    by_cases h1 : n < k
    ·simp [h1, show n < k + 1 by omega]
    ·by_cases h2 : n = k
     ·subst h2; simp
     ·simp [h1, h2, show ¬ n < k + 1 by omega]
   by_cases e : i = k
   ·subst e
    have : x = o := Option.some.inj (hx.symm.trans h0)
    subst this
    obtain ⟨y, rd, wr, hm⟩ := hall j hji
    rcases QdF s2 j y rd wr hm with hb | hb
    ·exact .inl hb
    ·refine .inr ⟨x, y, h0, (hp j y rd wr hm).2, ?_⟩
     simp only [Nat.lt_irrefl, if_false, if_true, hji]
     rw [hfs j y rd wr hm]
     exact hb
   ·have := c3 (fun n => if n < k then fs0 n else f) (fun j y rd wr hm => by
     rcases List.mem_cons.1 hm with e | hm
     ·cases e; simp
     ·obtain ⟨h1, _⟩ := hp j y rd wr hm
      simp only [h1, if_true]
      exact hfs j y rd wr hm) i j x hji (by omega) hx
    rw [e1] at this
    exact this
end
end Go.Abs
namespace Go.Abs
section
variable {P : Program} {R : Type} {F : Fr} {ι : Nat → Value} {ok : Ok} {N : Nat → Prop} {σ σ0 : St} {a : Act} {w : World} {o : Oper} {r : R}
def resF (tmps : Array Value) : ResultVar → Sem Value
 | .tmp t => pure (tmps.getD t undef)
 | .cell c t => do loadVar t (← asAddr (tmps.getD c undef))
theorem QfV (h : Sim F ι ok N σ a w) : ∀ {rs : List ResultVar} {vs : List V1}, Qd2 P σ rs = some vs → ∃ us : List Value, (rs.mapM (resF a.tmps)).run P w = .ok us w ∧ All2 (V2 w ok ι N) vs us
 | [], vs, hg => by cases hg; exact ⟨[], by simp, trivial⟩
 | .tmp t :: r, vs, hg => by
  simp only [Qd2] at hg
  split at hg
  ·rename_i v l hv hl
   cases hg
   obtain ⟨us, h1, h2⟩ := QfV h hl
   have ht := h.tms t
   rw [hv] at ht
   have hrun : (resF a.tmps (.tmp t)).run P w = .ok (a.tmps.getD t undef) w := by simp only [resF, Sem.run_pure]
   exact ⟨a.tmps.getD t undef :: us, by simp only [List.mapM_cons, Sem.run_bind, hrun, Result.andThen_ok, h1, Sem.run_pure], ⟨ht, h2⟩⟩
  ·cases hg
 | .cell c t :: r, vs, hg => by
  simp only [Qd2] at hg
  split at hg
  ·rename_i v l hv hl
   cases hg
   obtain ⟨us, h1, h2⟩ := QfV h hl
   obtain ⟨av, u, q1, q2, q3⟩ := QlP (P := P) h (h.tms c) hv
   cases q1
   have hrun : (resF a.tmps (.cell c t)).run P w = .ok u w := by
    unfold Instr.loadAt Instr.sureAddr at q2
    show (do loadVar t (← asAddr (a.tmps.getD c undef)) : Sem Value).run P w = .ok u w
    unfold asAddr
    generalize a.tmps.getD c undef = x at q2 ⊢
    cases x with
    | pointer A => cases A with
     | none => simp [stuck, Sem.run] at q2
     | some A => exact q2
    | _ => simp [stuck, Sem.run] at q2
   exact ⟨u :: us, by simp only [List.mapM_cons, Sem.run_bind, hrun, Result.andThen_ok, h1, Sem.run_pure], ⟨q3, h2⟩⟩
  ·cases hg
theorem Qhh (h : Sim F ι ok N σ a w) {fn : Func} {vs : List V1} (hg : Qd2 P σ fn.results.toList = some vs) : ∃ us : List Value, (results fn a.tmps).run P w = .ok (tupV us) w ∧ All2 (V2 w ok ι N) vs us := by
 obtain ⟨us, h1, h2⟩ := QfV h hg
 refine ⟨us, ?_, h2⟩
 have e : results fn a.tmps = (do let vs ← fn.results.mapM (resF a.tmps); pure (if h : vs.size = 1 then vs[0] else .tuple vs)) := by
  unfold results
  congr 1
 rw [e, Array.mapM_eq_mapM_toList, ← bind_pure_comp]
 simp only [Sem.run_bind, h1, Result.andThen_ok, Sem.run_pure]
 congr 1
 cases us with
 | nil => rfl
 | cons u us => cases us with
  | nil => rfl
  | cons _ _ => simp [tupV]
end
structure FrmI (σ σ' : St) : Prop where
 tm : σ'.tm = σ.tm
 n : σ'.n = σ.n
 hp : ∀ id o, look σ'.hp id = some (some ⟨false, o⟩) → look σ.hp id = some (some ⟨false, o⟩)
def Qpf (P : Program) (F : Fr) (I : Inl) : Prop :=
 ∀ {R : Type} (g : FuncId) (ann : List (Nat × Ann)) (args : List AV) (σ : St) (K : AV → St → Option R) (r : R), I g ann args σ K = some r →
  ∀ (ι : Nat → Value) (ok : Ok) (N : Nat → Prop) (a : Act) (w : World) (vs : List Value), Sim F ι ok N σ a w → Below N σ.nxt → All2 (QR w ok ι N) args vs →
  Ends P g vs.toArray w fun v w' => ∃ av σ' ι' ok' N', Sim F ι' ok' N' σ' a w' ∧ Below N' σ'.nxt ∧ QR w' ok' ι' N' av v ∧ FrmI σ σ' ∧ K av σ' = some r
def Qoo (P : Program) (I : Inl) : Prop := ∀ F : Fr, GOk P F.w0 F.ok0.p → Qpf P F I
theorem QoJ {P : Program} : Qoo P Qqz := by
 intro F hG R g ann args σ K r h
 cases h
section
variable {P : Program} {R : Type} {F : Fr} {ι : Nat → Value} {ok : Ok} {N : Nat → Prop} {σ σ0 : St} {a : Act} {w : World} {o : Oper} {r : R}
theorem Qjq {I : Inl} (hI : Qpf P F I) (h : Sim F ι ok N σ a w) (hN : Below N σ.nxt) {c : Call} (ho : o.op = .call c) {f : Operand} (hc : c.callee = .value f) {g : FuncId} {caps : List (Nat × Nat)} (hf : σ.ev f = .val (.one (.fn g caps)))
  {ann : List (Nat × Ann)} {K : AV → St → Option R} (hr : I g ann (app (evs σ c.args.toList) (QcY caps)) σ K = some r) {next : Act → World → Prop} (Q : Exit → Act → World → Prop)
  (hn : ∀ av σ' v w' ι' ok' N', Sim F ι' ok' N' σ' a w' → Below N' σ'.nxt → QR w' ok' ι' N' av v → FrmI σ σ' → K av σ' = some r → next (a.put o.dst v) w') : o.wp P a w next Q := by
 have hfv := h.ev f
 rw [hf] at hfv
 obtain ⟨vsc, hfe, hcaps⟩ := hfv
 have hexec : ∀ w, (execOp a.eval o).run P w = (callFunc g (c.args.toList.map a.eval ++ vsc).toArray).run P w := fun w => by
  have e1 : (c.args.toList.map a.eval ++ vsc).toArray = c.args.map a.eval ++ vsc.toArray := by
   apply Array.ext'; simp
  rw [e1]
  simp [execOp, ho, resolve, hc, hfe, Deferred.ofValue, invoke]
 rw [Qm] at hr
 have hargs : All2 (QR w ok ι N) (evs σ c.args.toList ++ QcY caps) (c.args.toList.map a.eval ++ vsc) := All2.app (h.evs _) (QeX hcaps)
 have hE := hI g ann _ σ K r hr ι ok N a w _ h hN hargs
 unfold Oper.wp
 rw [hexec]
 unfold Ends at hE
 generalize (callFunc g (c.args.toList.map a.eval ++ vsc).toArray).run P w = res at hE ⊢
 cases res with
 | halt x w' => exact hE.elim
 | ok n w' =>
  cases n <;> simp only at hE
  case value v =>
   obtain ⟨av, σ', ι', ok', N', h1, h2, h3, h4, h5⟩ := hE
   exact hn av σ' v w' ι' ok' N' h1 h2 h3 h4 h5
  case enter g as =>
   refine Calls.mono hE ?_
   rintro e w'' ⟨v, he, av, σ', ι', ok', N', h1, h2, h3, h4, h5⟩
   subst he
   exact hn av σ' v w'' ι' ok' N' h1 h2 h3 h4 h5
theorem Qfl {ops : Array Oper} (h : Sim F ι ok N σ a w) (hN : Below N σ.nxt) {go no : St → Option R} (hr : QlQ ops.toList o σ go no = some r) (ho : o ∈ ops.toList)
  {next : Act → World → Prop} (Q : Exit → Act → World → Prop) (hgo : ∀ σ', Sim F ι ok N σ' a w → σ'.nxt = σ.nxt → Frm (J5 ops.toList) σ σ' → go σ' = some r → o.wp P a w next Q ∨ (o.asks P a w ∧ LetsOut Q))
  (hno : QkX F (J5 ops.toList) σ no r (σ.nxt + 16) next) :
  if Region.wanted o (yielded ops a.tmps) then o.wp P a w next Q ∨ (o.asks P a w ∧ LetsOut Q) else next (a.put o.dst undef) w := by
 have hd : ∀ d, o.dst = some d → d ∈ J5 ops.toList := fun d hd => VI ho hd
 unfold QlQ at hr
 cases hg : o.guard with
 | none =>
  rw [hg] at hr
  have : Region.wanted o (yielded ops a.tmps) = true := by simp [Region.wanted, hg]
  rw [if_pos this]
  exact hgo σ h rfl (Frm.refl _ _) hr
 | some g =>
  obtain ⟨j, want⟩ := g
  rw [hg] at hr
  dsimp only at hr
  cases ht : Vx ops.toList j with
  | none => rw [ht] at hr; cases hr
  | some t =>
   rw [ht] at hr
   dsimp only at hr
   obtain ⟨oj, hoj, hdj⟩ := Qbe ht
   have htd : t ∈ J5 ops.toList := VI (List.mem_of_getElem? hoj) hdj
   have hgt := h.tms t
   have hy : ∀ v, a.tmps.getD t undef = v → yielded ops a.tmps j = (match v with | .bool b => some b | _ => none) := fun v hv => by
    unfold yielded
    rw [← Array.getElem?_toList, hoj]
    simp only [Option.bind_some, hdj]
    rw [Array.getD_eq_getD_getElem?] at hv
    cases hx : a.tmps[t]? with
    | none => rw [hx] at hv; simp at hv; subst hv; rfl
    | some u => rw [hx] at hv; simp at hv; subst hv; cases u <;> rfl
   have hw : Region.wanted o (yielded ops a.tmps) = (yielded ops a.tmps j == some want) := by simp [Region.wanted, hg]
   have put : ∀ x, QkX F (J5 ops.toList) (σ.put (some t) x) no r (σ.nxt + 16) next := fun x σ' a' w' ι' ok' N' s1 s2 s3 s4 =>
    hno σ' a' w' ι' ok' N' s1 s2 ((Frm.put htd x).trans' s3) s4
   split at hr
   ·rename_i b hb
    rw [hb] at hgt
    have hv : a.tmps.getD t undef = .bool b := by have : [a.tmps.getD t undef] = [.bool b] := hgt; simpa using this
    rw [hw, hy _ hv]
    have href : ∀ c, b = c → Sim F ι ok N (σ.put (some t) (one .bool c)) a w := fun c hc => by
     subst hc; exact h.refine (x := one .bool b) (by rw [hv]; exact (rfl : [Value.bool b] = _))
    cases want with
    | true =>
     dsimp only at hr
     cases b with
     | true =>
      simp only [cond_true] at hr
      rw [if_pos (by simp)]
      exact hgo _ (href true rfl) rfl (Frm.put htd _) hr
     | false =>
      simp only [cond_false] at hr
      rw [if_neg (by simp)]
      exact QaP (href false rfl) hN hr hd (put _)
    | false =>
     dsimp only at hr
     cases b with
     | true =>
      simp only [cond_true] at hr
      rw [if_neg (by simp)]
      exact QaP (href true rfl) hN hr hd (put _)
     | false =>
      simp only [cond_false] at hr
      rw [if_pos (by simp)]
      exact hgo _ (href false rfl) rfl (Frm.put htd _) hr
   ·rename_i hb
    rw [hb] at hgt
    have hv : a.tmps.getD t undef = .tuple #[] := hgt
    rw [hw, hy _ hv, if_neg (by simp)]
    exact QaP h hN hr hd hno
   ·cases hr
theorem QbF {I : Inl} (hI : Qpf P F I) {m : Fu} {Γ : List Summ} (hΓ : ∀ S ∈ Γ, Qau P F S) {ops : Array Oper} {rows : List (Nat × List (Nat × Ann))} {Q : Exit → Act → World → Prop} {K : St → Option R} : ∀ {l : List Oper} {k : Nat} {ι : Nat → Value} {ok : Ok} {N : Nat → Prop} {σ : St} {a : Act} {w : World},
  (∀ j, l[j]? = ops.toList[k + j]?) → Sim F ι ok N σ a w → Below N σ.nxt → QkT I P Γ m ops.toList rows l k σ K = some r →
  (∀ σ' a' w' ι' ok' N', Sim F ι' ok' N' σ' a' w' → Below N' σ'.nxt → Frm (J5 ops.toList) σ σ' → K σ' = some r → Q .normal a' w') → wpOps P ops Q (List.range' k l.length) a w
 | [], k, ι, ok, N, σ, a, w, _, h, hN, hr, hQ => hQ σ a w ι ok N h hN (Frm.refl _ _) hr
 | o :: l, k, ι, ok, N, σ, a, w, hl, h, hN, hr, hQ => by
  have h0 : ops[k]? = some o := by have := hl 0; simpa using this.symm
  have hmem : o ∈ ops.toList := by rw [List.mem_iff_getElem?]; exact ⟨k, by rw [Array.getElem?_toList]; exact h0⟩
  have hl' : ∀ j, l[j]? = ops.toList[k + 1 + j]? := fun j => by have := hl (j + 1); rw [List.getElem?_cons_succ] at this; rw [this]; congr 1; omega
  rw [List.length_cons, List.range'_succ, wpOps]
  rw [h0]
  dsimp only
  unfold QkT at hr
  split at hr
  ·refine QgQ hΓ h hN hr hmem Q (fun σ' a' w' ι' ok' N' s1 s2 s3 s4 => ?_)
   have s1' : Sim F ι' ok' N' { σ' with nxt := σ.nxt + 16 } a' w' := ⟨s1.tms, s1.objs, s1.apart, s1.oks, s1.keep, s1.size, s1.defs, s1.pins, s1.pls⟩
   refine QbF hI hΓ hl' s1' s2 s4 (fun σ2 a2 w2 ι2 ok2 N2 t1 t2 t3 t4 => ?_)
   exact hQ σ2 a2 w2 ι2 ok2 N2 t1 t2 (s3.trans' ⟨t3.tm, t3.n, t3.hp⟩) t4
  ·refine Qfl h hN hr hmem Q (fun σ0 h0 hnx hf0 hr => ?_) (fun σ' a' w' ι' ok' N' s1 s2 s3 s4 => ?_)
   ·split at hr
    ·rename_i c hop
     split at hr
     ·rename_i f hc
      split at hr
      ·rename_i g caps hf
       refine .inl (Qjq hI h0 (by rw [hnx]; exact hN) hop hc hf hr Q (fun av σ' v w' ι' ok' N' h1 h2 h3 h4 h5 => ?_))
       cases hd : o.dst with
       | none =>
        rw [hd] at h5
        refine QbF hI hΓ hl' (σ := σ') (a := a.put none v) h1 h2 h5 (fun σ2 a2 w2 ι2 ok2 N2 t1 t2 t3 t4 => hQ σ2 a2 w2 ι2 ok2 N2 t1 t2 (hf0.trans' ?_) t4)
        exact ⟨fun t ht => (t3.tm t ht).trans (by simp [St.get, h4.tm]), t3.n.trans h4.n, fun i o ho => h4.hp i o (t3.hp i o ho)⟩
       | some d =>
        rw [hd] at h5
        dsimp only at h5
        cases hb : Nat.blt d σ0.n with
        | false => simp [hb] at h5
        | true =>
         simp only [hb, cond_true] at h5
         have hdn : d < σ'.n := by rw [h4.n]; simpa using hb
         have h1' := h1.put h3 hdn
         refine QbF hI hΓ hl' (σ := σ'.put (some d) av) (a := a.put (some d) v) h1' h2 h5 (fun σ2 a2 w2 ι2 ok2 N2 t1 t2 t3 t4 => hQ σ2 a2 w2 ι2 ok2 N2 t1 t2 (hf0.trans' ?_) t4)
         refine ⟨fun t ht => (t3.tm t ht).trans ?_, t3.n.trans h4.n, fun i o ho => h4.hp i o (t3.hp i o ho)⟩
         rw [St.get_put, if_neg (fun e : d = t => ht (by subst e; exact VI hmem hd))]
         simp [St.get, h4.tm]
      ·cases hr
     ·cases hr
    ·cases hr
   ·have s1' : Sim F ι' ok' N' { σ' with nxt := σ.nxt + 16 } a' w' := ⟨s1.tms, s1.objs, s1.apart, s1.oks, s1.keep, s1.size, s1.defs, s1.pins, s1.pls⟩
    refine QbF hI hΓ hl' s1' s2 s4 (fun σ2 a2 w2 ι2 ok2 N2 t1 t2 t3 t4 => ?_)
    exact hQ σ2 a2 w2 ι2 ok2 N2 t1 t2 (s3.trans' ⟨t3.tm, t3.n, t3.hp⟩) t4
theorem Qil (l : Array Bool) (i : Nat) : (l.setIfInBounds i true).getD i true = true := by
 rw [Array.getD_eq_getD_getElem?, Array.getElem?_setIfInBounds]
 split
 ·split <;> simp
 ·simp_all
theorem Qqe {m : Fu} {Γ : List Summ} (hΓ : ∀ S ∈ Γ, Qau P F S) {ops : Array Oper} {base lo hi : Nat} {fs : Nat → List Nat × List Nat} {σf : St} {Q : Exit → Act → World → Prop} (hhi : hi ≤ ops.size)
  (hedge : ∀ i o, ops.toList[i]? = some o → ∀ e ∈ o.after, Region.binds .any e = true → e.on < i)
  (hpair : ∀ i j x, lo ≤ j → j < i → i < hi → ops.toList[i]? = some x → viaE ops.toList j 9 x.after.toList = true ∨ QgX ops.toList fs i j)
  (hcut : ∀ i x, hi ≤ i → ops.toList[i]? = some x → (i = hi ∧ ∀ j, j < hi → viaE ops.toList j 9 x.after.toList = true) ∨ (hi < i ∧ viaE ops.toList hi 9 x.after.toList = true))
  (hQ : ∀ (listed : Array Bool) a w ι ok N, listed.size = ops.size → (∀ i, i < ops.size → (listed.getD i true = false ↔ hi ≤ i)) →
   (∀ k o, listed.getD k true = true → ops.toList[k]? = some o → ∀ e ∈ o.after, Region.binds .any e = true → listed.getD e.on true = true) →
   Sim F ι ok N σf a w → Below N (base + 16 * ops.size) → wpAny P .any ops Q (ops.size - hi) listed a w) :
  ∀ (fuel : Nat) (listed : Array Bool) (l : List Nat) (σ : St) (a : Act) (w : World) (ι : Nat → Value) (ok : Ok) (N : Nat → Prop), listed.size = ops.size → l.length = fuel → l.Pairwise (· < ·) → (∀ i, i ∈ l ↔ lo ≤ i ∧ i < hi ∧ listed.getD i true = false) →
   (∀ i, i < lo → listed.getD i true = true) → (∀ i, hi ≤ i → i < ops.size → listed.getD i true = false) →
   (∀ k o, listed.getD k true = true → ops.toList[k]? = some o → ∀ e ∈ o.after, Region.binds .any e = true → listed.getD e.on true = true) →
   QdT P Γ m ops.toList base fs l σ σf → Sim F ι ok N σ a w → (∀ i ∈ l, Qba N (base + 16 * i)) → Below N (base + 16 * ops.size) → wpAny P .any ops Q (fuel + (ops.size - hi)) listed a w := by
 intro fuel
 induction fuel with
 | zero =>
  intro listed l σ a w ι ok N hsz hlen hs hl hlo hup hdn hc h hN hB
  have hl0 : l = [] := List.length_eq_zero_iff.1 hlen
  subst hl0
  rw [Nat.zero_add]
  refine hQ listed a w ι ok N hsz (fun i hi2 => ⟨fun hf => ?_, fun hge => hup i hge hi2⟩) hdn (h.eqv hc) hB
  rcases Nat.lt_or_ge i hi with h1 | h1
  ·exfalso
   rcases Nat.lt_or_ge i lo with h2 | h2
   ·rw [hlo i h2] at hf; cases hf
   ·have := (hl i).2 ⟨h2, h1, hf⟩; cases this
  ·exact h1
 | succ fuel ih =>
  intro listed l σ a w ι ok N hsz hlen hs hl hlo hup hdn hc h hN hB
  have hne : ∃ j r, l = j :: r := by
   cases l with
   | nil => simp at hlen
   | cons j r => exact ⟨j, r, rfl⟩
  obtain ⟨j0, r0, hjr⟩ := hne
  have hj0 := (hl j0).1 (by rw [hjr]; simp)
  rw [show fuel + 1 + (ops.size - hi) = (fuel + (ops.size - hi)) + 1 by omega]
  refine ⟨fun hr => ?_, fun i hi2 => ?_⟩
  ·exfalso
   have : j0 ∈ Region.ready .any ops listed := by
    rw [mem_ready]
    refine ⟨hj0.2.2, ops[j0]'(by omega), by simp [show j0 < ops.size by omega], fun e he hb => ?_⟩
    have hlt := hedge j0 (ops[j0]'(by omega)) (by rw [Array.getElem?_toList]; simp [show j0 < ops.size by omega]) e he hb
    have hlt2 : e.on < listed.size := by omega
    have h2 : ¬ (listed.getD e.on true = false) := fun hh => by
     rcases Nat.lt_or_ge e.on lo with h5 | h5
     ·rw [hlo _ h5] at hh; cases hh
     ·have hm := (hl e.on).2 ⟨h5, by omega, hh⟩
      rw [hjr] at hm hs
      rcases List.mem_cons.1 hm with h6 | h6
      ·omega
      ·have := (List.pairwise_cons.1 hs).1 _ h6; omega
    have h3 : listed.getD e.on true = true := by cases hx : listed.getD e.on true <;> simp_all
    simpa [hlt2] using h3
   rw [hr] at this; cases this
  ·obtain ⟨h1, o, h2, h3⟩ := mem_ready.1 hi2
   have hlt := (Array.getElem?_eq_some_iff.1 h2).1
   have hdone : ∀ j, viaE ops.toList j 9 o.after.toList = true → listed.getD j true = true := fun j hb =>
    QdX (D := fun k => listed.getD k true = true) hdn 9 (fun e he hb1 => by
     have h4 := h3 e (by simpa using he) hb1
     have hlt2 := hedge i o (by rw [Array.getElem?_toList]; exact h2) e (by simpa using he) hb1
     have hjs : e.on < listed.size := by omega
     simpa [hjs] using h4) hb
   have hih : i < hi := by
    rcases Nat.lt_or_ge i hi with h5 | h5
    ·exact h5
    ·exfalso
     rcases hcut i o h5 (by rw [Array.getElem?_toList]; exact h2) with ⟨e1, e2⟩ | ⟨e1, e2⟩
     ·have := hdone j0 (e2 j0 hj0.2.1)
      rw [this] at hj0; cases hj0.2.2
     ·have := hdone hi e2
      rw [hup hi (Nat.le_refl _) (by omega)] at this; cases this
   have hil : lo ≤ i := by
    rcases Nat.lt_or_ge i lo with h5 | h5
    ·rw [hlo i h5] at h1; cases h1
    ·exact h5
   have him := (hl i).2 ⟨hil, hih, h1⟩
   obtain ⟨l1, l2, e⟩ := List.append_of_mem him
   subst e
   have hs' := hs
   rw [List.pairwise_append] at hs
   obtain ⟨p1, p2, p3⟩ := hs
   rw [List.pairwise_cons] at p2
   obtain ⟨τ, s1, s2⟩ := QdT.front hc (fun j hj => by
    have hji := p3 j hj i (by simp)
    have hjl := (hl j).1 (List.mem_append_left _ hj)
    rcases hpair i j o hjl.1 hji hih (by rw [Array.getElem?_toList]; exact h2) with hb | hb
    ·exfalso
     have hlisted := hdone j hb
     rw [hlisted] at hjl
     cases hjl.2.2
    ·exact hb)
   refine s1.sound hΓ h (hN i (by simp)) (fun a' w' ι' ok' N' t1 t2 => ?_)
   have hmon : ∀ n, listed.getD n true = true → (listed.setIfInBounds i true).getD n true = true := fun n hn => by
    by_cases e : n = i
    ·subst e
     rw [Array.getD_eq_getD_getElem?, Array.getElem?_setIfInBounds]
     split <;> simp_all
    ·rw [getD_set_ne true (fun h => e h.symm)]; exact hn
   refine ih (listed.setIfInBounds i true) (l1 ++ l2) τ a' w' ι' ok' N' (by simpa using hsz) (by simp at hlen ⊢; omega) ?_ (fun k => ?_) (fun k hk => hmon k (hlo k hk)) (fun k hk1 hk2 => ?_) (fun k y hk hy e he hb => ?_) s2 t1 (fun k hk j hj1 hj2 hj3 => ?_) (fun j hj => ?_)
   ·rw [List.pairwise_append]
    exact ⟨p1, p2.2, fun x hx y hy => p3 x hx y (by simp [hy])⟩
   ·have hmem : k ∈ l1 ++ i :: l2 ↔ k ∈ l1 ++ l2 ∨ k = i := by
     simp only [List.mem_append, List.mem_cons]
     constructor
     ·rintro (h | h | h)
      ·exact .inl (.inl h)
      ·exact .inr h
      ·exact .inl (.inr h)
     ·rintro ((h | h) | h)
      ·exact .inl h
      ·exact .inr (.inr h)
      ·exact .inr (.inl h)
    have hne : k ∈ l1 ++ l2 → k ≠ i := fun hk e => by
     subst e
     rcases List.mem_append.1 hk with hk | hk
     ·have := p3 k hk k (by simp); omega
     ·have := p2.1 k hk; omega
    have h4 := hl k
    rw [hmem] at h4
    by_cases e : k = i
    ·subst e
     constructor
     ·intro hk; exact absurd rfl (hne hk)
     ·rintro ⟨hk0, hk1, hk2⟩
      have : k < listed.size := by omega
      simp [this] at hk2
    ·rw [getD_set_ne true (fun h => e h.symm), ← h4]
     simp [e]
   ·rw [getD_set_ne true (by omega)]; exact hup k hk1 hk2
   ·refine hmon _ ?_
    by_cases ek : k = i
    ·subst ek
     have hyo : y = o := by rw [Array.getElem?_toList] at hy; exact Option.some.inj (hy.symm.trans h2)
     subst hyo
     have h4 := h3 e (by simpa using he) hb
     have hlt2 := hedge k y hy e (by simpa using he) hb
     have hjs : e.on < listed.size := by omega
     simpa [hjs] using h4
    ·rw [getD_set_ne true (fun h => ek h.symm)] at hk
     exact hdn k y hk hy e he hb
   ·have hki : k ≠ i := fun e => by
     subst e
     rcases List.mem_append.1 hk with hk | hk
     ·have := p3 k hk k (by simp); omega
     ·have := p2.1 k hk; omega
    rcases t2 j hj3 with hh | hh
    ·exact hN k (by rcases List.mem_append.1 hk with hk | hk; exact List.mem_append_left _ hk; exact List.mem_append_right _ (List.mem_cons_of_mem _ hk)) j hj1 hj2 hh
    ·omega
   ·rcases t2 j hj with hh | hh
    ·exact hB j hh
    ·omega
theorem QfM {all : List Oper} {es : List Edge} : ∀ {k : Nat}, Qg8 all es k = true → ∀ j, j < k → viaE all j 9 es = true
 | 0, _, j, hj => by omega
 | k + 1, h, j, hj => by
  simp only [Qg8, Bool.and_eq_true] at h
  by_cases e : j = k
  ·subst e; exact h.1
  ·exact QfM h.2 j (by omega)
theorem Qcz {all : List Oper} {k : Nat} : ∀ {l : List Oper}, Qez all k l = true → ∀ (j : Nat) (o : Oper), l[j]? = some o → viaE all k 9 o.after.toList = true
 | [], _, j, o, h => by simp at h
 | x :: r, h, j, o, hj => by
  simp only [Qez, Bool.and_eq_true] at h
  cases j with
  | zero => simp at hj; subst hj; exact h.1
  | succ j => exact Qcz h.2 j o (by simpa using hj)
theorem Qj0 {I : Inl} {m : Fu} {Γ : List Summ} {all : List Oper} {rows : List (Nat × List (Nat × Ann))} {lo base : Nat} {K : St → Option R} : ∀ {l : List Oper} {k : Nat} {σ : St} {prev : List (Nat × Oper × List Nat × List Nat)}, (∀ j, l[j]? = all[k + j]?) → k + l.length = all.length → lo ≤ k →
  (∀ j y rd wr, (j, y, rd, wr) ∈ prev → j < k ∧ all[j]? = some y) → (∀ j, lo ≤ j → j < k → ∃ y rd wr, (j, y, rd, wr) ∈ prev) → Qcw I P Γ m all rows l k base σ prev K = some r →
  ∃ hi fs σf, k ≤ hi ∧ hi ≤ all.length ∧ QdT P Γ m all base fs (List.range' k (hi - k)) σ σf ∧ Frm (J5 all) σ σf ∧
   (∀ (fs0 : Nat → List Nat × List Nat), (∀ j y rd wr, (j, y, rd, wr) ∈ prev → fs0 j = (rd, wr)) → ∀ i j x, lo ≤ j → j < i → k ≤ i → i < hi → all[i]? = some x → viaE all j 9 x.after.toList = true ∨ QgX all (fun n => if n < k then fs0 n else fs n) i j) ∧
   ((hi = all.length ∧ K { σf with nxt := base + 16 * all.length } = some r) ∨ ∃ o l' ann', hi < all.length ∧ all[hi]? = some o ∧ (∀ j, l'[j]? = all[hi + 1 + j]?) ∧ hi + 1 + l'.length = all.length ∧ look rows hi = some ann' ∧ Qg8 all o.after.toList hi = true ∧ Qez all hi l' = true ∧
    Qcw I P Γ m all rows (o :: l') hi base σf [] K = some r)
 | [], k, σ, prev, hl, hlen, hlo, hp, hall, hr => ⟨k, fun _ => ([], []), σ, Nat.le_refl _, by simp at hlen; omega, by rw [Nat.sub_self]; exact Eqv.refl _, Frm.refl _ _, fun fs0 _ i j x _ _ h1 h2 => by omega, .inl ⟨by simpa using hlen, by unfold Qcw at hr; exact hr⟩⟩
 | o :: l, k, σ, prev, hl, hlen, hlo, hp, hall, hr => by
  have h0 : all[k]? = some o := by have := hl 0; simpa using this.symm
  have hl' : ∀ j, l[j]? = all[k + 1 + j]? := fun j => by have := hl (j + 1); rw [List.getElem?_cons_succ] at this; rw [this]; congr 1; omega
  cases hlk : look rows k with
  | some ann' =>
   have hr2 := hr
   unfold Qcw at hr
   rw [hlk] at hr
   dsimp only at hr
   cases hv : Qg8 all o.after.toList k && Qez all k l with
   | false => rw [hv] at hr; cases hr
   | true =>
    rw [Bool.and_eq_true] at hv
    refine ⟨k, fun _ => ([], []), σ, Nat.le_refl _, by simp at hlen; omega, by rw [Nat.sub_self]; exact Eqv.refl _, Frm.refl _ _, fun fs0 _ i j x _ _ h1 h2 => by omega, .inr ⟨o, l, ann', by simp at hlen; omega, h0, hl', by simp at hlen; omega, hlk, hv.1, hv.2, ?_⟩⟩
    have e : Qcw I P Γ m all rows (o :: l) k base σ [] K = Qcw I P Γ m all rows (o :: l) k base σ prev K := by
     unfold Qcw; rw [hlk]
    rw [e]; exact hr2
  | none =>
   unfold Qcw at hr
   rw [hlk] at hr
   dsimp only at hr
   obtain ⟨f, σ1, s1, s2, s3, s4⟩ := Qpr (K := fun f σ' => Qcw I P Γ m all rows l (k + 1) base σ' ((k, o, f.1, f.2) :: prev) K) h0 hr
   obtain ⟨hi, fs, σf, g1, g2, c1, c4, c3, c2⟩ := Qj0 (lo := lo) (base := base) (l := l) (k := k + 1) hl' (by simp at hlen; omega) (by omega)
    (fun j y rd wr hm => by
     rcases List.mem_cons.1 hm with e | hm
     ·cases e; exact ⟨by omega, h0⟩
     ·obtain ⟨h1, h2⟩ := hp j y rd wr hm; exact ⟨by omega, h2⟩)
    (fun j hj1 hj => by
     by_cases e : j = k
     ·subst e; exact ⟨o, f.1, f.2, by simp⟩
     ·obtain ⟨y, rd, wr, hm⟩ := hall j hj1 (by omega); exact ⟨y, rd, wr, by simp [hm]⟩) s3
   refine ⟨hi, fun n => if n = k then f else fs n, σf, by omega, g2, ?_, s4.trans' c4, fun fs0 hfs i j x hj0 hji hik hih hx => ?_, c2⟩
   ·rw [show hi - k = (hi - (k + 1)) + 1 by omega, List.range'_succ]
    refine ⟨σ1, by simpa using s1, c1.fs_congr (fun i hi => ?_)⟩
    have := List.mem_range'_1.1 hi
    rw [if_neg (by omega)]
   ·have e1 : (fun n => if n < k + 1 then (if n < k then fs0 n else f) else fs n) = (fun n => if n < k then fs0 n else if n = k then f else fs n) := by
     funext n
     by_cases h1 : n < k
     ·simp [h1, show n < k + 1 by omega]
     ·by_cases h2 : n = k
      ·subst h2; simp
      ·simp [h1, h2, show ¬ n < k + 1 by omega]
    by_cases e : i = k
    ·subst e
     have : x = o := Option.some.inj (hx.symm.trans h0)
     subst this
     obtain ⟨y, rd, wr, hm⟩ := hall j hj0 hji
     rcases QdF s2 j y rd wr hm with hb | hb
     ·exact .inl hb
     ·refine .inr ⟨x, y, h0, (hp j y rd wr hm).2, ?_⟩
      simp only [Nat.lt_irrefl, if_false, if_true, hji]
      rw [hfs j y rd wr hm]
      exact hb
    ·have := c3 (fun n => if n < k then fs0 n else f) (fun j y rd wr hm => by
      rcases List.mem_cons.1 hm with e | hm
      ·cases e; simp
      ·obtain ⟨h1, _⟩ := hp j y rd wr hm
       simp only [h1, if_true]
       exact hfs j y rd wr hm) i j x hj0 hji (by omega) hih hx
     rw [e1] at this
     exact this
theorem QkS {I : Inl} (hI : Qpf P F I) {m : Fu} {Γ : List Summ} (hΓ : ∀ S ∈ Γ, Qau P F S) {ops : Array Oper} {rows : List (Nat × List (Nat × Ann))} {Q : Exit → Act → World → Prop} {K : St → Option R}
  (hedge : ∀ i o, ops.toList[i]? = some o → ∀ e ∈ o.after, Region.binds .any e = true → e.on < i) : ∀ (n : Nat) {l : List Oper} {k base : Nat} {ι : Nat → Value} {ok : Ok} {N : Nat → Prop} {σ : St} {a : Act} {w : World} {listed : Array Bool},
  l.length ≤ n → (∀ j, l[j]? = ops.toList[k + j]?) → k + l.length = ops.size → listed.size = ops.size → (∀ i, i < k → listed.getD i true = true) → (∀ i, k ≤ i → i < ops.size → listed.getD i true = false) →
  (∀ k o, listed.getD k true = true → ops.toList[k]? = some o → ∀ e ∈ o.after, Region.binds .any e = true → listed.getD e.on true = true) →
  Sim F ι ok N σ a w → Below N base → Qcw I P Γ m ops.toList rows l k base σ [] K = some r →
  (∀ σ' a' w' ι' ok' N', Sim F ι' ok' N' σ' a' w' → Below N' σ'.nxt → Frm (J5 ops.toList) σ σ' → K σ' = some r → Q .normal a' w') → wpAny P .any ops Q (ops.size - k) listed a w := by
 intro n
 induction n with
 | zero =>
  intro l k base ι ok N σ a w listed hn hl hlen hsz hd hu hc h hN hr hQ
  have : l = [] := List.length_eq_zero_iff.1 (by omega)
  subst this
  simp at hlen
  rw [hlen, Nat.sub_self]
  unfold Qcw at hr
  refine ⟨?_, hQ { σ with nxt := base + 16 * ops.toList.length } a w ι ok N ⟨h.tms, h.objs, h.apart, h.oks, h.keep, h.size, h.defs, h.pins, h.pls⟩ (fun i hi => by have := hN i hi; show i < base + 16 * ops.toList.length; omega) ⟨fun _ _ => rfl, rfl, fun _ _ h => h⟩ hr⟩
  cases hr : Region.ready .any ops listed with
  | nil => rfl
  | cons i r =>
   have hm : i ∈ Region.ready .any ops listed := by rw [hr]; simp
   obtain ⟨h1, o, h2, _⟩ := mem_ready.1 hm
   have hlt := (Array.getElem?_eq_some_iff.1 h2).1
   rw [hd i (by omega)] at h1; cases h1
 | succ n ih =>
  intro l k base ι ok N σ a w listed hn hl hlen hsz hd hu hc h hN hr hQ
  obtain ⟨hi, fs, σf, g1, g2, c1, c4, c3, c2⟩ := Qj0 (lo := k) (l := l) (k := k) (prev := []) hl (by simpa using hlen) (Nat.le_refl _) (fun j y rd wr hm => by cases hm) (fun j h1 h2 => by omega) hr
  have g2' : hi ≤ ops.size := by simpa using g2
  have hseg := Qqe (m := m) hΓ (base := base) (lo := k) (hi := hi) (fs := fs) (σf := σf) (Q := Q) g2' hedge (fun i j x h0 hji hih hx => by
   have := c3 (fun _ => ([], [])) (fun _ _ _ _ hm => by cases hm) i j x h0 hji (by omega) hih hx
   rcases this with hb | ⟨x1, y1, e1, e2, e3⟩
   ·exact .inl hb
   ·refine .inr ⟨x1, y1, e1, e2, ?_⟩
    simpa [show ¬ i < k by omega, show ¬ j < k by omega] using e3)
  have hfin := fun h1 h2 => hseg h1 h2 (hi - k) listed (List.range' k (hi - k)) σ a w ι ok N hsz (by simp) List.pairwise_lt_range' (fun i => by
   rw [List.mem_range'_1]
   constructor
   ·intro hi2; exact ⟨hi2.1, by omega, hu i hi2.1 (by omega)⟩
   ·intro hi2; omega) hd (fun i h1 h2 => hu i (by omega) h2) hc c1 h (fun i hi2 => hN.fresh (by omega)) (fun i hi2 => by have := hN i hi2; omega)
  rw [show hi - k + (ops.size - hi) = ops.size - k by omega] at hfin
  rcases c2 with ⟨e1, e2⟩ | ⟨o, l', ann', e1, e2, e3, e4, e5, e6, e7, e8⟩
  ·have e1 : hi = ops.size := by simpa using e1
   subst e1
   refine hfin (fun i x h1 hx => ?_) (fun listed' a' w' ι' ok' N' q1 q2 q3 q4 q5 => ?_)
   ·exfalso
    have := (List.getElem?_eq_some_iff.1 hx).1
    simp at this; omega
   ·rw [Nat.sub_self]
    refine ⟨?_, hQ { σf with nxt := base + 16 * ops.toList.length } a' w' ι' ok' N' ⟨q4.tms, q4.objs, q4.apart, q4.oks, q4.keep, q4.size, q4.defs, q4.pins, q4.pls⟩ (by simpa using q5) ⟨c4.tm, c4.n, c4.hp⟩ e2⟩
    cases hr : Region.ready .any ops listed' with
    | nil => rfl
    | cons i r =>
     have hm : i ∈ Region.ready .any ops listed' := by rw [hr]; simp
     obtain ⟨h1, o, h2, _⟩ := mem_ready.1 hm
     have hlt := (Array.getElem?_eq_some_iff.1 h2).1
     have := (q2 i hlt).1 h1; omega
  ·have e1' : hi < ops.size := by simpa using e1
   have e4' : hi + 1 + l'.length = ops.size := by simpa using e4
   have e2' : ops[hi]? = some o := by rw [← Array.getElem?_toList]; exact e2
   have hmem : o ∈ ops.toList := List.mem_of_getElem? e2
   have hfrm0 : Frm (J5 ops.toList) σ { σf with nxt := base + 16 * ops.toList.length } := ⟨c4.tm, c4.n, c4.hp⟩
   refine hfin (fun i x h1 hx => ?_) (fun listed' a' w' ι' ok' N' q1 q2 q3 q4 q5 => ?_)
   ·by_cases e : i = hi
    ·subst e
     have : x = o := Option.some.inj (hx.symm.trans e2)
     subst this
     exact .inl ⟨rfl, QfM e6⟩
    ·refine .inr ⟨by omega, Qcz e7 (i - (hi + 1)) x ?_⟩
     rw [e3, show hi + 1 + (i - (hi + 1)) = i by omega]; exact hx
   ·rw [show ops.size - hi = (ops.size - (hi + 1)) + 1 by omega]
    have hready : ∀ i, i ∈ Region.ready .any ops listed' → i = hi := fun i hi2 => by
     obtain ⟨h1, y, h2, h3⟩ := mem_ready.1 hi2
     have hlt := (Array.getElem?_eq_some_iff.1 h2).1
     have hge := (q2 i hlt).1 h1
     rcases Nat.lt_or_ge hi i with h5 | h5
     ·exfalso
      have hb := Qcz e7 (i - (hi + 1)) y (by rw [e3, show hi + 1 + (i - (hi + 1)) = i by omega, Array.getElem?_toList]; exact h2)
      have := QdX (D := fun k => listed'.getD k true = true) q3 9 (fun e he hb1 => by
       have h4 := h3 e (by simpa using he) hb1
       have hlt2 := hedge i y (by rw [Array.getElem?_toList]; exact h2) e (by simpa using he) hb1
       have hjs : e.on < listed'.size := by omega
       simpa [hjs] using h4) hb
      rw [(q2 hi e1').2 (Nat.le_refl _)] at this; cases this
     ·omega
    refine ⟨fun hr => ?_, fun i hi2 => ?_⟩
    ·exfalso
     have : hi ∈ Region.ready .any ops listed' := by
      rw [mem_ready]
      refine ⟨(q2 hi e1').2 (Nat.le_refl _), o, e2', fun e he hb => ?_⟩
      have hlt := hedge hi o e2 e he hb
      have hjs : e.on < listed'.size := by omega
      have h3 : listed'.getD e.on true = true := by
       cases hx : listed'.getD e.on true with
       | true => rfl
       | false => have := (q2 e.on (by omega)).1 hx; omega
      simpa [hjs] using h3
     rw [hr] at this; cases this
    ·have := hready i hi2
     subst this
     have hi3 := (mem_ready.1 hi2).2
     have hnext : ∀ {k : Nat → Prop}, True := fun {_} => trivial
     have sizes : (listed'.setIfInBounds i true).size = ops.size := by simpa using q1
     have lows : ∀ j, j < i + 1 → (listed'.setIfInBounds i true).getD j true = true := fun j hj => by
      by_cases e : j = i
      ·subst e; exact Qil _ _
      ·rw [getD_set_ne true (fun h => e h.symm)]
       cases hx : listed'.getD j true with
       | true => rfl
       | false => have := (q2 j (by omega)).1 hx; omega
     have ups : ∀ j, i + 1 ≤ j → j < ops.size → (listed'.setIfInBounds i true).getD j true = false := fun j h1 h2 => by
      rw [getD_set_ne true (by omega)]; exact (q2 j h2).2 (by omega)
     have clos : ∀ k o, (listed'.setIfInBounds i true).getD k true = true → ops.toList[k]? = some o → ∀ e ∈ o.after, Region.binds .any e = true → (listed'.setIfInBounds i true).getD e.on true = true := fun k y hk hy e he hb => by
      have hks := (List.getElem?_eq_some_iff.1 hy).1
      have hlt := hedge k y hy e he hb
      refine lows _ ?_
      rcases Nat.lt_or_ge i k with h5 | h5
      ·rw [ups k (by omega) (by simpa using hks)] at hk; cases hk
      ·omega
     have hsim : Sim F ι' ok' N' { σf with nxt := base + 16 * ops.toList.length } a' w' := ⟨q4.tms, q4.objs, q4.apart, q4.oks, q4.keep, q4.size, q4.defs, q4.pins, q4.pls⟩
     have hbel : Below N' (base + 16 * ops.toList.length) := by simpa using q5
     unfold Qcw at e8
     rw [e5] at e8
     dsimp only at e8
     rw [e6, e7] at e8
     simp only [Bool.and_self, cond_true] at e8
     unfold wpOp
     rw [e2']
     dsimp only
     refine Qfl hsim hbel e8 hmem Q (fun σ0 h0 hnx hf0 hr => ?_) (fun σ' a2 w2 ι2 ok2 N2 s1 s2 s3 s4 => ?_)
     ·split at hr
      ·rename_i c hop
       split at hr
       ·rename_i f hcc
        split at hr
        ·rename_i g caps hf
         refine .inl (Qjq hI h0 (by rw [hnx]; exact hbel) hop hcc hf hr Q (fun av σ' v w' ι' ok' N' h1 h2 h3 h4 h5 => ?_))
         cases hd2 : o.dst with
         | none =>
          rw [hd2] at h5
          refine ih (k := i + 1) (base := σ'.nxt) (σ := σ') (a := _) (by omega) e3 e4' sizes lows ups clos h1 h2 h5 (fun σ2 a2 w2 ι2 ok2 N2 t1 t2 t3 t4 => hQ σ2 a2 w2 ι2 ok2 N2 t1 t2 ((hfrm0.trans' hf0).trans' ?_) t4)
          exact ⟨fun t ht => (t3.tm t ht).trans (by simp [St.get, h4.tm]), t3.n.trans h4.n, fun i o ho => h4.hp i o (t3.hp i o ho)⟩
         | some d =>
          rw [hd2] at h5
          dsimp only at h5
          cases hb : Nat.blt d σ0.n with
          | false => simp [hb] at h5
          | true =>
           simp only [hb, cond_true] at h5
           have hdn : d < σ'.n := by rw [h4.n]; simpa using hb
           have h1' := h1.put h3 hdn
           refine ih (k := i + 1) (base := σ'.nxt) (σ := σ'.put (some d) av) (by omega) e3 e4' sizes lows ups clos h1' h2 h5 (fun σ2 a2 w2 ι2 ok2 N2 t1 t2 t3 t4 => hQ σ2 a2 w2 ι2 ok2 N2 t1 t2 ((hfrm0.trans' hf0).trans' ?_) t4)
           refine ⟨fun t ht => (t3.tm t ht).trans ?_, t3.n.trans h4.n, fun i o ho => h4.hp i o (t3.hp i o ho)⟩
           rw [St.get_put, if_neg (fun e : d = t => ht (by subst e; exact VI hmem hd2))]
           simp [St.get, h4.tm]
        ·cases hr
       ·cases hr
      ·cases hr
     ·exact ih (k := i + 1) (base := base + 16 * ops.toList.length + 16) (by omega) e3 e4' sizes lows ups clos s1 s2 s4 (fun σ2 a2 w2 ι2 ok2 N2 t1 t2 t3 t4 => hQ σ2 a2 w2 ι2 ok2 N2 t1 t2 ((hfrm0.trans' s3).trans' t3) t4)
end
end Go.Abs
namespace Go.Abs
def Qhy : AX → Exit
 | .normal => .normal
 | .exit i => .exit i
 | .ret => .ret
def QiF (P : Program) (c : Code) (ds : List Nat) (run : Run) : Prop :=
 ∀ {R : Type} (F : Fr) (ι : Nat → Value) (ok : Ok) (N : Nat → Prop) (σ : St) (a : Act) (w : World) (K : AX → St → Option R) (r : R), GOk P F.w0 F.ok0.p → Sim F ι ok N σ a w → Below N σ.nxt → run σ K = some r →
  ∀ Q : Exit → Act → World → Prop, (∀ e σ' a' w' ι' ok' N', Sim F ι' ok' N' σ' a' w' → Below N' σ'.nxt → Frm ds σ σ' → K e σ' = some r → Q (Qhy e) a' w') → c.wp P Q a w
section
variable {P : Program} {R : Type} {F : Fr} {ι : Nat → Value} {ok : Ok} {N : Nat → Prop} {σ σ0 : St} {a : Act} {w : World} {o : Oper} {r : R}
theorem QiF.use {c : Code} {ds : List Nat} {run : Run} (hrun : QiF P c ds run) {K : AX → St → Option R} (hG : GOk P F.w0 F.ok0.p) (h : Sim F ι ok N σ a w) (hN : Below N σ.nxt) (hr : run σ K = some r) (Q : Exit → Act → World → Prop)
 (hQ : ∀ e σ' a' w' ι' ok' N', Sim F ι' ok' N' σ' a' w' → Below N' σ'.nxt → Frm ds σ σ' → K e σ' = some r → Q (Qhy e) a' w') : c.wp P Q a w := hrun F ι ok N σ a w K r hG h hN hr Q hQ
theorem QeO : ∀ (l : List (Nat × Option Ob)) (i : Nat), look (QeU l) i = (look l i).map fun x => x.map fun b => ⟨false, b.o⟩
 | [], _ => rfl
 | (j, some ⟨d, o⟩) :: r, i => by
  simp only [QeU, Q8, QeO r i]
  split <;> rfl
 | (j, none) :: r, i => by
  simp only [QeU, Q8, QeO r i]
  split <;> rfl
theorem St.ob_clean (σ : St) (i : Nat) : σ.clean.ob i = σ.ob i := by
 unfold St.ob St.clean
 simp only [QeO]
 cases look σ.hp i with
 | none => rfl
 | some x => cases x <;> rfl
theorem Sim.clean (h : Sim F ι ok N σ a w) : Sim F ι ok N σ.clean a w where
 tms t := h.tms t
 objs id o ho := h.objs id o (by rw [St.ob_clean] at ho; exact ho)
 apart i j o p b hi hj := h.apart i j o p b (by rw [St.ob_clean] at hi; exact hi) (by rw [St.ob_clean] at hj; exact hj)
 oks := h.oks
 keep := h.keep
 size := h.size
 defs := h.defs
 pins := h.pins
 pls := h.pls
theorem AX.same_eq : ∀ {a b : AX}, a.same b = true → a = b
 | .normal, .normal, _ => rfl
 | .exit i, .exit j, h => by rw [Nat.eq_of_beq_eq_true h]
 | .ret, .ret, _ => rfl
 | .normal, .exit _, h => by cases h
 | .normal, .ret, h => by cases h
 | .exit _, .normal, h => by cases h
 | .exit _, .ret, h => by cases h
 | .ret, .normal, h => by cases h
 | .ret, .exit _, h => by cases h
theorem QkD {e : AX} {dead : List Nat} : ∀ {l : List (AX × Spec)} {x : exT l}, exIn σ0 l e σ = some x → ∃ sp p, (e, sp) ∈ l ∧ sp.take σ0 σ = some p ∧ ∀ {R : Type} (K : AX → St → Option R), QoV σ0 dead l x K = K e (sp.mk' σ0 dead p)
 | [], x, h => by cases h
 | [(e', sp)], x, h => by
  simp only [exIn] at h
  cases hb : e'.same e with
  | false => rw [hb] at h; cases h
  | true =>
   rw [hb] at h
   cases AX.same_eq hb
   exact ⟨sp, x, by simp, h, fun K => rfl⟩
 | (e', sp) :: y :: r, x, h => by
  simp only [exIn] at h
  cases hb : e'.same e with
  | true =>
   rw [hb] at h
   simp only [cond_true] at h
   cases AX.same_eq hb
   split at h
   ·rename_i p hp
    cases h
    exact ⟨sp, p, by simp, hp, fun K => rfl⟩
   ·cases h
  | false =>
   rw [hb] at h
   simp only [cond_false] at h
   split at h
   ·rename_i q hq
    cases h
    obtain ⟨sp', p, h1, h2, h3⟩ := QkD (l := y :: r) hq
    exact ⟨sp', p, List.mem_cons_of_mem _ h1, h2, fun K => h3 K⟩
   ·cases h
theorem Qfu : ∀ {a b : List Nat}, subB a b = true ↔ ∀ x ∈ a, x ∈ b
 | [], b => by simp [subB]
 | x :: r, b => by simp [subB, Qch, Qfu (a := r)]
theorem Qir {ds : List Nat} : ∀ {l : List (AX × Spec)}, exDs ds l = true → ∀ e sp, (e, sp) ∈ l → ∀ t ∈ fsts sp.tms, t ∈ ds
 | [], _, _, _, h => by cases h
 | (e', sp') :: r, h, e, sp, hm => by
  simp only [exDs, Bool.and_eq_true] at h
  rcases List.mem_cons.1 hm with e1 | hm
  ·cases e1; exact Qfu.1 h.1
  ·exact Qir h.2 e sp hm
theorem Qhz {ds : List Nat} : ∀ {l : List (AX × Spec)}, QjJ ds l = true → ∀ e sp, (e, sp) ∈ l → ∀ t ∈ ds, t ∈ sp.skip
 | [], _, _, _, h => by cases h
 | (e', sp') :: r, h, e, sp, hm => by
  simp only [QjJ, Bool.and_eq_true] at h
  rcases List.mem_cons.1 hm with e1 | hm
  ·cases e1; exact Qfu.1 h.1
  ·exact Qhz h.2 e sp hm
theorem Qjc : ∀ {tms : List (Nat × Bool × List CK)} {cs : List Cell} {t : Nat}, t ∉ fsts tms → look (putT tms cs) t = none
 | [], _, _, _ => rfl
 | (i, ag, ks) :: r, cs, t, h => by
  simp only [fsts, List.mem_cons, not_or] at h
  simp only [putT, Q8]
  rw [if_neg (fun e => h.1 e.symm)]
  exact Qjc h.2
theorem Qjd : ∀ {bxs : List (Nat × List CK)} {cs : List Cell} {t : Nat}, t ∉ fsts bxs → look (putB bxs cs) t = none
 | [], _, _, _ => rfl
 | (i, ks) :: r, cs, t, h => by
  simp only [fsts, List.mem_cons, not_or] at h
  simp only [putB, Q8]
  rw [if_neg (fun e => h.1 e.symm)]
  exact Qjd h.2
theorem Qbd : ∀ {ks : List CK} {p : (tupT (pay ks)).den} {i : Nat}, i ∉ tgts ks → look (VR ks p) i = none
 | [], _, _, _ => rfl
 | .cst _ :: ks, p, i, h => Qbd (ks := ks) h
 | .dat _ :: ks, p, i, h => Qbd (ks := ks) h
 | .own t g mu :: ks, p, i, h => by
  simp only [tgts, List.mem_cons, not_or] at h
  simp only [VR, Q8]
  rw [if_neg (fun e => h.1 e.symm)]
  exact Qbd h.2
theorem Qhj : ∀ {bxs : List (Nat × List CK)} {cs : List Cell} {i : Nat} {b : Option Ob}, look (putB bxs cs) i = some b → ∃ o, b = some ⟨true, o⟩
 | [], _, _, _, h => by cases h
 | (j, ks) :: r, cs, i, b, h => by
  simp only [putB, Q8] at h
  split at h
  ·cases h; exact ⟨_, rfl⟩
  ·exact Qhj h
theorem QaV : ∀ {ks : List CK} {p : (tupT (pay ks)).den} {i : Nat} {b : Option Ob}, look (VR ks p) i = some b → ∃ o, b = some ⟨true, o⟩
 | [], _, _, _, h => by cases h
 | .cst _ :: ks, p, i, b, h => QaV (ks := ks) h
 | .dat _ :: ks, p, i, b, h => QaV (ks := ks) h
 | .own t g mu :: ks, p, i, b, h => by
  simp only [VR, Q8] at h
  split at h
  ·cases h; exact ⟨_, rfl⟩
  ·exact QaV h
theorem Qnt {sp : Spec} {ds : List Nat} (hd : ∀ t ∈ fsts sp.tms, t ∈ ds) (p : sp.ty.den) : Frm ds σ0 (sp.mk' σ0 ds p) := by
 refine ⟨fun t ht => ?_, rfl, fun id o h => ?_⟩
 ·simp only [St.get, Spec.mk', QbJ, Qjc (fun h => ht (hd t h)), Qf9, if_neg ht]
 ·simp only [Spec.mk', QbJ] at h
  split at h
  ·rename_i v hv
   obtain ⟨o', rfl⟩ := Qhj hv
   cases h
  ·split at h
   ·rename_i v hv
    obtain ⟨o', rfl⟩ := QaV hv
    cases h
   ·rw [Qde] at h
    split at h
    ·cases h
    ·exact h
theorem Qra {sp : Spec} {ds : List Nat} {p : sp.ty.den} {id : Nat} {o : AO} (h : (sp.mk' σ0 ds p).ob id = some o) (hs : id ∉ sp.skip) (ht : id ∉ tgts sp.cks) : σ0.ob id = some o := by
 simp only [Spec.skip, List.mem_append, not_or] at hs
 obtain ⟨d, h⟩ := Qnj h
 simp only [Spec.mk', QbJ, Qjd hs.2.1, Qbd ht, Qde, if_neg hs.1] at h
 simp [St.ob, h]
theorem QjO : ∀ (ars : List (Nat × Ty × MK)), tgts (cksA ars) = fsts ars
 | [] => rfl
 | (id, t, mu) :: r => by simp [cksA, tgts, fsts, QjO r]
theorem QmH {sp : Spec} {p : sp.ty.den} (h : sp.take σ0 σ = some p) {id : Nat} (hlt : id < σ0.nxt) (hs : id ∉ sp.skip) : id ∉ tgts sp.cks := by
 unfold Spec.take at h
 split at h
 ·cases h
 ·rename_i cs hcs
  simp only at h
  cases hb : Qbt (srcs sp.cks cs) && Qbt (tgts (cksT sp.tms ++ cksB sp.bxs) ++ (fsts sp.ars ++ fsts sp.bxs)) && QkO σ0.nxt (tgts (cksT sp.tms ++ cksB sp.bxs)) && Qev sp.nxt (tgts (cksT sp.tms ++ cksB sp.bxs)) && Nat.ble σ0.nxt sp.nxt &&
    Qev σ0.nxt (fsts sp.ars ++ fsts sp.bxs) && Qcp σ0.nxt sp.cks && Qev σ0.n (fsts sp.tms) && Vi σ0 (freezeCk σ sp.cks cs) sp.skip (srcs sp.cks cs) σ0.hp with
  | false => rw [hb] at h; cases h
  | true =>
   simp only [Bool.and_eq_true] at hb
   obtain ⟨⟨⟨⟨⟨⟨⟨⟨b1, b2⟩, b3⟩, b4⟩, b5⟩, b6⟩, b7⟩, b8⟩, b9⟩ := hb
   have b3 := (QgJ _ _).1 b3
   intro hm
   have e : tgts sp.cks = tgts (cksT sp.tms ++ cksB sp.bxs) ++ fsts sp.ars := by
    show tgts (cksT sp.tms ++ (cksB sp.bxs ++ cksA sp.ars)) = _
    rw [← List.append_assoc, QdZ, QjO]
   rw [e] at hm
   rcases List.mem_append.1 hm with hm | hm
   ·exact absurd (b3 _ hm) (Nat.not_le.2 hlt)
   ·exact hs (List.mem_append_right _ (List.mem_append_right _ hm))
theorem Sim.ids (h : Sim F ι ok N σ a w) (hN : Below N σ.nxt) : (∀ t, (σ.get t).idsIn (· < σ.nxt)) ∧ ∀ id o, σ.ob id = some o → id < σ.nxt ∧ o.idsIn (· < σ.nxt) := by
 have hc : ∀ c : Cell, c.idsIn N → c.idsIn (· < σ.nxt) := fun c hc => by
  cases c <;> first | trivial | exact hN _ hc | exact fun c h => hN _ (hc c h)
 have hv : ∀ x : V1, x.idsIn N → x.idsIn (· < σ.nxt) := fun x hx => by
  cases x with
  | one c => exact hc c hx
  | agg cs => exact fun c h => hc c (hx c h)
 refine ⟨fun t => ?_, fun id o ho => ?_⟩
 ·have := (h.tms t).ids
  cases hx : σ.get t with
  | val x => rw [hx] at this; exact hv x this
  | tup l => rw [hx] at this; exact fun x h => hv x (this x h)
 ·obtain ⟨g1, g2, _⟩ := h.objs id o ho
  have := g2.ids
  refine ⟨hN id g1, ?_⟩
  cases o with
  | box cs => exact fun c h => hc c (this c h)
  | arr t xs mu => trivial
theorem QmN {c : Code} {ds : List Nat} {exits : List (AX × Spec)} {run : Run} (hrun : QiF P c ds run) : QiF P c ds (QmO ds exits run) := by
 intro R F ι ok N σ a w K r hG h hN hr Q hQ
 unfold QmO at hr
 cases hd : exDs ds exits with
 | false => rw [hd] at hr; cases hr
 | true =>
  rw [hd] at hr
  simp only [Bool.not_true, cond_false] at hr
  cases hx : run (R := exT exits) σ.clean (exIn σ exits) with
  | none => rw [hx] at hr; cases hr
  | some x =>
   rw [hx] at hr
   simp only [Option.bind_some] at hr
   obtain ⟨i1, i2⟩ := h.ids hN
   have hpin : ∀ x ∈ F.pin, x.1 < σ.nxt := fun x hx => hN _ (h.pins x hx).1
   refine hrun F ι ok N σ.clean a w (exIn σ exits) x hG h.clean hN hx Q (fun e σ' a' w' ι' ok' N' s1 s2 s3 s4 => ?_)
   obtain ⟨sp, p, m1, m2, m3⟩ := QkD (dead := ds) s4
   obtain ⟨ι2, ok2, N2, t1, t2, t3⟩ := QhT (σ0 := σ) (dead := ds) s1 hpin s3.n (fun t _ => i1 t) i2 (fun t ht => s3.tm t ht) (fun id o ho _ _ => by
    have := s3.hp id o ho
    rw [← St.ob_clean]; simp [St.ob, this]) m2
   exact hQ e _ a' w' ι2 ok2 N2 t1 t2 (Qnt (Qir hd e sp m1) p) (by rw [← m3 K]; exact hr)
theorem QfK {ann : List (Nat × Ann)} {p : Nat} {c : Code} {ds : List Nat} {run : Run} (hrun : QiF P c ds run) : QiF P c ds (wrap ann p ds run) := by
 unfold wrap
 split
 ·exact QmN hrun
 ·exact hrun
theorem QpU {J : Nat → Prop} (h : ∃ n, J n) : ∃ n, J n ∧ ∀ m, J m → n ≤ m := by
 obtain ⟨n, hn⟩ := h
 induction n using Nat.strongRecOn with
 | _ n ih =>
  by_cases hm : ∃ m, m < n ∧ J m
  ·obtain ⟨m, h1, h2⟩ := hm; exact ih m h1 h2
  ·exact ⟨n, hn, fun m hj => Nat.le_of_not_lt fun hlt => hm ⟨m, hlt, hj⟩⟩
theorem Qoq {c : Code} {Q : Exit → Act → World → Prop} (J : Nat → Act → World → Prop) {n : Nat} {a : Act} {w : World} (h : J n a w)
  (round : ∀ n a w, J n a w → c.wp P (Exit.then (fun a' w' => ∃ m, m < n ∧ J m a' w') Q) a w) : (Code.loop c).wp P Q a w := by
 classical
 let μ : Act → World → Nat := fun a w => if h : ∃ n, J n a w then (QpU h).choose else 0
 have hμ : ∀ a w, (∃ n, J n a w) → J (μ a w) a w ∧ ∀ m, J m a w → μ a w ≤ m := fun a w h => by
  have e : μ a w = (QpU h).choose := dif_pos h
  rw [e]; exact (QpU h).choose_spec
 refine wp_loop (fun a w => ∃ n, J n a w) μ ⟨n, h⟩ (fun a w hI => ?_)
 refine wp_mono (round (μ a w) a w (hμ a w hI).1) (fun e a' w' hq => ?_)
 cases e with
 | normal =>
  obtain ⟨m, h1, h2⟩ := hq
  exact ⟨⟨m, h2⟩, Nat.lt_of_le_of_lt ((hμ a' w' ⟨m, h2⟩).2 m h2) h1⟩
 | _ => exact hq
theorem QnC {A B : Type} {m : Fu} {f : A → Option (Step A B)} {x : A} {y : B} (h : iter m f x = some y) : ∃ n, QaG f n x = some y := by
 cases m with
 | some n => exact ⟨n, h⟩
 | none =>
  have h : QpX f x = some y := h
  unfold QpX at h
  by_cases hh : ∃ r n, QaG f n x = some r
  ·rw [dif_pos hh] at h
   injection h with h
   rw [← h]; exact hh.choose_spec
  ·rw [dif_neg hh] at h; cases h
theorem Qip {I : Inl} (hI : Qoo P I) {m : Fu} {Γ : List Summ} (hΓ : ∀ S ∈ Γ, Qal P S) (hmix : P.follows .mixedOrders = true) {ann : List (Nat × Ann)} : ∀ (c : Code) (p : Nat), QiF P c (dsts c) (exec I P Γ m ann c p) := by
 intro c
 induction c with
 | skip =>
  intro p R F ι ok N σ a w K r hG h hN hr Q hQ
  exact wp_skip (hQ .normal σ a w ι ok N h hN (Frm.refl _ _) hr)
 | label l =>
  intro p R F ι ok N σ a w K r hG h hN hr Q hQ
  exact wp_label (hQ .normal σ a w ι ok N h hN (Frm.refl _ _) hr)
 | exit i =>
  intro p R F ι ok N σ a w K r hG h hN hr Q hQ
  exact wp_exit (hQ (.exit i) σ a w ι ok N h hN (Frm.refl _ _) hr)
 | ret =>
  intro p R F ι ok N σ a w K r hG h hN hr Q hQ
  exact wp_ret (hQ .ret σ a w ι ok N h hN (Frm.refl _ _) hr)
 | region id ops draw =>
  intro p
  refine QfK (c := .region id ops draw) (ds := J5 ops.toList) ?_
  intro R F ι ok N σ a w K r hG h hN hr Q hQ
  dsimp only at hr
  split at hr
  ·rename_i rows _
   cases draw with
   | true =>
    dsimp only at hr
    cases he : Qgv 0 ops.toList with
    | false => rw [he] at hr; cases hr
    | true =>
     rw [he] at hr
     simp only [cond_true] at hr
     refine wp_region_any hmix ?_
     have := QkS (P := P) (Q := Q) (hI F hG) (fun S hS => (hΓ S hS).at hG) (ops := ops) (fun i o hi e hm hb => by have := QdM he i o hi e hm hb; omega) ops.size (l := ops.toList) (k := 0) (base := σ.nxt) (listed := Array.replicate ops.size false) (by simp) (fun j => by simp) (by simp) (by simp) (fun i hi => by omega) (fun i _ hi => by simp [hi]) (fun k o hk hy e he hb => by
      exfalso
      have hks : k < ops.size := by rw [Array.getElem?_toList] at hy; exact (Array.getElem?_eq_some_iff.1 hy).1
      simp [hks] at hk) h.drew hN hr (fun σ' a' w' ι' ok' N' s1 s2 s3 s4 => hQ .normal σ' a' w' ι' ok' N' s1 s2 s3 s4)
     simpa using this
   | false =>
    dsimp only at hr
    refine wp_region ?_
    have := QbF (l := ops.toList) (k := 0) (Q := Q) (hI F hG) (fun S hS => (hΓ S hS).at hG) (fun j => by simp) h hN hr (fun σ' a' w' ι' ok' N' s1 s2 s3 s4 => hQ .normal σ' a' w' ι' ok' N' s1 s2 s3 s4)
    rw [List.range_eq_range']; simpa using this
  cases draw with
  | false =>
   refine wp_region ?_
   have := QhN (l := ops.toList) (k := 0) (nb := σ.nxt) (Q := Q) (fun S hS => (hΓ S hS).at hG) (fun j => by simp) h hN hr (fun σ' a' w' ι' ok' N' s1 s2 s3 s4 => ?_)
   ·rw [List.range_eq_range']; simpa using this
   ·exact hQ .normal { σ' with nxt := σ.nxt + 16 * ops.toList.length } a' w' ι' ok' N' ⟨s1.tms, s1.objs, s1.apart, s1.oks, s1.keep, s1.size, s1.defs, s1.pins, s1.pls⟩ s2 ⟨s3.tm, s3.n, s3.hp⟩ s4
  | true =>
   dsimp only at hr
   cases he : Qgv 0 ops.toList with
   | false => rw [he] at hr; cases hr
   | true =>
    rw [he] at hr
    simp only [cond_true] at hr
    obtain ⟨fs, σf, c1, c2, c4, c3⟩ := QgR (base := σ.nxt) (l := ops.toList) (k := 0) (prev := []) (fun j => by simp) (fun j y rd wr hm => by cases hm) (fun j hj => by omega) hr
    refine wp_region_any hmix (Qn7 (base := σ.nxt) (fs := fs) (σf := σf) (fun S hS => (hΓ S hS).at hG) (fun i o hi e hm hb => by have := QdM he i o hi e hm hb; omega) (fun i j x hji hx => ?_) (fun a' w' ι' ok' N' s1 s2 => ?_) ops.size _ (List.range' 0 ops.toList.length) σ a _ ι ok N (by simp) (by simp) ?_ (fun i => ?_) (fun k y hk hy e he hb => ?_) c1 h.drew (fun i _ => hN.fresh (by omega)) (fun i hi => by have := hN i hi; omega))
    ·have := c3 (fun _ => ([], [])) (fun _ _ _ _ hm => by cases hm) i j x hji (Nat.zero_le _) hx
     simpa using this
    ·exact hQ .normal { σf with nxt := σ.nxt + 16 * ops.toList.length } a' w' ι' ok' N' ⟨s1.tms, s1.objs, s1.apart, s1.oks, s1.keep, s1.size, s1.defs, s1.pins, s1.pls⟩ (by simpa using s2) ⟨c4.tm, c4.n, c4.hp⟩ c2
    ·exact List.pairwise_lt_range'
    ·rw [List.mem_range'_1]
     simp
     intro hi
     simp [hi]
    ·exfalso
     have hks : k < ops.size := by rw [Array.getElem?_toList] at hy; exact (Array.getElem?_eq_some_iff.1 hy).1
     simp [hks] at hk
 | seq x y ihx ihy =>
  intro p
  refine QfK (c := .seq x y) (ds := app (dsts x) (dsts y)) ?_
  intro R F ι ok N σ a w K r hG h hN hr Q hQ
  refine wp_seq (ihx (2 * p) F ι ok N σ a w _ r hG h hN hr _ (fun e σ' a' w' ι' ok' N' s1 s2 s3 s4 => ?_))
  have hfrm : ∀ e, K e σ' = some r → Q (Qhy e) a' w' := fun e he => hQ e σ' a' w' ι' ok' N' s1 s2 (by
   refine ⟨fun t ht => s3.tm t (fun hh => ht (by rw [Qm]; exact List.mem_append_left _ hh)), s3.n, s3.hp⟩) he
  cases e with
  | normal =>
   exact ihy (2 * p + 1) F ι' ok' N' σ' a' w' K r hG s1 s2 s4 Q (fun e2 σ2 a2 w2 ι2 ok2 N2 t1 t2 t3 t4 => hQ e2 σ2 a2 w2 ι2 ok2 N2 t1 t2 (s3.trans t3) t4)
  | exit i => exact hfrm (.exit i) s4
  | ret => exact hfrm .ret s4
 | cond c x y ihx ihy =>
  intro p
  refine QfK (c := .cond c x y) (ds := app (dsts x) (dsts y)) ?_
  intro R F ι ok N σ a w K r hG h hN hr Q hQ
  have hc := h.ev c
  dsimp only at hr
  split at hr
  ·rename_i t ht
   rw [ht] at hc
   have hv : a.eval c = .bool t := by have : [a.eval c] = [.bool t] := hc; simpa using this
   refine wp_cond hv ?_
   cases t with
   | true =>
    exact ihx (2 * p) F ι ok N σ a w K r hG h hN hr Q (fun e σ' a' w' ι' ok' N' s1 s2 s3 s4 => hQ e σ' a' w' ι' ok' N' s1 s2 ⟨fun t ht => s3.tm t (fun hh => ht (by rw [Qm]; exact List.mem_append_left _ hh)), s3.n, s3.hp⟩ s4)
   | false =>
    exact ihy (2 * p + 1) F ι ok N σ a w K r hG h hN hr Q (fun e σ' a' w' ι' ok' N' s1 s2 s3 s4 => hQ e σ' a' w' ι' ok' N' s1 s2 ⟨fun t ht => s3.tm t (fun hh => ht (by rw [Qm]; exact List.mem_append_right _ hh)), s3.n, s3.hp⟩ s4)
  ·cases hr
 | scope b ih =>
  intro p
  refine QfK (c := .scope b) (ds := dsts b) ?_
  intro R F ι ok N σ a w K r hG h hN hr Q hQ
  refine wp_scope_straight (ih (2 * p) F ι ok N σ a w _ r hG h hN hr _ (fun e σ' a' w' ι' ok' N' s1 s2 s3 s4 => ?_))
  cases e with
  | normal => exact hQ .normal σ' a' w' ι' ok' N' s1 s2 s3 s4
  | ret => exact hQ .ret σ' a' w' ι' ok' N' s1 s2 s3 s4
  | exit i => exact hQ (.exit i) σ' a' w' ι' ok' N' s1 s2 s3 s4
 | block id b ih =>
  intro p
  refine QfK (c := .block id b) (ds := dsts b) ?_
  intro R F ι ok N σ a w K r hG h hN hr Q hQ
  refine wp_block (ih (2 * p) F ι ok N σ a w _ r hG h hN hr _ (fun e σ' a' w' ι' ok' N' s1 s2 s3 s4 => ?_))
  cases e with
  | normal => exact hQ .normal σ' a' w' ι' ok' N' s1 s2 s3 s4
  | ret => exact hQ .ret σ' a' w' ι' ok' N' s1 s2 s3 s4
  | exit i =>
   show Exit.inBlock id Q (.exit i) a' w'
   simp only [Exit.inBlock]
   dsimp only at s4
   cases hb : Nat.beq i id with
   | true =>
    rw [hb] at s4
    rw [if_pos (Nat.eq_of_beq_eq_true hb)]
    exact hQ .normal σ' a' w' ι' ok' N' s1 s2 s3 s4
   | false =>
    rw [hb] at s4
    rw [if_neg (fun e => by subst e; simp at hb)]
    exact hQ (.exit i) σ' a' w' ι' ok' N' s1 s2 s3 s4
 | loop b ih =>
  intro p R F ι ok N σ a w K r hG h hN hr Q hQ
  unfold exec at hr
  split at hr
  case h_2 => cases hr
  rename_i head exits _
  cases hc : exDs (dsts b) exits && subB (fsts head.tms) (dsts b) && QjJ head.skip exits with
  | false => rw [hc] at hr; cases hr
  | true =>
   rw [hc] at hr
   simp only [Bool.not_true, cond_false] at hr
   simp only [Bool.and_eq_true] at hc
   obtain ⟨⟨c1, c2⟩, c3⟩ := hc
   have c2 := Qfu.1 c2
   split at hr
   case h_2 => cases hr
   rename_i p0 hp0
   obtain ⟨i1, i2⟩ := h.ids hN
   have hpin : ∀ x ∈ F.pin, x.1 < σ.nxt := fun x hx => hN _ (h.pins x hx).1
   cases hx : iter m (Qf7 σ head exits (dsts b) (exec I P Γ m ann b (2 * p))) p0 with
   | none => rw [hx] at hr; cases hr
   | some x =>
    rw [hx] at hr
    simp only [Option.bind_some] at hr
    obtain ⟨n, hn⟩ := QnC hx
    obtain ⟨ι0, ok0, N0, t1, t2, t3⟩ := QhT (σ0 := σ) (dead := dsts b) h.clean hpin rfl (fun t _ => i1 t) i2 (fun t _ => rfl) (fun id o ho _ _ => by
     rw [← St.ob_clean]; simp [St.ob, ho]) hp0
    refine Qoq (fun n a w => ∃ q ι ok N, QaG (Qf7 σ head exits (dsts b) (exec I P Γ m ann b (2 * p))) n q = some x ∧ Sim F ι ok N (head.mk' σ (dsts b) q).clean a w ∧ Below N head.nxt) (n := n) ⟨p0, ι0, ok0, N0, hn, t1.clean, t2⟩ ?_
    rintro n a1 w1 ⟨q, ι1, ok1, N1, j1, j2, j3⟩
    cases n with
    | zero => cases j1
    | succ n =>
     simp only [QaG] at j1
     have hcl : ∀ {σ' : St} {sp : Spec}, Frm (dsts b) (head.mk' σ (dsts b) q).clean σ' → (∀ t ∈ head.skip, t ∈ sp.skip) → ∀ id o, look σ'.hp id = some (some ⟨false, o⟩) → id < σ.nxt → id ∉ sp.skip → σ.ob id = some o := fun s3 hsk id o ho hlt hns => by
      have h1 := s3.hp id o ho
      have h2 : (head.mk' σ (dsts b) q).ob id = some o := by rw [← St.ob_clean]; simp [St.ob, h1]
      have hns' : id ∉ head.skip := fun hh => hns (hsk id hh)
      exact Qra h2 hns' (QmH hp0 hlt hns')
     have htm : ∀ {σ' : St}, Frm (dsts b) (head.mk' σ (dsts b) q).clean σ' → ∀ t, t ∉ dsts b → σ'.get t = σ.get t := fun s3 t ht => (s3.tm t ht).trans ((Qnt c2 q).tm t ht)
     split at j1
     ·rename_i q' hq'
      refine QiF.use (ih (2 * p)) (r := Step.next q') hG j2 j3 hq' _ (fun e σ' a' w' ι' ok' N' s1 s2 s3 s4 => ?_)
      cases e with
      | normal =>
       dsimp only at s4
       split at s4
       ·rename_i q2 hq2
        cases s4
        obtain ⟨ι2, ok2, N2, u1, u2, u3⟩ := QhT (σ0 := σ) (dead := dsts b) s1 hpin s3.n (fun t _ => i1 t) i2 (htm s3) (hcl s3 (fun _ h => h)) hq2
        exact ⟨n, by omega, q', ι2, ok2, N2, j1, u1.clean, u2⟩
       ·cases s4
      | exit i => dsimp only at s4; split at s4 <;> cases s4
      | ret => dsimp only at s4; split at s4 <;> cases s4
     ·rename_i x' hx'
      cases j1
      refine QiF.use (ih (2 * p)) (r := Step.fin x) hG j2 j3 hx' _ (fun e σ' a' w' ι' ok' N' s1 s2 s3 s4 => ?_)
      have fin : e ≠ .normal → (match exIn σ exits e σ' with | some x => some (Step.fin (A := head.ty.den) x) | none => none) = some (.fin x) → Q (Qhy e) a' w' := fun _ s4 => by
       split at s4
       ·rename_i x2 hx2
        cases s4
        obtain ⟨sp, pp, m1, m2, m3⟩ := QkD (dead := dsts b) hx2
        obtain ⟨ι2, ok2, N2, u1, u2, u3⟩ := QhT (σ0 := σ) (dead := dsts b) s1 hpin s3.n (fun t _ => i1 t) i2 (htm s3) (hcl s3 (Qhz c3 e sp m1)) m2
        exact hQ e _ a' w' ι2 ok2 N2 u1 u2 (Qnt (Qir c1 e sp m1) pp) (by rw [← m3 K]; exact hr)
       ·cases s4
      cases e with
      | normal => dsimp only at s4; split at s4 <;> cases s4
      | exit i => exact fin (by simp) s4
      | ret => exact fin (by simp) s4
     ·cases j1
 | _ => intro p R F ι ok N σ a w K r hG h hN hr Q hQ; cases hr
end
end Go.Abs
namespace Go.Abs
section
variable {P : Program} {R : Type} {F : Fr} {ι : Nat → Value} {ok : Ok} {N : Nat → Prop} {σ σ0 : St} {a : Act} {w : World} {o : Oper} {r : R}
theorem Qlt : ∀ (l : List AV) (i t : Nat), look (enum i l) t = if i ≤ t then l[t - i]? else none
 | [], i, t => by simp [enum, look]
 | x :: r, i, t => by
  simp only [enum, Q8]
  rw [Qlt r (i + 1) t]
  by_cases h : i = t
  ·subst h; simp
  ·rw [if_neg h]
   by_cases h1 : i + 1 ≤ t
   ·rw [if_pos h1, if_pos (by omega), show t - i = (t - (i + 1)) + 1 from by omega]; rfl
   ·rw [if_neg h1, if_neg (by omega)]
theorem All2.getOpt {α β : Type} {Q : α → β → Prop} : ∀ {l : List α} {m : List β} {j : Nat} {x : α}, All2 Q l m → l[j]? = some x → ∃ y, m[j]? = some y ∧ Q x y
 | [], _, _, _, _, h => by simp at h
 | _ :: _, [], _, _, h, _ => h.elim
 | _ :: _, b :: _, 0, _, h, hx => by cases hx; exact ⟨b, rfl, h.1⟩
 | _ :: l, _ :: m, j + 1, _, h, hx => by
  obtain ⟨y, h1, h2⟩ := All2.getOpt (l := l) (m := m) (j := j) h.2 (by simpa using hx)
  exact ⟨y, by simpa using h1, h2⟩
def QkP (ι : Nat → Value) (σ : St) : List (Nat × Option Ob) → List Nat
 | [] => []
 | (i, _) :: r => (match σ.ob i with | some _ => (blk (ι i)).toList | none => []) ++ QkP ι σ r
theorem QlO (ι : Nat → Value) (σ : St) {i : Nat} {o : AO} (ho : σ.ob i = some o) {b : Nat} (hb : blk (ι i) = some b) : ∀ {l : List (Nat × Option Ob)} {x : Option Ob}, look l i = some x → b ∈ QkP ι σ l
 | [], _, h => by cases h
 | (j, y) :: l, x, h => by
  rw [Q8] at h
  simp only [QkP, List.mem_append]
  by_cases e : j = i
  ·subst e; left; rw [ho]; simp [hb]
  ·rw [if_neg e] at h; right; exact QlO ι σ ho hb h
theorem QlN (ι : Nat → Value) (σ : St) {b : Nat} : ∀ {l : List (Nat × Option Ob)}, b ∈ QkP ι σ l → ∃ i o, σ.ob i = some o ∧ blk (ι i) = some b
 | [], h => by cases h
 | (j, y) :: l, h => by
  simp only [QkP, List.mem_append] at h
  rcases h with h | h
  ·cases ho : σ.ob j with
   | none => rw [ho] at h; cases h
   | some o => rw [ho] at h; exact ⟨j, o, ho, by simpa using h⟩
  ·exact QlN ι σ h
open Classical in
def Qm9 (ι : Nat → Value) (N : Nat → Prop) (n : Nat) : List (Nat × Value) := ((List.range n).filter fun i => decide (N i)).map fun i => (i, ι i)
theorem Qlq {m : Fu} {Γ : List Summ} (hΓ : ∀ S ∈ Γ, Qal P S) (hmix : P.follows .mixedOrders = true) : ∀ l : Nat, Qoo P (QoO P Γ m l)
 | 0 => QoJ
 | l + 1 => by
  intro F hG R g ann args σ K r hr ι ok N a w vs h hN hargs
  simp only [QoO] at hr
  split at hr
  ·cases hr
  ·rename_i fn hf
   split at hr
   ·cases hr
   ·rename_i c hbody
    cases hc : !(Nat.ble args.length fn.ntmps) || (fn.name == "runtime.NumGoroutine") with
    | true => simp [hc] at hr
    | false =>
     simp only [hc, cond_false] at hr
     rw [Bool.or_eq_false_iff, Bool.not_eq_false'] at hc
     have c1 := Nat.le_of_ble_eq_true hc.1
     have hlen : vs.length = args.length := hargs.len.symm
     have hrun : (callFunc g vs.toArray).run P w = .ok (.enter g vs.toArray) w := by
      have hn : ¬ fn.name = "runtime.NumGoroutine" := by simpa using hc.2
      simp [callFunc, hf, hn, hbody]
     unfold Ends
     dsimp only
     rw [hrun]
     dsimp only
     refine calls_of_wp hf hbody ?_
     let a0 : Act := { tmps := vs.toArray ++ Array.replicate (fn.ntmps - vs.toArray.size) undef, defers := [] }
     let cd : List Nat := (List.range w.heap.size).filter fun b => @decide (∃ j, ok.c b j ∨ ok.d b j) (Classical.propDecidable _)
     have hcd : ∀ b j, ok.c b j ∨ ok.d b j → b ∈ cd := fun b j hk => List.mem_filter.2 ⟨List.mem_range.2 (h.oks b j (.inr hk)), by simp; exact ⟨j, hk⟩⟩
     have hcd2 : ∀ b, b ∈ cd → F.w0.heap.size ≤ b ∨ b ∈ F.S := fun b hb => by
      have := (List.mem_filter.1 hb).2
      simp at this
      obtain ⟨j, hk⟩ := this
      exact (h.pls.cs b j hk).2.1
     let F' : Fr := ⟨w, QkP ι σ σ.hp ++ cd, ok, Qm9 ι N σ.nxt⟩
     have hpin : ∀ i v, (i, v) ∈ Qm9 ι N σ.nxt ↔ (i < σ.nxt ∧ N i ∧ v = ι i) := fun i v => by
      simp only [Qm9, List.mem_map, List.mem_filter, List.mem_range, decide_eq_true_eq, Prod.mk.injEq]
      constructor
      ·rintro ⟨j, ⟨h1, h2⟩, rfl, rfl⟩; exact ⟨h1, h2, rfl⟩
      ·rintro ⟨h1, h2, rfl⟩; exact ⟨i, ⟨h1, h2⟩, rfl, rfl⟩
     have h0 : Sim F' ι ok N ⟨enum 0 args, σ.hp, σ.nxt, fn.ntmps⟩ a0 w := by
      refine ⟨fun t => ?_, fun id o ho => ?_, h.apart, h.oks, ⟨Nat.le_refl _, fun _ _ _ => rfl, rfl, rfl, rfl, fun b o hk => ⟨hk, rfl⟩, fun b o hk => .inl hk⟩, ?_, rfl, fun x hx => ?_, ⟨fun b j hk => ⟨(h.pls.cs b j hk).1, .inr (List.mem_append_right _ (hcd b j hk)), (h.pls.cs b j hk).2.2⟩, h.pls.ds, fun b j hk => ⟨hk, rfl⟩, fun b j hk => hk⟩⟩
      ·show QR w ok ι N ((look (enum 0 args) t).getD (.val (.one .any))) (a0.tmps.getD t undef)
       rw [Qlt, if_pos (Nat.zero_le _), Nat.sub_zero]
       cases hx : args[t]? with
       | none => trivial
       | some x =>
        obtain ⟨v, hv, hq⟩ := All2.getOpt hargs hx
        have : a0.tmps.getD t undef = v := by
         rw [Array.getD_eq_getD_getElem?]
         show ((vs.toArray ++ Array.replicate (fn.ntmps - vs.toArray.size) undef)[t]?).getD undef = v
         have hlt : t < vs.length := by
          rcases Nat.lt_or_ge t vs.length with q | q
          ·exact q
          ·rw [List.getElem?_eq_none q] at hv; cases hv
         rw [Array.getElem?_append_left (by simpa using hlt)]
         simp [hv]
        rw [this]; exact hq
      ·obtain ⟨g1, g2, g3⟩ := h.objs id o ho
       refine ⟨g1, g2, fun b hb => .inr ?_⟩
       have hl : ∃ x, look σ.hp id = some x := by
        have ho' : σ.ob id = some o := ho
        unfold St.ob at ho'
        cases hx : look σ.hp id with
        | none => rw [hx] at ho'; cases ho'
        | some x => exact ⟨x, rfl⟩
       obtain ⟨x, hx⟩ := hl
       exact List.mem_append_left _ (QlO ι σ ho hb hx)
      ·show a0.tmps.size = fn.ntmps
       simp [a0]; omega
      ·obtain ⟨i, v⟩ := x
       obtain ⟨h1, h2, h3⟩ := (hpin i v).1 hx
       exact ⟨h2, h3.symm⟩
     have hS : ∀ b ∈ QkP ι σ σ.hp ++ cd, F.w0.heap.size ≤ b ∨ b ∈ F.S := fun b hb => by
      rcases List.mem_append.1 hb with hb | hb
      rotate_left
      ·exact hcd2 b hb
      obtain ⟨i, o, ho, hb⟩ := QlN ι σ hb
      exact (h.objs i o ho).2.2 b hb
     have back : ∀ (σ' : St) (a' : Act) (w' : World) (ι' : Nat → Value) (ok' : Ok) (N' : Nat → Prop), Sim F' ι' ok' N' σ' a' w' → Sim F ι' ok' N' ⟨σ.tm, σ'.hp, σ'.nxt, σ.n⟩ a w' := fun σ' a' w' ι' ok' N' s => by
      obtain ⟨m1, m2, m3, m4, m5, m6, m7⟩ := s.keep
      have hx : Ext w ok w' ok' := ⟨fun b j hk => m6 b j hk, fun b j hk => s.pls.kc b j hk, fun b j hk => s.pls.kd b j hk⟩
      have hNι : ∀ i, N i → N' i ∧ ι' i = ι i := fun i hi => s.pins (i, ι i) ((hpin i _).2 ⟨hN i hi, hi, rfl⟩)
      refine ⟨fun t => QR.mono hx (fun i hi => (hNι i hi).2) (fun i hi => (hNι i hi).1) (h.tms t), fun id o ho => ?_, s.apart, s.oks, ?_, h.size, h.defs, fun x hx => ?_, ⟨fun b j hk => ⟨(s.pls.cs b j hk).1, ?_, (s.pls.cs b j hk).2.2⟩, s.pls.ds, fun b j hk => ⟨(s.pls.kc b j (h.pls.kc b j hk).1).1, (s.pls.kc b j (h.pls.kc b j hk).1).2.trans (h.pls.kc b j hk).2⟩, fun b j hk => s.pls.kd b j (h.pls.kd b j hk)⟩⟩
      rotate_right
      ·rcases (s.pls.cs b j hk).2.1 with q | q
       ·exact .inl (Nat.le_trans h.keep.size q)
       ·exact hS b q
      ·obtain ⟨g1, g2, g3⟩ := s.objs id o ho
       refine ⟨g1, g2, fun b hb => ?_⟩
       rcases g3 b hb with g | g
       ·exact .inl (Nat.le_trans h.keep.size g)
       ·exact hS b g
      ·obtain ⟨k1, k2, k3, k4, k5, k6, k7⟩ := h.keep
       refine ⟨Nat.le_trans k1 m1, fun b hb hs => ?_, m3.trans k3, m4.trans k4, m5.trans k5, fun b j hj => ⟨(m6 b j (k6 b j hj).1).1, ((m6 b j (k6 b j hj).1).2).trans (k6 b j hj).2⟩, fun b j hj => ?_⟩
       ·rw [m2 b (Nat.lt_of_lt_of_le hb k1) (fun hm => by
         rcases hS b hm with q | q
         ·exact absurd hb (Nat.not_lt.2 q)
         ·exact hs q)]
        exact k2 b hb hs
       ·rcases m7 b j hj with q | q | q
        ·exact k7 b j q
        ·exact .inr (.inl (Nat.le_trans k1 q))
        ·exact .inr (hS b q)
      ·obtain ⟨p1, p2⟩ := h.pins x hx
       exact ⟨(hNι _ p1).1, (hNι _ p1).2.trans p2⟩
     have fin : ∀ (σ' : St) (a' : Act) (w' : World) (ι' : Nat → Value) (ok' : Ok) (N' : Nat → Prop), Sim F' ι' ok' N' σ' a' w' → Below N' σ'.nxt → Frm (dsts c) ⟨enum 0 args, σ.hp, σ.nxt, fn.ntmps⟩ σ' →
       (match Qd2 P σ' fn.results.toList with | some vs => K (Qg0 vs) ⟨σ.tm, σ'.hp, σ'.nxt, σ.n⟩ | none => none) = some r →
       ∃ v, (results fn a'.tmps).run P w' = .ok v w' ∧ ∃ av σ2 ι2 ok2 N2, Sim F ι2 ok2 N2 σ2 a w' ∧ Below N2 σ2.nxt ∧ QR w' ok2 ι2 N2 av v ∧ FrmI σ σ2 ∧ K av σ2 = some r := fun σ' a' w' ι' ok' N' s1 s2 s3 s4 => by
      split at s4
      ·rename_i vs1 hvs1
       obtain ⟨us, e1, e2⟩ := Qhh (fn := fn) s1 hvs1
       exact ⟨tupV us, e1, Qg0 vs1, _, ι', ok', N', back σ' a' w' ι' ok' N' s1, s2, Qi0 e2, ⟨rfl, rfl, s3.hp⟩, s4⟩
      ·cases s4
     refine Qip (Qlq hΓ hmix l) hΓ hmix c 1 F' ι ok N _ a0 w _ r (hG.mono h.keep.kept) h0 hN hr _ (fun e σ' a' w' ι' ok' N' t1 t2 t3 t4 => ?_)
     cases e with
     | exit i => cases t4
     | normal =>
      obtain ⟨v, hv, hA⟩ := fin σ' a' w' ι' ok' N' t1 t2 t3 t4
      exact ⟨t1.defs, v, hv, v, rfl, hA⟩
     | ret =>
      obtain ⟨v, hv, hA⟩ := fin σ' a' w' ι' ok' N' t1 t2 t3 t4
      exact ⟨t1.defs, v, hv, v, rfl, hA⟩
end
end Go.Abs
namespace Go.Abs
section
variable {P : Program} {R : Type} {F : Fr} {ι : Nat → Value} {ok : Ok} {N : Nat → Prop} {σ σ0 : St} {a : Act} {w : World} {o : Oper} {r : R}
theorem Sim.congr (h : Sim F ι ok N σ a w) {σ' : St} (hg : ∀ t, σ'.get t = σ.get t) (ho : ∀ i, σ'.ob i = σ.ob i) (hn : σ'.n = σ.n) : Sim F ι ok N σ' a w where
 tms t := by rw [hg]; exact h.tms t
 objs id o hi := h.objs id o (by rw [← ho]; exact hi)
 apart i j o p b hi hj := h.apart i j o p b (by rw [← ho]; exact hi) (by rw [← ho]; exact hj)
 oks := h.oks
 keep := h.keep
 size := by rw [hn]; exact h.size
 defs := h.defs
 pins := h.pins
 pls := h.pls
theorem QjZ (σ : St) (id : Nat) (d : Bool) (o : AO) (i : Nat) : (Jp σ [(id, some ⟨d, o⟩)]).ob i = (σ.set id o).ob i := by
 rw [St.ob_set]
 unfold Jp St.ob
 simp only [app, Q8]
 by_cases e : id = i
 ·simp [e]
 ·simp [e]
def QiH (F : Fr) (ι : Nat → Value) (σ : St) (bs : List Nat) : Prop := ∀ b ∈ bs, (F.w0.heap.size ≤ b ∨ b ∈ F.S) ∧ ∀ i p, σ.ob i = some p → blk (ι i) ≠ some b
structure More (F : Fr) (ι : Nat → Value) (ok : Ok) (N : Nat → Prop) (a : Act) (w : World) (σ : St) (nb k : Nat) (bs : List Nat) (ι' : Nat → Value) (N' : Nat → Prop) (σ' : St) : Prop where
 sim : Sim F ι' ok N' σ' a w
 old : ∀ i, N i → N' i ∧ ι' i = ι i
 ge : ∀ i, N' i → N i ∨ (nb ≤ i ∧ i < nb + k)
 bb : ∀ i p, σ'.ob i = some p → σ.ob i = some p ∨ ∀ b, blk (ι' i) = some b → b ∈ bs
theorem More.one (h : Sim F ι ok N σ a w) {id : Nat} (hid : ¬N id) {o : AO} {V : Value} (hV : QN w ok (upd ι id V) (plus N id) o V) (hb : QiH F ι σ (blk V).toList) (d : Bool) :
  More F ι ok N a w σ id 1 (blk V).toList (upd ι id V) (plus N id) (Jp σ [(id, some ⟨d, o⟩)]) := by
 have hnew := h.newOb hid hV (fun b hb' => hb b (by simp [hb']))
 refine ⟨hnew.congr (fun _ => rfl) (QjZ σ id d o) rfl, fun i hi => ⟨Qck _ hi, QcA _ _ _ (fun e => hid (by rw [← e]; exact hi))⟩, fun i hi => hi.imp (fun h => h) (fun e => by subst e; exact ⟨Nat.le_refl _, by omega⟩), fun i p hp => ?_⟩
 rw [QjZ, St.ob_set] at hp
 split at hp
 ·rename_i e; subst e; right; intro b hb'; rw [JA] at hb'; simp [hb']
 ·exact .inl hp
theorem QiH.next {k : Nat} {nb : Nat} {b1 b2 : List Nat} {ι' : Nat → Value} {N' : Nat → Prop} {σ' : St} (h0 : Sim F ι ok N σ a w) (h : More F ι ok N a w σ nb k b1 ι' N' σ') (hn : (b1 ++ b2).Nodup) (hb : QiH F ι σ (b1 ++ b2)) : QiH F ι' σ' b2 := fun b hm => by
 rw [List.nodup_append] at hn
 refine ⟨(hb b (List.mem_append_right _ hm)).1, fun i p hp hbi => ?_⟩
 rcases h.bb i p hp with hh | hh
 ·rw [(h.old i (h0.objs i p hh).1).2] at hbi
  exact (hb b (List.mem_append_right _ hm)).2 i p hh hbi
 ·exact hn.2.2 b (hh b hbi) b hm rfl
def QeV (j : Nat) : List Value → List (Nat × Value)
 | [] => []
 | u :: us => (j, u) :: QeV (j + 1) us
def JO (i : Nat) : List PK → List Value → List (Nat × Value)
 | .box _ :: r, v :: vs => (16 * i, v) :: JO (i + 1) r vs
 | .fn _ _ :: r, .func _ _ us :: vs => QeV (16 * i) us.toList ++ JO (i + 1) r vs
 | _ :: r, _ :: vs => JO (i + 1) r vs
 | _, _ => []
theorem QnZ : ∀ {caps : List (List Ty)} {j : Nat} {x : (tupT (Z4 caps)).den} {vs : List Value} {bs : List Nat} {σ : St} {ι : Nat → Value} {N : Nat → Prop}, Sim F ι ok N σ a w → (∀ i, j ≤ i → ¬N i) → QaT w ok caps x vs bs → bs.Nodup → QiH F ι σ bs →
  ∃ ι' N', More F ι ok N a w σ j caps.length bs ι' N' (Jp σ (Qao.obs j caps x)) ∧ All2 (Qcf ι' N') (Qao.ids j caps) vs ∧ ∀ x ∈ QeV j vs, N' x.1 ∧ ι' x.1 = x.2
 | [], j, x, vs, bs, σ, ι, N, h, _, ⟨e1, e2⟩, _, _ => by
  subst e1; subst e2
  exact ⟨ι, N, ⟨h, fun i hi => ⟨hi, rfl⟩, fun i hi => .inl hi, fun i p hp => .inl hp⟩, trivial, fun x hx => by cases hx⟩
 | ts :: r, j, x, vs, bs, σ, ι, N, h, hN, ⟨v, vs', B, bs', e1, e2, hb, hr⟩, hn, hnew => by
  subst e1; subst e2
  have hn' : ([B] ++ bs').Nodup := hn
  obtain ⟨ι1, N1, m1, q1, q2⟩ := QnZ (caps := r) (j := j + 1) h (fun i hi => hN i (by omega)) hr (List.nodup_append.1 hn').2.1 (fun b hb' => hnew b (List.mem_cons_of_mem _ hb'))
  have hnj : ¬N1 j := fun hh => by
   rcases m1.ge j hh with h2 | h2
   ·exact hN j (Nat.le_refl _) h2
   ·omega
  have hbv : blk v = some B := by rw [hb.1]; rfl
  have hnb : QiH F ι1 (Jp σ (Qao.obs (j + 1) r (tsnd ts (Z4 r) x))) (blk v).toList := fun b hm => by
   have hbB : b = B := by rw [hbv] at hm; simpa using hm
   subst hbB
   refine ⟨(hnew b (by simp)).1, fun i p hp hbi => ?_⟩
   rcases m1.bb i p hp with hh | hh
   ·rw [(m1.old i (h.objs i p hh).1).2] at hbi
    exact (hnew b (by simp)).2 i p hh hbi
   ·rw [List.nodup_append] at hn'
    exact hn'.2.2 b (by simp) b (hh b hbi) rfl
  have m2 := More.one m1.sim hnj (hb.obj (ι := upd ι1 j v) (N := plus N1 j)) hnb false
  refine ⟨upd ι1 j v, plus N1 j, ⟨m2.sim, fun i hi => ⟨Qck _ (m1.old i hi).1, by rw [(m2.old i (m1.old i hi).1).2]; exact (m1.old i hi).2⟩, fun i hi => ?_, fun i p hp => ?_⟩, ⟨⟨JE, B, by rw [JA]; exact hb.1, hb.1⟩, ?_⟩, fun x hx => ?_⟩
  ·rcases m2.ge i hi with hh | hh
   ·rcases m1.ge i hh with h2 | h2
    ·exact .inl h2
    ·exact .inr ⟨by omega, by simp only [List.length_cons]; omega⟩
   ·exact .inr ⟨by omega, by simp only [List.length_cons]; omega⟩
  ·rcases m2.bb i p hp with hh | hh
   ·rcases m1.bb i p hh with h2 | h2
    ·exact .inl h2
    ·refine .inr fun b hb' => ?_
     rw [(m2.old i (m1.sim.objs i p hh).1).2] at hb'
     exact List.mem_cons_of_mem _ (h2 b hb')
   ·refine .inr fun b hb' => ?_
    have := hh b hb'
    rw [hbv] at this
    have : b = B := by simpa using this
    subst this; simp
  ·exact All2.mono (fun _ _ hc => Qcf.mono (fun i hi => (m2.old i hi).2) (fun i hi => (m2.old i hi).1) hc) q1
  ·rcases List.mem_cons.1 hx with rfl | hx
   ·exact ⟨JE, JA _ _ _⟩
   ·obtain ⟨k1, k2⟩ := q2 x hx
    exact ⟨Qck _ k1, by rw [(m2.old _ k1).2]; exact k2⟩
theorem Qqv {k : PK} {i : Nat} {x : (tupT (pkTs k)).den} {v : Value} {bs : List Nat} (h : Sim F ι ok N σ a w) (hN : Below N (16 * i)) (hv : QgZ w ok k x v bs) (hn : bs.Nodup) (hnew : QiH F ι σ bs) (hcap : ∀ f caps, k = .fn f caps → caps.length ≤ 16) :
  ∃ ι' N', More F ι ok N a w σ (16 * i) 16 bs ι' N' (Jp σ (Qao i k x).2) ∧ QR w ok ι' N' (Qao i k x).1 v ∧ ∀ y ∈ JO i [k] [v], N' y.1 ∧ ι' y.1 = y.2 := by
 have hfr : ∀ j, 16 * i ≤ j → ¬N j := fun j hj hh => by have := hN j hh; omega
 have none : bs = [] → More F ι ok N a w σ (16 * i) 16 bs ι N (Jp σ []) := fun e => by
  subst e; exact ⟨h, fun i hi => ⟨hi, rfl⟩, fun i hi => .inl hi, fun i p hp => .inl hp⟩
 cases k with
 | val ag ts =>
  cases ag with
  | false =>
   obtain ⟨e, hr⟩ := hv
   refine ⟨ι, N, ?_, ?_, fun y hy => by cases hy⟩
   ·exact none e
   ·have hc := QbL (ι := ι) (N := N) hr
    show QR w ok ι N (match VT ts x with | [c] => .val (.one c) | _ => .val (.one .any)) v
    cases hd : VT ts x with
    | nil => rw [hd] at hc; exact hc.elim
    | cons c l => cases l with
     | nil => rw [hd] at hc; exact hc.1
     | cons _ _ => rw [hd] at hc; exact hc.2.elim
  | true =>
   obtain ⟨e, us, hu, hr⟩ := hv
   exact ⟨ι, N, none e, ⟨us, hu, QbL hr⟩, fun y hy => by cases hy⟩
 | own t =>
  obtain ⟨e, hr⟩ := hv
  subst e
  have m := More.one h (hfr _ (Nat.le_refl _)) (o := .arr t x .fr) hr hnew false
  refine ⟨upd ι (16 * i) v, plus N (16 * i), ⟨m.sim, m.old, fun j hj => (m.ge j hj).imp (fun h => h) (fun h => ⟨h.1, by omega⟩), m.bb⟩, ⟨JE, (JA _ _ _).symm, ?_⟩, fun y hy => by cases hy⟩
  obtain ⟨A, cap, e, _⟩ := hr
  exact .inl ⟨_, _, _, e⟩
 | ow t =>
  obtain ⟨e, hr⟩ := hv
  subst e
  have m := More.one h (hfr _ (Nat.le_refl _)) (o := .arr t x .wr) hr hnew false
  refine ⟨upd ι (16 * i) v, plus N (16 * i), ⟨m.sim, m.old, fun j hj => (m.ge j hj).imp (fun h => h) (fun h => ⟨h.1, by omega⟩), m.bb⟩, ⟨JE, (JA _ _ _).symm, ?_⟩, fun y hy => by cases hy⟩
  obtain ⟨A, cap, e, _⟩ := hr
  exact .inl ⟨_, _, _, e⟩
 | box ts =>
  obtain ⟨B, e, hr⟩ := hv
  subst e
  have hbv : (blk v).toList = [B] := by rw [hr.1]; rfl
  have m := More.one h (hfr _ (Nat.le_refl _)) (hr.obj (ι := upd ι (16 * i) v) (N := plus N (16 * i))) (by rw [hbv]; exact hnew) false
  rw [hbv] at m
  refine ⟨upd ι (16 * i) v, plus N (16 * i), ⟨m.sim, m.old, fun j hj => (m.ge j hj).imp (fun h => h) (fun h => ⟨h.1, by omega⟩), m.bb⟩, ⟨JE, B, by rw [JA]; exact hr.1, hr.1⟩, fun y hy => ?_⟩
  simp [JO] at hy
  subst hy
  exact ⟨JE, JA _ _ _⟩
 | fn f caps =>
  obtain ⟨us, e, hr⟩ := hv
  subst e
  obtain ⟨ι', N', m, q1, q2⟩ := QnZ (j := 16 * i) h hfr hr hn hnew
  have hc := hcap f caps rfl
  refine ⟨ι', N', ⟨m.sim, m.old, fun j hj => (m.ge j hj).imp (fun h => h) (fun h => ⟨h.1, by omega⟩), m.bb⟩, ⟨us, rfl, q1⟩, fun y hy => ?_⟩
  simp [JO] at hy
  exact q2 y hy
end
end Go.Abs
namespace Go.Abs
section
variable {P : Program} {R : Type} {F : Fr} {ι : Nat → Value} {ok : Ok} {N : Nat → Prop} {σ σ0 : St} {a : Act} {w : World} {o : Oper} {r : R}
theorem Qlu : ∀ {ks : List PK} {i : Nat} {p : (tupT (insL ks)).den} {vs : List Value} {bs : List Nat} {σ : St} {ι : Nat → Value} {N : Nat → Prop}, Sim F ι ok N σ a w → Below N (16 * i) → σ.nxt = 16 * i → VQ w ok ks p vs bs → bs.Nodup → QiH F ι σ bs → Qfh ks = true →
  (∀ j v, vs[j]? = some v → a.tmps.getD (i + j) undef = v) →
  ∃ ι' N', Sim F ι' ok N' (QnT σ i ks p) a w ∧ Below N' (QnT σ i ks p).nxt ∧ (∀ j, N j → N' j ∧ ι' j = ι j) ∧ ∀ y ∈ JO i ks vs, N' y.1 ∧ ι' y.1 = y.2
 | [], i, p, vs, bs, σ, ι, N, h, hN, hx, ⟨e1, e2⟩, _, _, _, _ => by
  subst e1
  refine ⟨ι, N, h, ?_, fun j hj => ⟨hj, rfl⟩, fun y hy => by cases hy⟩
  show Below N σ.nxt
  rw [hx]; exact hN
 | k :: r, i, p, vs, bs, σ, ι, N, h, hN, hx, ⟨v, vs', b1, b2, e1, e2, hk, hr⟩, hn, hnew, hc, ht => by
  subst e1; subst e2
  have hcap : ∀ f caps, k = .fn f caps → caps.length ≤ 16 := fun f caps e => by
   subst e
   simp only [Qfh, Bool.and_eq_true] at hc
   exact Nat.le_of_ble_eq_true hc.1
  have hc2 : Qfh r = true := by cases k <;> simp_all [Qfh]
  obtain ⟨ι1, N1, m, q1, q2⟩ := Qqv h hN hk (List.nodup_append.1 hn).1 (fun b hb => hnew b (List.mem_append_left _ hb)) hcap
  have hnext := QiH.next h m hn hnew
  have hv0 : a.tmps.getD i undef = v := ht 0 v (by simp)
  let σ1 : St := { tm := (i, (Qao i k (tfst (pkTs k) (insL r) p)).1) :: σ.tm, hp := app (Qao i k (tfst (pkTs k) (insL r) p)).2 σ.hp, nxt := 16 * (i + 1), n := σ.n }
  have hs1 : Sim F ι1 ok N1 σ1 a w := (m.sim.refine (x := (Qao i k (tfst (pkTs k) (insL r) p)).1) (d := i) (by rw [hv0]; exact q1)).congr (fun t => rfl) (fun t => rfl) rfl
  have hb1 : Below N1 (16 * (i + 1)) := fun j hj => by
   rcases m.ge j hj with hh | hh
   ·have := hN j hh; omega
   ·omega
  obtain ⟨ι2, N2, s1, s2, s3, s4⟩ := Qlu (ks := r) (i := i + 1) (σ := σ1) hs1 hb1 rfl hr (List.nodup_append.1 hn).2.1 hnext hc2 (fun j u hj => by
   have := ht (j + 1) u (by simpa using hj)
   rw [← this]; congr 1; omega)
  refine ⟨ι2, N2, s1, s2, fun j hj => ⟨(s3 j (m.old j hj).1).1, by rw [(s3 j (m.old j hj).1).2]; exact (m.old j hj).2⟩, fun y hy => ?_⟩
  have hsplit : y ∈ JO i [k] [v] ∨ y ∈ JO (i + 1) r vs' := by
   cases k with
   | val ag ts => exact .inr (by simpa [JO] using hy)
   | own t => exact .inr (by simpa [JO] using hy)
   | ow t => exact .inr (by simpa [JO] using hy)
   | box ts => simp [JO] at hy ⊢; exact hy
   | fn f caps =>
    obtain ⟨us, e, _⟩ := hk
    subst e
    simp [JO] at hy ⊢
    exact hy
  rcases hsplit with hy | hy
  ·obtain ⟨k1, k2⟩ := q2 y hy
   exact ⟨(s3 _ k1).1, by rw [(s3 _ k1).2]; exact k2⟩
  ·exact s4 y hy
end
end Go.Abs
namespace Go.Abs
section
variable {P : Program} {R : Type} {F : Fr} {ι : Nat → Value} {ok : Ok} {N : Nat → Prop} {σ σ0 : St} {a : Act} {w : World} {o : Oper} {r : R}
theorem Qqf {A B β : Type} (e : B = A) {x : List A} {y : List B} (hy : HEq y x) {Q : A → β → Prop} {Q' : B → β → Prop} (hQ : ∀ x y v, HEq y x → Q x v → Q' y v) {vs : List β} (h : All2 Q x vs) : All2 Q' y vs := by
 subst e
 cases eq_of_heq hy
 exact All2.mono (fun x v hx => hQ x x v HEq.rfl hx) h
theorem QqK {A B : Type} (e : B = A) {x : List A} {y : List B} (hy : HEq y x) {z : A} {z' : B} (hz : HEq z' z) (n : Nat) : HEq (y ++ List.replicate n z') (x ++ List.replicate n z) := by
 subst e
 cases eq_of_heq hy
 cases eq_of_heq hz
 exact HEq.rfl
theorem QoG {A B C D : Type} (e : C = A) (f : D = B) {a : A} {b : B} {c : C} {d : D} (h : HEq c a) (k : HEq d b) : HEq (c, d) (a, b) := by
 subst e; subst f
 cases eq_of_heq h
 cases eq_of_heq k
 exact HEq.rfl
theorem QpP {A B : Type} (e : B = A) : HEq ([] : List B) ([] : List A) := by subst e; exact HEq.rfl
theorem QhP : ∀ t : Ty, HEq t.wild.zero t.zero
 | .int _ => HEq.rfl
 | .bool => HEq.rfl
 | .str => HEq.rfl
 | .sl e => QpP (Ty.wild_den e)
 | .pr a b => QoG (Ty.wild_den a) (Ty.wild_den b) (QhP a) (QhP b)
 | .un => HEq.rfl
 | .pl _ => HEq.rfl
theorem QdW (t : Ty) (xs : List t.den) : HEq (Qmy t xs) xs := cast_heq _ _
theorem QaX (t : Ty) (xs : List t.den) : (Qmy t xs).length = xs.length :=
 (QfB (Ty.wild_den t) (xs := xs) (ys := Qmy t xs) (QdW t xs) (Q := fun _ _ => True) (Q' := fun _ _ => True) (fun _ _ _ _ h => h)).1
theorem Ok.thaw_any {b o : Nat} : ok.thaw.any b o ↔ ok.any b o := by
 constructor
 ·rintro (h | h | h | h)
  ·exact .inl h
  ·exact h.elim
  ·exact .inr (.inl h)
  ·exact .inr (.inr h)
 ·rintro (h | h | h)
  ·exact .inl h
  ·exact .inr (.inr (.inl h))
  ·exact .inr (.inr (.inr h))
theorem RepC.thaw {c : Cell} {v : Value} (h : RepC w ok ι N c v) : RepC w ok.thaw ι N c.thaw v := by
 cases c with
 | dat t x => exact RepD.thaw h
 | vptr t x off =>
  obtain ⟨b, o, us, e, h1, h2, h3⟩ := h
  exact ⟨b, o, us, e, RepD.thaw h1, h2, h3⟩
 | own t id => exact h
 | eptr t id i off =>
  obtain ⟨h1, b, o, n, cap, h2, h3⟩ := h
  exact ⟨h1, b, o, n, cap, h2, by rw [Ty.wild_sz]; exact h3⟩
 | win t id lo n =>
  obtain ⟨h1, b, o, len, cap, c', h2, h3⟩ := h
  exact ⟨h1, b, o, len, cap, c', h2, by rw [Ty.wild_sz]; exact h3⟩
 | wptr => obtain ⟨b, o, e, h⟩ := h; exact ⟨b, o, e, .inr h⟩
 | _ => exact h
theorem RepCs.thaw : ∀ {cs : List Cell} {vs : List Value}, All2 (RepC w ok ι N) cs vs → All2 (RepC w ok.thaw ι N) (cs.map Cell.thaw) vs
 | [], [], _ => trivial
 | _ :: _, [], h => h.elim
 | [], _ :: _, h => h.elim
 | _ :: _, _ :: _, ⟨h1, h2⟩ => ⟨RepC.thaw h1, RepCs.thaw h2⟩
theorem V2.thaw {x : V1} {v : Value} (h : V2 w ok ι N x v) : V2 w ok.thaw ι N x.thaw v := by
 cases x with
 | one c => exact RepC.thaw h
 | agg cs => obtain ⟨vs, e, h⟩ := h; exact ⟨vs, e, RepCs.thaw h⟩
theorem RepV1s.thaw : ∀ {cs : List V1} {vs : List Value}, All2 (V2 w ok ι N) cs vs → All2 (V2 w ok.thaw ι N) (cs.map V1.thaw) vs
 | [], [], _ => trivial
 | _ :: _, [], h => h.elim
 | [], _ :: _, h => h.elim
 | _ :: _, _ :: _, ⟨h1, h2⟩ => ⟨V2.thaw h1, RepV1s.thaw h2⟩
theorem QR.thaw {x : AV} {v : Value} (h : QR w ok ι N x v) : QR w ok.thaw ι N x.thaw v := by
 cases x with
 | val x => exact V2.thaw h
 | tup l => obtain ⟨vs, e, h⟩ := h; exact ⟨vs, e, RepV1s.thaw h⟩
theorem QdV : ∀ {t : Ty}, Qar t = false → t.wild = t
 | .int _, _ => rfl
 | .bool, _ => rfl
 | .str, _ => rfl
 | .sl _, h => by cases h
 | .pr a b, h => by
  simp only [Qar, Bool.or_eq_false_iff] at h
  show Ty.pr a.wild b.wild = _
  rw [QdV h.1, QdV h.2]
 | .un, _ => rfl
 | .pl _, h => by cases h
theorem RepE.thaw {ag : Bool} {t : Ty} (ht : Qar t = false) {x : t.den} {y : t.wild.den} (hy : HEq y x) {v : Value} (h : RepE w ok ag t x v) : RepE w ok.thaw ag t.wild y v := by
 have e := QdV ht
 revert y
 rw [e]
 intro y hy
 cases eq_of_heq hy
 cases ag with
 | false => exact RepD.flat ht h
 | true => obtain ⟨vs, e, h⟩ := h; exact ⟨vs, e, RepD.flat ht h⟩
theorem Qhs : ∀ {t : Ty}, Qar t = false → Qar t.wild = false := fun h => by rw [QdV h]; exact h
theorem QaE.thaw {ka va : Bool} : ∀ {t : Ty} {x : t.den} {y : t.wild.den}, HEq y x → ∀ {e : MapEntry}, QaE w ok ka va t x e → QaE w ok.thaw ka va t.wild y e
 | .pr k v, x, y, hy, e, ⟨h1, h2, h3, h4⟩ => by
  obtain ⟨y1, y2⟩ := Qh7 (Ty.wild_den k) (Ty.wild_den v) (x := x) (y := y) hy
  exact ⟨Qhs h1, Qhs h2, h3.thaw h1 y1, h4.thaw h2 y2⟩
 | .int _, _, _, _, _, h => h.elim
 | .bool, _, _, _, _, h => h.elim
 | .str, _, _, _, _, h => h.elim
 | .sl _, _, _, _, _, h => h.elim
 | .un, _, _, _, _, h => h.elim
 | .pl _, _, _, _, _, h => h.elim
theorem Qmu.thaw {t : Ty} {xs : List t.den} {mu : MK} {b o cap : Nat} {ys : List t.wild.den} (hy : HEq ys xs) (h : Qmu w ok t xs mu b o cap) : Qmu w ok.thaw t.wild ys mu b o cap := by
 obtain ⟨c, T, fz, h1, h2, h3, ⟨us, h4, h5⟩, h6, h7⟩ := h
 obtain ⟨l1, l2, l3⟩ := QfB (Ty.wild_den t) (xs := xs) (ys := ys) hy (Q := fun x us => RepD w ok t x us) (Q' := fun y us => RepD w ok.thaw t.wild y us) (fun x y hxy us hr => RepD.thawH hxy hr)
 refine ⟨c, T, fz, h1, by rw [Ty.wild_sz]; exact h2, by rw [Ty.wild_sz]; exact h3, ⟨us, l3 us h4, h5⟩, fun hm j hj => h6 hm j (Ok.thaw_any.1 hj), fun hm => ⟨fun j hj => ?_, fun j hj => (h7 hm).2 j (by rw [Ty.wild_sz, l1] at hj; exact hj)⟩⟩
 obtain ⟨q1, q2, q3⟩ := (h7 hm).1 j (Ok.thaw_any.1 hj)
 exact ⟨by rw [Ty.wild_sz, l1]; exact q1, fun k => k, fun k => k.elim q2 q3⟩
theorem Qe4.thaw {t : Ty} {xs : List t.den} {mu : MK} {V : Value} (h : Qe4 w ok t xs mu V) : Qe4 w ok.thaw t.wild (Qmy t xs) mu V := by
 obtain ⟨A, cap, e, h1, h2, h3⟩ := h
 refine ⟨A, cap, by rw [QaX]; exact e, by rw [QaX]; exact h1, by rw [QaX]; exact h2, ?_⟩
 rcases h3 with ⟨rfl, rfl, rfl⟩ | ⟨b, o, rfl, h⟩
 ·exact .inl ⟨rfl, List.length_eq_zero_iff.1 (QaX t []), rfl⟩
 ·exact .inr ⟨b, o, rfl, h.thaw (QdW t xs)⟩
theorem QN.thaw {o : AO} {V : Value} (h : QN w ok ι N o V) : QN w ok.thaw ι N o.thaw V := by
 cases o with
 | box cs =>
  obtain ⟨B, c, T, e, h1, h2, h3⟩ := h
  exact ⟨B, c, T, e, h1, RepCs.thaw h2, fun j hj => h3 j (Ok.thaw_any.1 hj)⟩
 | arr t xs mu =>
  cases mu with
  | fr => exact Qe4.thaw h
  | wr => exact Qe4.thaw h
  | mp ka va =>
   obtain ⟨b, es, clock, e, h1, h2, h3, h4⟩ := h
   exact ⟨b, es, clock, e, h1, Qqf (Ty.wild_den t) (QdW t xs) (Q := QaE w ok ka va t) (Q' := QaE w ok.thaw ka va t.wild) (fun x y v hxy hx => QaE.thaw hxy hx) h2, fun j hj => h3 j (Ok.thaw_any.1 hj), by rw [QaX]; exact h4⟩
  | cp c =>
   obtain ⟨b, o, e, h1, h2, h3⟩ := h
   refine ⟨b, o, by rw [QaX]; exact e, by rw [QaX]; exact h1, h2, ?_⟩
   rw [QaX]
   exact h3.thaw (QqK (Ty.wild_den t) (QdW t xs) (QhP t) _)
theorem Qf8 {α β : Type} (f : α → β) : ∀ (l : List (Nat × α)) (i : Nat), look (l.map fun x => (x.1, f x.2)) i = (look l i).map f
 | [], _ => rfl
 | (j, x) :: r, i => by
  simp only [List.map_cons, Q8, Qf8 f r i]
  split <;> rfl
theorem St.get_thaw (σ : St) (t : Nat) : σ.thaw.get t = (σ.get t).thaw := by
 show (look (σ.tm.map fun x => (x.1, x.2.thaw)) t).getD (.val (.one .any)) = ((look σ.tm t).getD (.val (.one .any))).thaw
 rw [Qf8 AV.thaw]
 cases look σ.tm t <;> rfl
theorem St.thaw_hp (σ : St) : σ.thaw.hp = σ.hp.map fun x => (x.1, x.2.map fun b => (⟨true, b.o.thaw⟩ : Ob)) := by
 refine List.map_congr_left fun x _ => ?_
 obtain ⟨i, x⟩ := x
 cases x <;> rfl
theorem St.ob_thaw (σ : St) (i : Nat) : σ.thaw.ob i = (σ.ob i).map AO.thaw := by
 unfold St.ob
 rw [St.thaw_hp, Qf8]
 cases look σ.hp i with
 | none => rfl
 | some x => cases x <;> rfl
theorem Sim.thaw (h : Sim F ι ok N σ a w) (h0 : ∀ b o, ¬F.ok0.c b o) : Sim F ι ok.thaw N σ.thaw a w where
 tms t := by rw [St.get_thaw]; exact (h.tms t).thaw
 objs id o ho := by
  rw [St.ob_thaw] at ho
  cases hp : σ.ob id with
  | none => rw [hp] at ho; cases ho
  | some p =>
   rw [hp] at ho
   cases ho
   obtain ⟨g1, g2, g3⟩ := h.objs id p hp
   exact ⟨g1, g2.thaw, g3⟩
 apart i j o p b hi hj := by
  rw [St.ob_thaw] at hi hj
  cases hp : σ.ob i with
  | none => rw [hp] at hi; cases hi
  | some p' => cases hq : σ.ob j with
   | none => rw [hq] at hj; cases hj
   | some q' => exact h.apart i j p' q' b hp hq
 oks b o hk := h.oks b o (Ok.thaw_any.1 hk)
 keep := ⟨h.keep.size, h.keep.old, h.keep.os, h.keep.tape, h.keep.output, h.keep.kept, fun b o hk => h.keep.new b o (Ok.thaw_any.1 hk)⟩
 size := h.size
 defs := h.defs
 pins := h.pins
 pls := ⟨fun b o hk => h.pls.cs b o (hk.elim (fun hk => hk.elim) (fun hk => hk)), fun b o _ k => k, fun b o hk => absurd hk (h0 b o), fun b o hk => .inr (h.pls.kd b o hk)⟩
theorem Qmi {I : Inl} (hI : Qoo P I) {m : Fu} {Γ : List Summ} (hΓ : ∀ S ∈ Γ, Qal P S) (hmix : P.follows .mixedOrders = true) {ann : List (Nat × Ann)} : ∀ (k : Nat) (c : Code) (p : Nat) {R : Type} (F : Fr) (ι : Nat → Value) (ok : Ok) (N : Nat → Prop) (σ : St) (a : Act) (w : World) (K : AX → St → Option R) (r : R), GOk P F.w0 F.ok0.p →
  (∀ b o, ¬F.ok0.c b o) → Sim F ι ok N σ a w → Below N σ.nxt → Qiq I P Γ m ann k c p σ K = some r →
  ∀ Q : Exit → Act → World → Prop, (∀ e σ' a' w' ι' ok' N', Sim F ι' ok' N' σ' a' w' → Below N' σ'.nxt → K e σ' = some r → Q (Qhy e) a' w') → c.wp P Q a w := by
 intro k
 induction k with
 | zero =>
  intro c p R F ι ok N σ a w K r hG h0 h hN hr Q hQ
  have hr : exec I P Γ m ann c p σ.thaw K = some r := by cases c <;> exact hr
  exact Qip hI hΓ hmix c p F ι ok.thaw N σ.thaw a w K r hG (h.thaw h0) hN hr Q (fun e σ' a' w' ι' ok' N' t1 t2 t3 t4 => hQ e σ' a' w' ι' ok' N' t1 t2 t4)
 | succ k ih =>
  intro c p R F ι ok N σ a w K r hG h0 h hN hr Q hQ
  cases c with
  | seq x y =>
   simp only [Qiq] at hr
   refine wp_seq (Qip hI hΓ hmix x (2 * p) F ι ok N σ a w _ r hG h hN hr _ (fun e σ' a' w' ι' ok' N' s1 s2 s3 s4 => ?_))
   cases e with
   | normal => exact ih y (2 * p + 1) F ι' ok' N' σ' a' w' K r hG h0 s1 s2 s4 Q hQ
   | exit i => exact hQ (.exit i) σ' a' w' ι' ok' N' s1 s2 s4
   | ret => exact hQ .ret σ' a' w' ι' ok' N' s1 s2 s4
  | _ => cases hr
theorem QnN {I : Inl} (hI : Qoo P I) {m : Fu} {Γ : List Summ} (hΓ : ∀ S ∈ Γ, Qal P S) (hmix : P.follows .mixedOrders = true) {ann : List (Nat × Ann)} (c : Code) {R : Type} (F : Fr) (ι : Nat → Value) (ok : Ok) (N : Nat → Prop) (σ : St) (a : Act) (w : World) (K : AX → St → Option R) (r : R) (hG : GOk P F.w0 F.ok0.p)
  (h0 : ∀ k, look ann 0 = some (.thaw k) → ∀ b o, ¬F.ok0.c b o) (h : Sim F ι ok N σ a w) (hN : Below N σ.nxt) (hr : QnO I P Γ m ann c σ K = some r)
  (Q : Exit → Act → World → Prop) (hQ : ∀ e σ' a' w' ι' ok' N', Sim F ι' ok' N' σ' a' w' → Below N' σ'.nxt → K e σ' = some r → Q (Qhy e) a' w') : c.wp P Q a w := by
 have hex : ∀ hr : exec I P Γ m ann c 1 σ K = some r, c.wp P Q a w := fun hr => Qip hI hΓ hmix c 1 F ι ok N σ a w K r hG h hN hr Q (fun e σ' a' w' ι' ok' N' t1 t2 t3 t4 => hQ e σ' a' w' ι' ok' N' t1 t2 t4)
 unfold QnO at hr
 cases hl : look ann 0 with
 | none => rw [hl] at hr; exact hex hr
 | some x =>
  rw [hl] at hr
  cases x with
  | thaw k => exact Qmi hI hΓ hmix k c 1 F ι ok N σ a w K r hG (h0 k hl) h hN hr Q hQ
  | _ => exact hex hr
end
end Go.Abs
namespace Go.Abs
section
variable {P : Program} {R : Type} {F : Fr} {ι : Nat → Value} {ok : Ok} {N : Nat → Prop} {σ σ0 : St} {a : Act} {w : World} {o : Oper} {r : R}
def Rvs : List (Bool × List CK) → List Value → List Value → Prop
 | [], [], flat => flat = []
 | (false, ks) :: r, u :: us, flat => ks.length = 1 ∧ ∃ f, flat = u :: f ∧ Rvs r us f
 | (true, ks) :: r, u :: us, flat => ∃ (c f : List Value), flat = c ++ f ∧ c.length = ks.length ∧ u = .agg c.toArray ∧ Rvs r us f
 | _, _, _ => False
theorem QfW : ∀ {l : List (Bool × List CK)} {vs : List V1} {cs : List Cell} {us : List Value}, Qc6 l vs = some cs → All2 (V2 w ok ι N) vs us → ∃ flat, All2 (RepC w ok ι N) cs flat ∧ Rvs l us flat
 | [], [], cs, [], h, _ => by cases h; exact ⟨[], trivial, rfl⟩
 | [], [], _, _ :: _, _, hv => hv.elim
 | [], _ :: _, cs, _, h, _ => by simp [Qc6] at h
 | _ :: _, [], cs, _, h, _ => by simp [Qc6] at h
 | _ :: _, _ :: _, _, [], _, hv => hv.elim
 | (ag, ks) :: r, v :: vs, cs, u :: us, h, hv => by
  simp only [Qc6] at h
  split at h
  ·cases h
  ·rename_i cs' hcs
   obtain ⟨flat, h1, h2⟩ := QfW hcs hv.2
   have hu := hv.1
   split at h
   ·rename_i c
    cases hb : Nat.beq ks.length 1 with
    | false => simp [hb] at h
    | true =>
     simp only [hb, cond_true] at h
     cases h
     exact ⟨u :: flat, ⟨hu, h1⟩, Nat.eq_of_beq_eq_true hb, flat, rfl, h2⟩
   ·rename_i ds
    cases hb : Nat.beq ks.length ds.length with
    | false => simp [hb] at h
    | true =>
     simp only [hb, cond_true] at h
     cases h
     obtain ⟨c, e, hc⟩ := hu
     rw [Qm]
     exact ⟨c ++ flat, All2.app hc h1, c, flat, rfl, by rw [← hc.len]; exact (Nat.eq_of_beq_eq_true hb).symm, e, h2⟩
   ·cases h
theorem QfE (h : Sim F ι ok N σ a w) : ∀ {ks : List CK} {cs : List Cell} {vs : List Value} {p : (tupT (pay ks)).den}, grab σ ks cs = some p → All2 (RepC w ok ι N) cs vs → cstB ks = true →
  Qc3 w ok ks p vs (bsOf ι (srcs ks cs)) ∧ ∀ id ∈ srcs ks cs, ∃ e ys m, σ.ob id = some (.arr e ys m)
 | [], [], [], _, _, _, _ => ⟨⟨rfl, rfl⟩, fun id hi => by cases hi⟩
 | [], [], _ :: _, _, _, hv, _ => hv.elim
 | [], _ :: _, _, _, hg, _, _ => by simp [grab] at hg
 | .cst c :: ks, [], _, _, hg, _, _ => by simp [grab] at hg
 | .dat t :: ks, [], _, _, hg, _, _ => by simp [grab] at hg
 | .own t g mu :: ks, [], _, _, hg, _, _ => by simp [grab] at hg
 | _ :: _, _ :: _, [], _, _, hv, _ => hv.elim
 | .cst c :: ks, d :: cs, v :: vs, p, hg, hv, hc => by
  simp only [grab] at hg
  have es : srcs (.cst c :: ks) (d :: cs) = srcs ks cs := by cases d <;> rfl
  rw [es]
  cases hb : c.same d with
  | false => simp [hb] at hg
  | true =>
   simp only [hb, cond_true] at hg
   have hc2 : cstB ks = true := by
    cases c with
    | fn f caps => cases caps <;> simp_all [cstB]
    | _ => simp_all [cstB]
   obtain ⟨q1, q2⟩ := QfE h (ks := ks) hg hv.2 hc2
   refine ⟨⟨v, vs, rfl, ?_, q1⟩, q2⟩
   cases c with
   | any => trivial
   | skip => cases d <;> simp [Cell.same] at hb; exact hv.1
   | nils => cases d <;> simp [Cell.same] at hb; exact hv.1
   | nilp => cases d <;> simp [Cell.same] at hb; exact hv.1
   | fn f caps =>
    cases caps with
    | cons _ _ => simp [cstB] at hc
    | nil =>
     cases d with
     | fn g ds =>
      simp [Cell.same] at hb
      obtain ⟨e1, e2⟩ := hb
      have e1 : f = g := e1
      subst e1
      subst e2
      obtain ⟨us, e, h1⟩ := hv.1
      cases us with
      | nil => exact ⟨[], e, trivial⟩
      | cons _ _ => exact h1.elim
     | _ => simp [Cell.same] at hb
   | _ => simp [cstB] at hc
 | .dat t :: ks, d :: cs, v :: vs, p, hg, hv, hc => by
  simp only [grab] at hg
  have es : srcs (.dat t :: ks) (d :: cs) = srcs ks cs := by cases d <;> rfl
  rw [es]
  split at hg
  ·rename_i x hx
   split at hg
   ·rename_i y hy
    cases hg
    obtain ⟨q1, q2⟩ := QfE h (ks := ks) hy hv.2 (by simpa [cstB] using hc)
    exact ⟨⟨v, vs, rfl, by rw [Qax]; exact h.toDatS hx hv.1, by rw [VE]; exact q1⟩, q2⟩
   ·cases hg
  ·cases hg
 | .own t g mu :: ks, d :: cs, v :: vs, p, hg, hv, hc => by
  simp only [grab] at hg
  split at hg
  ·rename_i x hx
   split at hg
   ·rename_i y hy
    cases hg
    obtain ⟨q1, q2⟩ := QfE h (ks := ks) hy hv.2 (by simpa [cstB] using hc)
    obtain ⟨g1, g2⟩ := QfO h hx hv.1
    rcases g2 with ⟨e, id, rfl, e2, e3, e4⟩ | ⟨rfl, e2, e3, e5⟩
    ·refine ⟨⟨v, vs, bsOf ι (srcs ks cs), rfl, ?_, ?_, by rw [VE]; exact q1⟩, fun i hi => ?_⟩
     ·show bsOf ι (id :: srcs ks cs) = _
      rw [e2]; rfl
     ·rw [Qax]; exact e4.arr
     ·rcases List.mem_cons.1 (show i ∈ id :: srcs ks cs from hi) with rfl | hi
      ·exact e3
      ·exact q2 i hi
    ·refine ⟨⟨v, vs, bsOf ι (srcs ks cs), rfl, by rw [e2]; rfl, ?_, by rw [VE]; exact q1⟩, fun i hi => q2 i hi⟩
     rw [Qax, e3]
     exact QN.of_sl e5 ⟨none, 0, e2, Nat.le_refl _, Nat.zero_le _, .inl ⟨rfl, rfl, rfl⟩⟩
   ·cases hg
  ·cases hg
theorem Qfv : ∀ (ks more : List CK) (cs : List Cell), ks.length ≤ cs.length → srcs (ks ++ more) cs = srcs ks (cs.take ks.length) ++ srcs more (cs.drop ks.length)
 | [], more, cs, _ => by simp [srcs]
 | .cst c :: ks, more, [], h => by simp at h
 | .dat t :: ks, more, [], h => by simp at h
 | .own t g mu :: ks, more, [], h => by simp at h
 | .cst c :: ks, more, d :: cs, h => by
  have ih := Qfv ks more cs (by simpa using h)
  cases d <;> simp [srcs, ih]
 | .dat t :: ks, more, d :: cs, h => by
  have ih := Qfv ks more cs (by simpa using h)
  cases d <;> simp [srcs, ih]
 | .own t g mu :: ks, more, d :: cs, h => by
  have ih := Qfv ks more cs (by simpa using h)
  cases d <;> simp [srcs, ih]
theorem Qhw (h : Sim F ι ok N σ a w) : ∀ {l : List (Bool × List CK)} {cs : List Cell} {us flat : List Value} {x : (tupT (JV l)).den}, Qgm σ l cs = some x → All2 (RepC w ok ι N) cs flat → Rvs l us flat → QbT l = true →
  Qfn w ok l x us (bsOf ι (srcs (Qcs l) cs)) ∧ ∀ id ∈ srcs (Qcs l) cs, ∃ e ys m, σ.ob id = some (.arr e ys m)
 | [], [], us, flat, x, hg, hv, hr, hc => by
  cases us with
  | nil => exact ⟨⟨rfl, rfl⟩, fun id hi => by cases hi⟩
  | cons _ _ => exact hr.elim
 | [], _ :: _, us, flat, x, hg, _, _, _ => by simp [Qgm] at hg
 | (ag, ks) :: r, cs, us, flat, x, hg, hv, hr, hc => by
  simp only [Qgm] at hg
  simp only [QbT, Bool.and_eq_true] at hc
  split at hg
  ·rename_i y hy
   split at hg
   ·rename_i z hz
    cases hg
    have hl := Qeh hy
    have hle : ks.length ≤ cs.length := by rw [List.length_take] at hl; omega
    have es : srcs (Qcs ((ag, ks) :: r)) cs = srcs ks (cs.take ks.length) ++ srcs (Qcs r) (cs.drop ks.length) := by
     rw [Qcs, Qm, Qfv _ _ _ hle]
    rw [es]
    have hv1 := hv.take ks.length
    have hv2 := hv.drop ks.length
    cases us with
    | nil => cases ag <;> exact hr.elim
    | cons u us =>
     have key : ∃ c f, flat.take ks.length = c ∧ flat.drop ks.length = f ∧ Rvs r us f ∧ ∀ bs, Qc3 w ok ks y c bs → Qqm w ok ag ks y u bs := by
      cases ag with
      | false =>
       obtain ⟨hk, f, rfl, h2⟩ := hr
       refine ⟨[u], f, by rw [hk]; rfl, by rw [hk]; rfl, h2, fun bs hb => ⟨hk, hb⟩⟩
      | true =>
       obtain ⟨c, f, rfl, hk, e, h2⟩ := hr
       refine ⟨c, f, by rw [← hk, List.take_left' rfl], by rw [← hk, List.drop_left' rfl], h2, fun bs hb => ⟨c, e, hb⟩⟩
     obtain ⟨c, f, e1, e2, e3, e4⟩ := key
     rw [e1] at hv1
     rw [e2] at hv2
     obtain ⟨q1, q2⟩ := QfE h hy hv1 hc.1
     obtain ⟨q3, q4⟩ := Qhw h (l := r) hz hv2 e3 hc.2
     refine ⟨⟨u, us, bsOf ι (srcs ks (cs.take ks.length)), bsOf ι (srcs (Qcs r) (cs.drop ks.length)), rfl, by simp [bsOf], by rw [Qah]; exact e4 _ q1, by rw [Qag]; exact q3⟩, fun id hi => ?_⟩
     rcases List.mem_append.1 hi with hi | hi
     ·exact q2 id hi
     ·exact q4 id hi
   ·cases hg
  ·cases hg
theorem Qn2 (h : Sim F ι ok N σ a w) {j : Nat} {v : Value} (hj : ι j = v) {cs : List Cell} {ts : List Ty} {x : (tupT ts).den} (hc : Q4 σ j = some cs) (hg : Qa3 σ ts cs = some x) : ∃ B, Qbc w ok ts x v B ∧ blk v = some B ∧ ∃ id ds, σ.ob id = some (.box ds) ∧ blk (ι id) = some B := by
 obtain ⟨B, hB, hr⟩ := QlG h hc hg
 rw [hj] at hr
 exact ⟨B, hr, by rw [← hj]; exact hB, j, cs, QaC hc, hB⟩
theorem QlC (h : Sim F ι ok N σ a w) : ∀ {caps : List (List Ty)} {j : Nat} {x : (tupT (Z4 caps)).den} {us : List Value}, Qbf σ caps (Qao.ids j caps) = some x → us.length = caps.length → (∀ y ∈ QeV j us, ι y.1 = y.2) →
  Qe5 w ok caps x us ∧ ∀ v ∈ us, ∀ b, blk v = some b → ∃ id ds, σ.ob id = some (.box ds) ∧ blk (ι id) = some b
 | [], j, x, us, hg, hl, _ => by
  have : us = [] := List.length_eq_zero_iff.1 hl
  subst this
  exact ⟨rfl, fun v hv => by cases hv⟩
 | ts :: r, j, x, [], hg, hl, _ => by simp at hl
 | ts :: r, j, x, u :: us, hg, hl, hp => by
  simp only [Qao.ids, Qbf] at hg
  simp only [show Nat.beq 0 0 = true from rfl, cond_true] at hg
  split at hg
  ·rename_i cs hcs
   split at hg
   ·rename_i y hy
    split at hg
    ·rename_i z hz
     cases hg
     obtain ⟨q1, q2⟩ := QlC h (caps := r) hz (by simpa using hl) (fun y hy => hp y (by simp [QeV, hy]))
     obtain ⟨B, k1, k2, k3⟩ := Qn2 h (hp (j, u) (by simp [QeV])) hcs hy
     refine ⟨⟨u, us, B, rfl, by rw [Qah]; exact k1, by rw [Qag]; exact q1⟩, fun v hv b hb => ?_⟩
     rcases List.mem_cons.1 hv with rfl | hv
     ·rw [k2] at hb; cases hb; exact k3
     ·exact q2 v hv b hb
    ·cases hg
   ·cases hg
  ·cases hg
theorem QaT.len {w : World} {ok : Ok} : ∀ {caps : List (List Ty)} {x : (tupT (Z4 caps)).den} {us : List Value} {bs : List Nat}, QaT w ok caps x us bs → us.length = caps.length
 | [], _, _, _, ⟨e, _⟩ => by rw [e]; rfl
 | ts :: r, _, _, _, ⟨v, vs', B, bs', e, _, _, h⟩ => by rw [e, List.length_cons, List.length_cons, QaT.len h]
theorem QeL (h : Sim F ι ok N σ a w) {w0 : World} {ok0 : Ok} : ∀ {ks : List PK} {i : Nat} {y : (tupT (Je ks)).den} {p : (tupT (insL ks)).den} {vs : List Value} {bs : List Nat}, Qcg σ i ks = some y → VQ w0 ok0 ks p vs bs → (∀ x ∈ JO i ks vs, ι x.1 = x.2) →
  Qa9 w ok ks y vs ∧ ∀ b ∈ VP ks vs, ∃ id ds, σ.ob id = some (.box ds) ∧ blk (ι id) = some b
 | [], i, y, p, vs, bs, hg, ⟨e, _⟩, hp => by subst e; exact ⟨rfl, fun b hb => by cases hb⟩
 | .val ag ts :: r, i, y, p, vs, bs, hg, ⟨v, vs', b1, b2, e, _, _, hr⟩, hp => by
  subst e
  obtain ⟨q1, q2⟩ := QeL h (ks := r) (i := i + 1) hg hr (fun x hx => hp x (by simpa [JO] using hx))
  exact ⟨⟨v, vs', rfl, q1⟩, fun b hb => q2 b (by simpa [VP] using hb)⟩
 | .own t :: r, i, y, p, vs, bs, hg, ⟨v, vs', b1, b2, e, _, _, hr⟩, hp => by
  subst e
  obtain ⟨q1, q2⟩ := QeL h (ks := r) (i := i + 1) hg hr (fun x hx => hp x (by simpa [JO] using hx))
  exact ⟨⟨v, vs', rfl, q1⟩, fun b hb => q2 b (by simpa [VP] using hb)⟩
 | .ow t :: r, i, y, p, vs, bs, hg, ⟨v, vs', b1, b2, e, _, _, hr⟩, hp => by
  subst e
  obtain ⟨q1, q2⟩ := QeL h (ks := r) (i := i + 1) hg hr (fun x hx => hp x (by simpa [JO] using hx))
  exact ⟨⟨v, vs', rfl, q1⟩, fun b hb => q2 b (by simpa [VP] using hb)⟩
 | .box ts :: r, i, y, p, vs, bs, hg, ⟨v, vs', b1, b2, e, _, _, hr⟩, hp => by
  subst e
  simp only [Qcg] at hg
  split at hg
  ·rename_i cs hcs
   split at hg
   ·rename_i x hx
    split at hg
    ·rename_i z hz
     cases hg
     obtain ⟨q1, q2⟩ := QeL h (ks := r) (i := i + 1) hz hr (fun x hx => hp x (by simp [JO, hx]))
     obtain ⟨B, k1, k2, k3⟩ := Qn2 h (hp (16 * i, v) (by simp [JO])) hcs hx
     refine ⟨⟨v, vs', B, rfl, by rw [Qah]; exact k1, by rw [Qag]; exact q1⟩, fun b hb => ?_⟩
     simp only [VP, k2, Option.toList_some, List.singleton_append, List.mem_cons] at hb
     rcases hb with rfl | hb
     ·exact k3
     ·exact q2 b hb
    ·cases hg
   ·cases hg
  ·cases hg
 | .fn f caps :: r, i, y, p, vs, bs, hg, ⟨v, vs', b1, b2, e, _, ⟨us, ev, hc⟩, hr⟩, hp => by
  subst e
  subst ev
  simp only [Qcg] at hg
  split at hg
  ·rename_i x hx
   split at hg
   ·rename_i z hz
    cases hg
    obtain ⟨q1, q2⟩ := QeL h (ks := r) (i := i + 1) hz hr (fun x hx => hp x (by simp [JO, hx]))
    obtain ⟨k1, k2⟩ := QlC h hx hc.len (fun x hx => hp x (by simp [JO, hx]))
    refine ⟨⟨us, vs', _, rfl, rfl, by rw [Qah]; exact k1, by rw [Qag]; exact q1⟩, fun b hb => ?_⟩
    simp only [VP, List.mem_append, List.mem_flatMap] at hb
    rcases hb with ⟨v, hv, hb⟩ | hb
    ·exact k2 v (by simpa using hv) b (by simpa using hb)
    ·exact q2 b hb
   ·cases hg
  ·cases hg
theorem QjH {w0 : World} {bs : List Nat} {ok0 : Ok} {sig : Sig} {p : sig.ins.den} {args : List Value} {bs' : List Nat} (hargs : VQ w0 ok0 sig.pars p args bs') (h : Sim ⟨w0, bs, ok0, JO 0 sig.pars args⟩ ι ok N σ a w) {fn : Func} {rr : sig.outs.den}
  (hf : QnL P sig fn.results.toList σ = some rr) (hcst : QbT sig.res = true) : ∃ v, (results fn a.tmps).run P w = .ok v w ∧ ∃ ok' vs rbs, Qmv w0 bs ok0 sig args rr v w ok' vs rbs := by
 unfold QnL at hf
 split at hf
 ·cases hf
 ·rename_i vs hvs
  obtain ⟨us, r1, r2⟩ := Qhh h hvs
  split at hf
  ·cases hf
  ·rename_i cs hcs
   obtain ⟨flat, c1, c2⟩ := QfW hcs r2
   obtain ⟨ok1, h1, l1⟩ := h.freezeCk (Qcs sig.res) cs
   obtain ⟨ok2, h2, l2⟩ := Sim.freeze (QcK σ 0 sig.pars) h1
   simp only at hf
   cases hb : Qbt (srcs (Qcs sig.res) cs) with
   | false => rw [hb] at hf; cases hf
   | true =>
    rw [hb] at hf
    simp only [cond_true] at hf
    have hb := (Qb1 _).1 hb
    split at hf
    ·rename_i x y hx hy
     cases hf
     have c1 : All2 (RepC w ok2 ι N) cs flat := All2.mono (fun _ _ hc => RepC.mono (QcS (l1.trans l2)) (fun _ _ => rfl) (fun _ h => h) hc) c1
     obtain ⟨g1, g2⟩ := Qhw h2 hx c1 c2 hcst
     obtain ⟨o1, o2⟩ := QeL h2 hy hargs (fun x hx => (h2.pins x hx).2)
     refine ⟨_, r1, ok2, us, bsOf ι (srcs (Qcs sig.res) cs), rfl, ⟨h2.keep.size, h2.keep.old, h2.keep.os, h2.keep.tape, h2.keep.output, h2.keep.kept, h2.keep.new⟩, h2.oks, by rw [Qah]; exact g1, by rw [Qag]; exact o1,
      h2.nodup hb (fun id hi => by obtain ⟨e, ys, m, hh⟩ := g2 id hi; exact ⟨_, hh⟩), ⟨h2.pls.cs, h2.pls.ds, h2.pls.kc, h2.pls.kd⟩, fun b hbm => ?_⟩
     simp only [bsOf, List.mem_flatMap] at hbm
     obtain ⟨id, hid, hbi⟩ := hbm
     have hbi : blk (ι id) = some b := by simpa using hbi
     obtain ⟨e, ys, m, hh⟩ := g2 id hid
     refine ⟨(h2.objs id _ hh).2.2 b hbi, fun hbx => ?_⟩
     obtain ⟨id2, ds, hh2, hb2⟩ := o2 b hbx
     refine h2.apart id id2 _ _ b hh hh2 (fun e => ?_) hbi hb2
     subst e
     rw [hh] at hh2; cases hh2
    ·cases hf
theorem VQ.len {w : World} {ok : Ok} : ∀ {ks : List PK} {x : (tupT (insL ks)).den} {vs : List Value} {bs : List Nat}, VQ w ok ks x vs bs → vs.length = ks.length
 | [], _, _, _, ⟨e, _⟩ => by rw [e]; rfl
 | k :: r, _, _, _, ⟨v, vs', b1, b2, e, _, _, h⟩ => by rw [e, List.length_cons, List.length_cons, VQ.len h]
theorem QkQ {Γ : List Summ} (hΓ : ∀ S ∈ Γ, Qal P S) (hmix : P.follows .mixedOrders = true) {ann : List (Nat × Ann)} {sig : Sig} {f : FuncId} {fn : Func} {g : Fu → sig.ins.den → Option sig.outs.den}
  (hf : P.funcs[f]? = some fn) (hname : (fn.name == "runtime.NumGoroutine") = false) (heq : ∀ m p, absF P Γ ann sig fn m p = g m p) : QlT P ⟨f, sig, g⟩ := by
 intro m p rr hg w ok args bs cs hG hargs hnd hoks hpls hnc
 have hg : absF P Γ ann sig fn m p = some rr := by rw [heq]; exact hg
 unfold absF at hg
 split at hg
 ·cases hg
 ·rename_i c hbody
  cases hc : Nat.ble sig.pars.length fn.ntmps && Qfh sig.pars && QbT sig.res && QmD ann sig.pars with
  | false => rw [hc] at hg; cases hg
  | true =>
   rw [hc] at hg
   simp only [Bool.not_true, cond_false] at hg
   simp only [Bool.and_eq_true] at hc
   obtain ⟨⟨⟨c1, c2⟩, c3⟩, c4⟩ := hc
   have c1 := Nat.le_of_ble_eq_true c1
   have hlen : args.length = sig.pars.length := hargs.len
   have hrun : (callFunc f args.toArray).run P w = .ok (.enter f args.toArray) w := by
    have hn : ¬ fn.name = "runtime.NumGoroutine" := by simpa using hname
    simp [callFunc, hf, hn, hbody]
   unfold Ends
   dsimp only
   rw [hrun]
   dsimp only
   refine calls_of_wp hf hbody ?_
   let a0 : Act := { tmps := args.toArray ++ Array.replicate (fn.ntmps - args.toArray.size) undef, defers := [] }
   have h0 : Sim ⟨w, bs ++ cs, ok, []⟩ noι ok noN (⟨[], [], 0, fn.ntmps⟩ : St) a0 w := by
    refine ⟨fun t => trivial, (fun id o ho => by cases ho), (fun i j o p b hi => by cases hi), hoks, ⟨Nat.le_refl _, fun _ _ _ => rfl, rfl, rfl, rfl, fun b o hk => ⟨hk, rfl⟩, fun b o hk => .inl hk⟩, ?_, rfl, (fun x hx => by cases hx), hpls⟩
    simp [a0]; omega
   obtain ⟨ι1, N1, s1, s2, s3, s4⟩ := Qlu (ks := sig.pars) (i := 0) (p := p) h0 (fun i hi => hi.elim) rfl hargs hnd (fun b hb => ⟨.inr (List.mem_append_left _ hb), fun i q hq => by cases hq⟩) c2 (fun j v hj => by
    rw [Nat.zero_add, Array.getD_eq_getD_getElem?]
    show ((args.toArray ++ Array.replicate (fn.ntmps - args.toArray.size) undef)[j]?).getD undef = v
    have hlt : j < args.length := by
     rcases Nat.lt_or_ge j args.length with h | h
     ·exact h
     ·rw [List.getElem?_eq_none h] at hj; cases hj
    rw [Array.getElem?_append_left (by simpa using hlt)]
    simp [hj])
   have s1' : Sim ⟨w, bs ++ cs, ok, JO 0 sig.pars args⟩ ι1 ok N1 (QnT ⟨[], [], 0, fn.ntmps⟩ 0 sig.pars p) a0 w :=
    ⟨s1.tms, s1.objs, s1.apart, s1.oks, ⟨s1.keep.size, s1.keep.old, s1.keep.os, s1.keep.tape, s1.keep.output, s1.keep.kept, s1.keep.new⟩, s1.size, s1.defs, s4, ⟨s1.pls.cs, s1.pls.ds, s1.pls.kc, s1.pls.kd⟩⟩
   refine QnN (Qlq hΓ hmix 6) hΓ hmix c _ ι1 ok N1 _ a0 w _ rr hG (fun k hk => hnc (by unfold QmD at c4; rw [hk] at c4; exact c4)) s1' s2 hg _ (fun e σ' a' w' ι' ok' N' t1 t2 t4 => ?_)
   cases e with
   | exit i => cases t4
   | normal =>
    obtain ⟨v, hv, hA⟩ := QjH hargs t1 t4 c3
    exact ⟨t1.defs, v, hv, v, rfl, hA⟩
   | ret =>
    obtain ⟨v, hv, hA⟩ := QjH hargs t1 t4 c3
    exact ⟨t1.defs, v, hv, v, rfl, hA⟩
theorem Qmn {Γ : List Summ} (hΓ : ∀ S ∈ Γ, Qal P S) (hmix : P.follows .mixedOrders = true) {ann : List (Nat × Ann)} {sig : Sig} {f : FuncId} {fn : Func} {g : Fu → sig.ins.den → Option sig.outs.den}
  (hf : P.funcs[f]? = some fn) (hname : (fn.name == "runtime.NumGoroutine") = false) (heq : ∀ m p, absF P Γ ann sig fn m p = g m p) : Qal P ⟨f, sig, g⟩ := by
 have h := QkQ hΓ hmix hf hname heq
 unfold Qal
 split
 ·rename_i x hx
  have hno : ∀ m p, absF P Γ ann sig fn m p = none := fun m p => by
   have hres : QbT sig.res = false := by
    unfold Qey at hx
    split at hx
    ·rename_i he
     cases he
     rfl
    ·rename_i he
     cases he
     rfl
    ·cases hx
   unfold absF
   split
   ·rfl
   ·rw [hres]; simp
  unfold Qey at hx
  split at hx
  ·rename_i he
   cases he
   cases hx
   intro m xs n q hq
   have h1 : some q = none := hq.symm.trans ((heq m (xs, n)).symm.trans (hno m (xs, n)))
   cases h1
  ·rename_i he
   cases he
   cases hx
   intro m y n z hz
   have h1 : some z = none := hz.symm.trans ((heq m (y, n)).symm.trans (hno m (y, n)))
   cases h1
  ·cases hx
 ·exact h
theorem Ql5 : Qal P QpS := by
 show QlT P QpS
 intro m p r h
 cases h
end
end Go.Abs
namespace Go.Abs
def QnK (rd : TypeId → Option Ty) (co : TypeId → Nat) : Nat → List Field → Option Ty
 | _, [] => some .un
 | off, [f] => match rd f.type with
  | some u => bif Nat.beq f.offset off && Nat.beq (co f.type) u.sz then some u else none
  | none => none
 | off, f :: g :: r => match rd f.type with
  | some u => bif Nat.beq f.offset off && Nat.beq (co f.type) u.sz then match QnK rd co (off + u.sz) (g :: r) with
    | some v => some (.pr u v)
    | none => none
   else none
  | none => none
def rdTy (P : Program) : Nat → TypeId → Option Ty
 | 0, _ => none
 | n + 1, t => match P.underlying t with
  | some (.int k) => some (.int k)
  | some .bool => some .bool
  | some .string => some .str
  | some (.slice e) => match rdTy P n e with
   | some u => bif Nat.beq (P.cellsOf e) u.sz && Nat.blt 0 u.sz && Nat.blt 0 (P.bytesOf e) then some (.sl u) else none
   | none => none
  | some (.struct fs) => match QnK (rdTy P n) P.cellsOf 0 fs.toList with
   | some u => bif Nat.beq (P.cellsOf t) u.sz then some u else none
   | none => none
  | _ => none
def flat : Ty → List Ty
 | .pr a b => flat a ++ flat b
 | .un => []
 | t => [t]
def Qk1 : List Ty → List Ty → Bool
 | [], [] => true
 | a :: r, b :: s => a.beq b && Qk1 r s
 | _, _ => false
theorem QiO : ∀ {a b : List Ty}, Qk1 a b = true → a = b
 | [], [], _ => rfl
 | a :: r, b :: s, h => by
  simp only [Qk1, Bool.and_eq_true] at h
  rw [Ty.eq_of_beq h.1, QiO h.2]
 | [], _ :: _, h => by cases h
 | _ :: _, [], h => by cases h
def Ty.wf : (t : Ty) → t.den → Prop
 | .int k, n => k.wrap n = n
 | .bool, _ => True
 | .str, l => (∀ c ∈ (l : List Int), 0 ≤ c ∧ c < 256) ∧ List.length (α := Int) l ≤ big
 | .sl e, xs => (∀ x ∈ (xs : List e.den), e.wf x) ∧ List.length (α := e.den) xs ≤ big
 | .pr a b, x => a.wf x.1 ∧ b.wf x.2
 | .un, _ => True
 | .pl _, xs => List.length (α := Int) xs ≤ big
theorem Qiy (s : ByteArray) : ∀ c ∈ bytesOf s, 0 ≤ c ∧ c < 256 := by
 intro c hc
 simp only [bytesOf, List.mem_map] at hc
 obtain ⟨b, _, rfl⟩ := hc
 have := b.toNat_lt
 omega
theorem Reps.all {α : Type} {R : α → List Value → Prop} {Q : α → Prop} (h : ∀ x us, R x us → Q x) : ∀ {xs : List α} {us : List Value}, Reps R xs us → ∀ x ∈ xs, Q x
 | [], _, _, x, hx => by cases hx
 | y :: r, us, ⟨v1, v2, _, h1, h2⟩, x, hx => by
  rcases List.mem_cons.1 hx with rfl | hx
  ·exact h _ _ h1
  ·exact Reps.all h h2 x hx
theorem RepD.wf {w : World} {ok : Ok} : ∀ {t : Ty} {x : t.den} {vs : List Value}, RepD w ok t x vs → t.wf x := by
 intro t
 induction t with
 | int k => intro x vs h; exact h.2
 | bool => intro x vs h; trivial
 | str => intro x vs h; obtain ⟨s, _, rfl, h2⟩ := h; exact ⟨Qiy s, h2⟩
 | sl e ih =>
  intro x vs h
  obtain ⟨a, c, _, _, h2, h3⟩ := h
  refine ⟨fun y hy => ?_, h2⟩
  rcases h3 with rfl | ⟨b, o, _, us, hr, _⟩
  ·cases hy
  ·exact Reps.all (fun _ _ h => ih h) hr y hy
 | pr a b iha ihb => intro x vs h; obtain ⟨v1, v2, _, h1, h2⟩ := h; exact ⟨iha h1, ihb h2⟩
 | un => intro x vs h; trivial
 | pl z =>
  intro x vs h
  cases z with
  | false => obtain ⟨a, c, _, _, h2, _⟩ := h; exact h2
  | true => obtain ⟨a, c, _, _, h2, _⟩ := h; exact h2
def wfTs : (ts : List Ty) → (tupT ts).den → Prop
 | [], _ => True
 | t :: r, x => t.wf (thd t r x) ∧ wfTs r (ttl t r x)
theorem QbG.wf {w : World} {ok : Ok} : ∀ {ts : List Ty} {x : (tupT ts).den} {vs : List Value}, QbG w ok ts x vs → wfTs ts x
 | [], _, _, _ => trivial
 | _ :: _, _, _, ⟨_, _, _, h1, h2⟩ => ⟨h1.wf, h2.wf⟩
def QmB : (ks : List PK) → (tupT (insL ks)).den → Prop
 | [], _ => True
 | k :: r, x => wfTs (pkTs k) (tfst (pkTs k) (insL r) x) ∧ QmB r (tsnd (pkTs k) (insL r) x)
section
variable {H : Type} {enc : TypeId × Value → H} {P : Program} {W : World} {sp : Nat → Bool} {held : Bool}
def QeN (W : World) : Nat → Nat → Prop := fun b _ => b < W.heap.size
def QiI (P : Program) (t : TypeId) (d : DataW H) : Prop := ∀ n ∈ d.weights P t, n ≤ reachBytes
theorem Qjm {e : TypeId} : ∀ {l : List (DataW H)}, (∀ n ∈ DataW.weightsAll P e l, n ≤ reachBytes) → ∀ d ∈ l, QiI P e d
 | [], _, d, hd => by cases hd
 | x :: r, h, d, hd => by
  rcases List.mem_cons.1 hd with rfl | hd
  ·exact fun n hn => h n (by simp [DataW.weightsAll, hn])
  ·exact Qjm (fun n hn => h n (by simp [DataW.weightsAll, hn])) d hd
theorem Qhp : ∀ {ts : List TypeId} {l : List (DataW H)}, (∀ n ∈ DataW.weightsEach P ts l, n ≤ reachBytes) → ∀ (i : Nat) (t : TypeId) (d : DataW H), ts[i]? = some t → l[i]? = some d → QiI P t d
 | [], _, _, i, t, d, ht, _ => by simp at ht
 | _ :: _, [], _, i, t, d, _, hd => by simp at hd
 | u :: us, x :: r, h, i, t, d, ht, hd => by
  cases i with
  | zero => cases ht; cases hd; exact fun n hn => h n (by simp [DataW.weightsEach, hn])
  | succ j => exact Qhp (ts := us) (l := r) (fun n hn => h n (by simp [DataW.weightsEach, hn])) j t d (by simpa using ht) (by simpa using hd)
theorem QgO (a : Addr) (k : Nat) : (a.add k).block = a.block := by unfold Addr.add; split <;> rfl
theorem Qn8 (a : Addr) (k : Nat) : (a.add k).off = a.off + k := by
 unfold Addr.add
 split
 ·rename_i h; have : k = 0 := by simpa using h
  subst this; rfl
 ·rfl
theorem add_zero (a : Addr) : a.add 0 = a := by simp [Addr.add]
theorem Qo6 {a : Addr} (h : a.spot = none) (k : Nat) : (a.add k).spot = none := by unfold Addr.add; split <;> first | exact h | rfl
theorem QqO {a : Addr} (h : a.spot = none) (k : Nat) : a.add k = ⟨a.block, a.off + k, none⟩ := by
 have h1 := QgO a k
 have h2 := Qn8 a k
 have h3 := Qo6 h k
 cases hh : a.add k
 rw [hh] at h1 h2 h3
 simp_all
theorem Qo0 {a : Addr} {n : Nat} {cs : List Value} (h : W.cells? 0 a n = some cs) (hn : 0 < n) : a.spot = none ∧ At W a.block a.off cs ∧ a.block < W.heap.size ∧ cs.length = n := by
 obtain ⟨_, hl, hc⟩ := World.cells?_some h
 have h0 := hc 0 hn
 obtain ⟨c0, hc0⟩ : ∃ c0, cs[0]? = some c0 := by
  cases cs with
  | nil => simp at hl; omega
  | cons c _ => exact ⟨c, rfl⟩
 have hs : a.spot = none := by
  rw [hc0] at h0
  cases hsp : a.spot with
  | none => rfl
  | some x =>
   exfalso
   rw [add_zero] at h0
   unfold World.cell? at h0
   rw [hsp] at h0
   split at h0 <;> simp at h0
 refine ⟨hs, fun j v hv => ?_, World.cells?_block h hn, hl⟩
 have hj : j < n := by
  rcases Nat.lt_or_ge j cs.length with g | g
  ·omega
  ·rw [List.getElem?_eq_none g] at hv; cases hv
 have := hc j hj
 rw [hv] at this
 rw [QqO hs] at this
 exact this
theorem Qp3 {rd : TypeId → Option Ty} (hrd : ∀ t u, rd t = some u → ∀ (fuel : Nat) (cs : List Value) (x : DataW H × List MemPlace), DataW.trod enc P W 0 sp held fuel t cs = some x → QiI P t x.1 → ∃ d, RepD W (QeN W) u d cs) :
  ∀ {fs : List Field} {off : Nat} {u : Ty} {cs : List Value} {xs : List (DataW H × List MemPlace)} {n : Nat}, QnK rd P.cellsOf off fs = some u → cs.length = off + u.sz →
   (∀ (i : Nat) (f : Field), fs[i]? = some f → DataW.trod enc P W 0 sp held n f.type ((cs.drop f.offset).take (P.cellsOf f.type)) = xs[i]?) → xs.length = fs.length →
   (∀ (i : Nat) (t : TypeId) (d : DataW H), (fs.map (·.type))[i]? = some t → (xs.map (·.1))[i]? = some d → QiI P t d) → ∃ d, RepD W (QeN W) u d (cs.drop off) := by
 intro fs
 induction fs with
 | nil =>
  intro off u cs xs n h hl _ _ _
  cases h
  exact ⟨(), by simp only [RepD]; exact List.drop_eq_nil_of_le (by simp [Ty.sz] at hl; omega)⟩
 | cons f r ih =>
  intro off u cs xs n h hl hp hx hw
  cases xs with
  | nil => simp at hx
  | cons y ys =>
   have h0 := hp 0 f rfl
   simp only [List.getElem?_cons_zero] at h0
   cases r with
   | nil =>
    simp only [QnK] at h
    split at h
    ·rename_i v hv
     cases hb : Nat.beq f.offset off && Nat.beq (P.cellsOf f.type) v.sz with
     | false => simp [hb] at h
     | true =>
      simp only [hb, cond_true] at h
      cases h
      rw [Bool.and_eq_true] at hb
      have e1 := Nat.eq_of_beq_eq_true hb.1
      have e2 := Nat.eq_of_beq_eq_true hb.2
      rw [e1, e2, List.take_of_length_le (by simp; omega)] at h0
      exact hrd _ _ hv _ _ _ h0 (hw 0 _ _ rfl rfl)
    ·cases h
   | cons g r =>
    simp only [QnK] at h
    split at h
    ·rename_i v hv
     cases hb : Nat.beq f.offset off && Nat.beq (P.cellsOf f.type) v.sz with
     | false => simp [hb] at h
     | true =>
      simp only [hb, cond_true] at h
      split at h
      ·rename_i v2 hv2
       cases h
       rw [Bool.and_eq_true] at hb
       have e1 := Nat.eq_of_beq_eq_true hb.1
       have e2 := Nat.eq_of_beq_eq_true hb.2
       rw [e1, e2] at h0
       obtain ⟨d1, g1⟩ := hrd _ _ hv _ _ _ h0 (hw 0 _ _ rfl rfl)
       have hl2 : cs.length = off + v.sz + v2.sz := by simp only [Ty.sz] at hl; omega
       obtain ⟨d2, g2⟩ := ih (off := off + v.sz) (xs := ys) hv2 hl2 (fun i f' hf => by simpa using hp (i + 1) f' (by simpa using hf)) (by simpa using hx)
        (fun i t d ht hd => hw (i + 1) t d (by simpa using ht) (by simpa using hd))
       refine ⟨(d1, d2), (cs.drop off).take v.sz, cs.drop (off + v.sz), ?_, g1, g2⟩
       rw [← List.drop_drop]
       exact (List.take_append_drop _ _).symm
      ·cases h
    ·cases h
theorem Qp4 {e : TypeId} {u : Ty} {n : Nat} {a : Addr} (hsz : P.cellsOf e = u.sz) (hpos : 0 < u.sz)
  (hrd : ∀ (cs : List Value) (x : DataW H × List MemPlace), DataW.trod enc P W 0 sp held n e cs = some x → QiI P e x.1 → ∃ d, RepD W (QeN W) u d cs) :
  ∀ (l : List (DataW H × List MemPlace)) (k : Nat), (∀ i, i < l.length → (W.cells? 0 (a.add ((k + i) * P.cellsOf e)) (P.cellsOf e)).bind (DataW.trod enc P W 0 sp held n e) = l[i]?) → (∀ d ∈ l.map (·.1), QiI P e d) →
   ∃ (xs : List u.den) (us : List Value), xs.length = l.length ∧ Reps (fun x us => RepD W (QeN W) u x us) xs us ∧ At W a.block (a.off + k * u.sz) us ∧ (k = 0 → l ≠ [] → a.spot = none ∧ a.block < W.heap.size) := by
 intro l
 induction l with
 | nil => intro k _ _; exact ⟨[], [], rfl, rfl, (fun j v hv => by simp at hv), fun _ h => absurd rfl h⟩
 | cons y ys ih =>
  intro k hel hw
  have h0 := hel 0 (by simp)
  simp only [Nat.add_zero, List.getElem?_cons_zero] at h0
  obtain ⟨cs, hc, ht⟩ := Option.bind_eq_some_iff.1 h0
  obtain ⟨c1, c2, c3, c4⟩ := Qo0 hc (by omega)
  obtain ⟨d, hd⟩ := hrd _ _ ht (hw _ (by simp))
  obtain ⟨xs, us, g1, g2, g3, g4⟩ := ih (k + 1) (fun i hi => by
   have := hel (i + 1) (by simpa using hi)
   rw [show k + 1 + i = k + (i + 1) from by omega]
   simpa using this) (fun d hd => hw d (by simp [hd]))
  refine ⟨d :: xs, cs ++ us, by simp [g1], ⟨cs, us, rfl, hd, g2⟩, ?_, fun k0 _ => ⟨by subst k0; rw [Nat.zero_mul, add_zero] at c1; exact c1, by rw [QgO] at c3; exact c3⟩⟩
  intro j v hv
  rcases Nat.lt_or_ge j cs.length with hj | hj
  ·rw [List.getElem?_append_left hj] at hv
   have := c2 j v hv
   rw [QgO, Qn8, hsz] at this
   exact this
  ·rw [List.getElem?_append_right hj] at hv
   have := g3 _ v hv
   rw [show a.off + k * u.sz + j = a.off + (k + 1) * u.sz + (j - cs.length) from by rw [c4, hsz] at hj ⊢; rw [Nat.add_mul]; omega]
   exact this
theorem Qor : ∀ {n : Nat} {t : TypeId} {u : Ty}, rdTy P n t = some u → ∀ (fuel : Nat) (cs : List Value) (x : DataW H × List MemPlace), DataW.trod enc P W 0 sp held fuel t cs = some x → QiI P t x.1 → ∃ d, RepD W (QeN W) u d cs := by
  intro n
  induction n with
  | zero => intro t u h; cases h
  | succ n ih =>
    intro t u h fuel cs x hx hl
    simp only [rdTy] at h
    split at h
    · rename_i k hu
      cases h
      obtain ⟨m, rfl, _, hw⟩ := DataW.trod_int hu hx
      refine ⟨m, rfl, ?_⟩
      simp only [Lit.wf, Bool.and_eq_true, decide_eq_true_eq] at hw
      exact (Qhr k m).2 hw
    · rename_i hu
      cases h
      obtain ⟨b, rfl, _⟩ := DataW.trod_bool hu hx
      exact ⟨b, rfl⟩
    · rename_i hu
      cases h
      obtain ⟨s, rfl, rfl, hs⟩ := DataW.trod_string hu hx
      refine ⟨bytesOf s, s, rfl, rfl, ?_⟩
      have := hl s.data.toList.length (by simp [DataW.weights])
      have e : (bytesOf s).length = s.data.toList.length := by simp [bytesOf]
      rw [e]
      unfold big; unfold reachBytes at this; omega
    · rename_i e hu
      split at h
      · rename_i v hv
        cases hb : Nat.beq (P.cellsOf e) v.sz && Nat.blt 0 v.sz && Nat.blt 0 (P.bytesOf e) with
        | false => simp [hb] at h
        | true =>
          simp only [hb, cond_true] at h
          cases h
          simp only [Bool.and_eq_true] at hb
          obtain ⟨⟨hb1, hb2⟩, hb3⟩ := hb
          have e1 := Nat.eq_of_beq_eq_true hb1
          have e2 := Nat.le_of_ble_eq_true hb2
          have e3 := Nat.le_of_ble_eq_true hb3
          rcases DataW.trod_slice hu hx with ⟨rfl, rfl⟩ | ⟨a, len, cap, elems, rest, m, rfl, rfl, rfl, _, hle, _, hlen, hel, _, _⟩
          · exact ⟨[], none, 0, rfl, Nat.zero_le _, by simp, .inl rfl⟩
          · have hw1 : (elems.length + rest.length) * P.bytesOf e ≤ reachBytes := by
              have := hl ((elems.length + rest.length) * P.bytesOf e) (by simp [DataW.weights, hu])
              simpa using this
            have hw2 : ∀ d ∈ elems.map (·.1), QiI P e d := Qjm (fun k hk => hl k (by simp [DataW.weights, hu, hk]))
            obtain ⟨xs, us, g1, g2, g3, g4⟩ := Qp4 (a := a) e1 e2 (fun cs x hx hw => ih hv m cs x hx hw) elems 0 (fun i hi => by rw [Nat.zero_add]; exact hel i (by omega)) hw2
            have hbig : xs.length ≤ big := by
              have : elems.length ≤ (elems.length + rest.length) * P.bytesOf e := by
                calc elems.length ≤ elems.length + rest.length := by omega
                  _ = (elems.length + rest.length) * 1 := by omega
                  _ ≤ _ := Nat.mul_le_mul_left _ e3
              unfold big; unfold reachBytes at hw1; omega
            refine ⟨xs, some a, cap, by rw [g1, hlen], by rw [g1, hlen]; exact hle, hbig, ?_⟩
            by_cases he : elems = []
            · subst he; left; exact List.length_eq_zero_iff.1 g1
            · right
              obtain ⟨q1, q2⟩ := g4 rfl he
              refine ⟨a.block, a.off, by cases a; simp_all, us, g2, by simpa using g3, fun j _ => q2⟩
      · cases h
    · rename_i fs hu
      split at h
      · rename_i v hv
        cases hb : Nat.beq (P.cellsOf t) v.sz with
        | false => simp [hb] at h
        | true =>
          simp only [hb, cond_true] at h
          cases h
          have e1 := Nat.eq_of_beq_eq_true hb
          obtain ⟨xs, m, rfl, rfl, hlen, hxs, hf⟩ := DataW.trod_struct hu hx
          have := Qp3 (P := P) (W := W) (sp := sp) (held := held) (enc := enc) (rd := rdTy P n) (fun t u h => ih h) (off := 0) (xs := xs) (n := m) hv (by rw [hlen, e1]; omega)
            (fun i f hi => hf i f (by simpa using hi)) (by simpa using hxs) (Qhp (fun k hk => hl k (by simpa [DataW.weights, hu] using hk)))
          simpa using this
      · cases h
    · cases h
theorem QoU : ∀ {u : Ty} {d : u.den} {cs : List Value} {ts : List Ty} {ok : Ok} {y : (tupT ts).den} {cs' : List Value}, RepD W ok u d cs → QbG W ok ts y cs' → ∀ L, L = flat u ++ ts → ∃ x, QbG W ok L x (cs ++ cs') := by
 intro u
 have one : ∀ {u : Ty} {d : u.den} {cs : List Value} {ts : List Ty} {ok : Ok} {y : (tupT ts).den} {cs' : List Value}, cs.length = 1 → RepD W ok u d cs → QbG W ok ts y cs' → ∀ L, L = u :: ts → ∃ x, QbG W ok L x (cs ++ cs') := by
  rintro u d cs ts ok y cs' h1 h h' L rfl
  match cs, h1 with
  | [c], _ => exact ⟨QhS u ts d y, c, cs', rfl, by rw [Qax]; exact h, by rw [VE]; exact h'⟩
 induction u with
 | pr a b iha ihb =>
  intro d cs ts ok y cs' h h' L hL
  obtain ⟨v1, v2, rfl, h1, h2⟩ := h
  obtain ⟨x2, g2⟩ := ihb h2 h' _ rfl
  obtain ⟨x1, g1⟩ := iha h1 g2 L (by rw [hL]; simp [flat])
  exact ⟨x1, by rw [List.append_assoc]; exact g1⟩
 | un =>
  intro d cs ts ok y cs' h h' L hL
  cases (show cs = [] from h)
  subst hL
  exact ⟨y, h'⟩
 | int k => intro d cs ts ok y cs' h h' L hL; exact one (by rw [h.1]; rfl) h h' L hL
 | bool => intro d cs ts ok y cs' h h' L hL; exact one (by rw [show cs = _ from h]; rfl) h h' L hL
 | str => intro d cs ts ok y cs' h h' L hL; exact one (by obtain ⟨s, rfl, _⟩ := h; rfl) h h' L hL
 | sl e _ => intro d cs ts ok y cs' h h' L hL; exact one (by obtain ⟨a, c, rfl, _⟩ := h; rfl) h h' L hL
 | pl z => intro d cs ts ok y cs' h h' L hL; exact one (RepD.len h) h h' L hL
def Qdr (P : Program) : List TypeId → List PK → Bool
 | [], [] => true
 | t :: ts, .val ag us :: ks => (match rdTy P tyD t with
  | some u => Qk1 (flat u) us && (match P.underlying t with
   | some (.struct _) => ag
   | some (.int _) | some .bool | some .string | some (.slice _) => !ag
   | _ => false)
  | none => false) && Qdr P ts ks
 | _, _ => false
theorem Qqd {t : TypeId} {v : Value} {d : DataW H} {p : List MemPlace} {u : Ty} {ag : Bool} (hu : rdTy P tyD t = some u)
  (hag : (match P.underlying t with
   | some (.struct _) => ag
   | some (.int _) | some .bool | some .string | some (.slice _) => !ag
   | _ => false) = true)
  (h : DataW.Trod enc P W 0 sp held t v d p) {base : Nat} (hv : Value.okWide P W .any base t v) (hl : QiI P t d) : ∃ x, QgZ W (QeN W) (.val ag (flat u)) x v [] := by
 obtain ⟨fuel, hf⟩ := h
 obtain ⟨y, hy⟩ := Qor hu _ _ _ hf hl
 obtain ⟨x, hx⟩ := QoU (ts := []) (y := ()) (cs' := []) hy (show QbG W (QeN W) [] () [] from rfl) (flat u) (List.append_nil _).symm
 rw [List.append_nil] at hx
 unfold Value.okWide at hv
 have fin : ag = false → v.cells = #[v] → ∃ x, QgZ W (QeN W) (.val ag (flat u)) x v [] := fun e1 e2 => by
  subst e1
  rw [e2] at hx
  exact ⟨x, rfl, hx⟩
 split at hag
 ·rename_i fs hs
  simp only [hs] at hv
  obtain ⟨cs, rfl, _⟩ := hv
  subst hag
  exact ⟨x, rfl, cs.toList, by simp, hx⟩
 all_goals first
  | (rename_i hs; simp only [hs] at hv; exact fin (by simpa using hag) (by cases v <;> first | rfl | simp [Cell.okWide, Cell.ok, hs] at hv))
  | cases hag
theorem QlI : ∀ {ts : List TypeId} {ks : List PK} {vs : List Value} {ds : List (DataW H)} {p : List MemPlace} {base : Nat}, Qdr P ts ks = true → DataW.TrodAll enc P W 0 sp held ts vs ds p →
  (∀ (j : Nat) t v, ts[j]? = some t → vs[j]? = some v → Value.okWide P W .any base t v) → (∀ n ∈ DataW.weightsEach P ts ds, n ≤ reachBytes) → ∃ x, VQ W (QeN W) ks x vs []
 | [], [], vs, ds, p, base, _, h, _, _ => by
  cases vs with
  | nil => exact ⟨(), rfl, rfl⟩
  | cons _ _ => cases ds <;> exact h.elim
 | [], _ :: _, _, _, _, _, h, _, _, _ => by cases h
 | _ :: _, [], _, _, _, _, h, _, _, _ => by simp [Qdr] at h
 | t :: ts, k :: ks, vs, ds, p, base, hk, h, hv, hl => by
  cases vs with
  | nil => cases ds <;> exact h.elim
  | cons v vs =>
   cases ds with
   | nil => exact h.elim
   | cons d ds =>
    obtain ⟨p1, q1, h1, h2, _⟩ := h
    cases k with
    | val ag us =>
     simp only [Qdr, Bool.and_eq_true] at hk
     obtain ⟨hk1, hk2⟩ := hk
     split at hk1
     ·rename_i u hu
      rw [Bool.and_eq_true] at hk1
      have e := QiO hk1.1
      subst e
      obtain ⟨x, hx⟩ := Qqd hu hk1.2 h1 (hv 0 t v rfl rfl) (fun n hn => hl n (by simp [DataW.weightsEach, hn]))
      obtain ⟨y, hy⟩ := QlI (base := base) hk2 h2 (fun j t' v' ht hv' => hv (j + 1) t' v' (by simpa using ht) (by simpa using hv')) (fun n hn => hl n (by simp [DataW.weightsEach, hn]))
      refine ⟨tapp (flat u) (insL ks) x y, v, vs, [], [], rfl, rfl, ?_, ?_⟩
      ·show QgZ W (QeN W) (.val ag (flat u)) (tfst (flat u) (insL ks) (tapp (flat u) (insL ks) x y)) v []
       rw [Qah]; exact hx
      ·show VQ W (QeN W) ks (tsnd (flat u) (insL ks) (tapp (flat u) (insL ks) x y)) vs []
       rw [Qag]; exact hy
     ·cases hk1
    | own t => simp [Qdr] at hk
    | ow t => simp [Qdr] at hk
    | box ts => simp [Qdr] at hk
    | fn f c => simp [Qdr] at hk
theorem VQ.wf {w : World} {ok : Ok} : ∀ {ks : List PK} {ts : List TypeId}, Qdr P ts ks = true → ∀ {x : (tupT (insL ks)).den} {vs : List Value} {bs : List Nat}, VQ w ok ks x vs bs → QmB ks x
 | [], _, _, _, _, _, _ => trivial
 | .val ag us :: ks, [], h, _, _, _, _ => by cases h
 | .val ag us :: ks, t :: ts, h, x, vs, bs, ⟨v, vs', b1, b2, _, _, h1, h2⟩ => by
  simp only [Qdr, Bool.and_eq_true] at h
  refine ⟨?_, VQ.wf (ts := ts) h.2 h2⟩
  cases ag with
  | false => exact h1.2.wf
  | true => obtain ⟨_, vs, _, h1⟩ := h1; exact h1.wf
 | .own _ :: _, ts, h, _, _, _, _ => by cases ts <;> simp [Qdr] at h
 | .ow _ :: _, ts, h, _, _, _, _ => by cases ts <;> simp [Qdr] at h
 | .box _ :: _, ts, h, _, _, _, _ => by cases ts <;> simp [Qdr] at h
 | .fn _ _ :: _, ts, h, _, _, _, _ => by cases ts <;> simp [Qdr] at h
end
end Go.Abs
namespace Go.Abs
open Go.ChangeShapes Go.WideShapes Go.ChangeAt Go.RowKit
section
variable {H : Type} {enc : TypeId × Value → H} {P : Program}
theorem Qrf : ∀ S ∈ ([] : List Summ), Qal P S := fun S h => by cases h
theorem QqR {S : Summ} {l : List Summ} (h : Qal P S) (t : ∀ S ∈ l, Qal P S) : ∀ T ∈ S :: l, Qal P T := fun T hT => by
 rcases List.mem_cons.1 hT with rfl | hT
 ·exact h
 ·exact t T hT
def QiX (P : Program) : List TypeId → Bool
 | [] => true
 | t :: r => P.readableRec t && Nat.blt t P.types.size && QiX P r
theorem QdY (hl : laidOutB P = true) {W W' : World} (hb : Go.RowKit.Below W.heap.size W W') : ∀ {ts : List TypeId} {vs : List Value} {ds : List (DataW H)} {p : List MemPlace}, QiX P ts = true →
  DataW.TrodAll enc P W 0 (fun _ => true) true ts vs ds p → DataW.TrodAll enc P W' 0 (fun b => decide (b < W.heap.size)) true ts vs ds p
 | [], [], [], _, _, h => h
 | [], _ :: _, _, _, _, h => by cases ‹List (DataW H)› <;> exact h.elim
 | [], [], _ :: _, _, _, h => h.elim
 | _ :: _, [], _, _, _, h => by cases ‹List (DataW H)› <;> exact h.elim
 | _ :: _, _ :: _, [], _, _, h => h.elim
 | t :: ts, v :: vs, d :: ds, p, hr, ⟨p1, q1, h1, h2, e⟩ => by
  simp only [QiX, Bool.and_eq_true] at hr
  have lt : ∀ x ∈ p1, x.block < W.heap.size := by obtain ⟨m, hm⟩ := h1; exact DataW.trod_lt m _ _ _ hm
  exact ⟨p1, q1, Go.RowKit.Below.trod hl hr.1.1 (Nat.le_of_ble_eq_true hr.1.2) h1 hb lt, QdY hl hb hr.2 h2, e⟩
theorem QfN {W : World} {b : Nat} {sp : Nat → Bool} {hd : Bool} : ∀ {ts : List TypeId} {vs : List Value} {ds : List (DataW H)} {p : List MemPlace}, DataW.TrodAll enc P W b sp hd ts vs ds p → ds.length = ts.length
 | [], [], [], _, _ => rfl
 | [], _ :: _, _, _, h => by cases ‹List (DataW H)› <;> exact h.elim
 | [], [], _ :: _, _, h => h.elim
 | _ :: _, [], _, _, h => by cases ‹List (DataW H)› <;> exact h.elim
 | _ :: _, _ :: _, [], _, h => h.elim
 | t :: ts, v :: vs, d :: ds, p, ⟨p1, q1, h1, h2, e⟩ => by simp [QfN h2]
theorem Qcy : ∀ {ts : List TypeId} {ds : List (DataW H)} {us : List TypeId} {es : List (DataW H)}, ds.length = ts.length → DataW.weightsEach P (ts ++ us) (ds ++ es) = DataW.weightsEach P ts ds ++ DataW.weightsEach P us es
 | [], [], us, es, _ => by simp [DataW.weightsEach]
 | t :: ts, d :: ds, us, es, h => by
  have := Qcy (ts := ts) (ds := ds) (us := us) (es := es) (by simpa using h)
  simp [DataW.weightsEach, this]
 | [], _ :: _, _, _, h => by simp at h
 | _ :: _, [], _, _, h => by simp at h
theorem Qnz {C : Checked} {f : FuncId} {fn : Func} {s : ChangeSpec} {pars : List PK} {tb : TypeId}
  {F : Fu → (tupT (insL pars)).den → Option (tupT (app [Ty.bool] (Je pars))).den}
  (hfn : C.prog.funcs[f]? = some fn) (hbody : fn.body.isSome = true) (hname : (fn.name == "runtime.NumGoroutine") = false)
  (laidOut : laidOutB C.prog = true) (hrows : QiX C.prog fn.params.toList = true) (hargs : Qdr C.prog fn.params.toList pars = true)
  (hres : fn.resultTypes = #[tb]) (hb : C.prog.underlying tb = some .bool) (hvars : s.vars = [])
  (hs : ∀ (H : Type) (ds : List (DataW H)), ds.length = fn.params.toList.length → s.fn H ds = { results := [.lit (.bool true)], args := ds })
  (hS : Qal C.prog ⟨f, ⟨pars, [(false, [.dat .bool])]⟩, F⟩)
  (hF : ∀ p, QmB pars p → ∃ m r, F m p = some r ∧ tfst [Ty.bool] (Je pars) r = true)
  {W : World} {base : Nat} {args : Array Value} {ds gs : List (DataW H)} {before : List MemPlace} (hG : GOk C.prog W (QeN W))
  (hval : ∀ (j : Nat) t v, fn.params[j]? = some t → args[j]? = some v → Value.okWide C.prog W .any base t v)
  (hW : DataW.Whole enc C.prog fn.params.toList s.vars false W args.toList ds gs before)
  (hsz : (DataW.weightsEach C.prog (fn.params.toList ++ s.plain.varTypes C.prog) (ds ++ gs)).all (· ≤ reachBytes) = true) :
  Calls C.prog f args W fun e W' => ∃ v, e = .returned v ∧ s.post enc C.prog fn false true false false W args v W' := by
 obtain ⟨body, hbody⟩ := Option.isSome_iff_exists.1 hbody
 have hW' := hW
 obtain ⟨p, q, hA, hV, rfl, hfz, hnd⟩ := hW
 rw [hvars] at hV
 obtain ⟨rfl, rfl⟩ := trodVars_none hV
 have hlen := QfN hA
 have hwe : ∀ n ∈ DataW.weightsEach C.prog fn.params.toList ds, n ≤ reachBytes := by
  rw [Qcy hlen] at hsz
  intro n hn
  have := List.all_eq_true.1 hsz n (by simp [hn])
  simpa using this
 obtain ⟨x, hx⟩ := QlI (base := base) hargs hA (fun j t v ht hv => hval j t v (by simpa using ht) (by simpa using hv)) hwe
 obtain ⟨m, r, hr1, hr2⟩ := hF x (VQ.wf hargs hx)
 have hE := hS.plain (Qmx fun ks h => by simp at h) m x r hr1 W (Ok.of (QeN W)) args.toList [] [] hG hx List.nodup_nil (fun b o h => Ok.of_any h) (Pls.of _ _ _ (fun _ _ k => k) (fun _ _ k => k)) (fun _ _ _ k => k)
 have hrun : (callFunc f args.toList.toArray).run C.prog W = .ok (.enter f args) W := by
  have hn : ¬ fn.name = "runtime.NumGoroutine" := by simpa using hname
  simp [callFunc, hfn, hn, hbody]
 unfold Ends at hE
 dsimp only at hE
 rw [hrun] at hE
 dsimp only at hE
 refine hE.mono fun e W' he => ?_
 obtain ⟨v, rfl, ok', vs, rbs, hAf⟩ := he
 have bel : Go.RowKit.Below W.heap.size W W' := ⟨hAf.keep.os, hAf.keep.tape, hAf.keep.output, hAf.keep.size, fun k hk => hAf.keep.old k hk (by simp)⟩
 have hv : v = .bool true := by
  have h1 := hAf.res
  obtain ⟨v0, vs', b1, b2, rfl, _, h3, h4⟩ := h1
  obtain ⟨rfl, _⟩ := (show vs' = [] ∧ b2 = [] from h4)
  obtain ⟨_, u, us, e, h5, h6⟩ := h3
  simp only [List.cons.injEq] at e
  obtain ⟨rfl, rfl⟩ := e
  have h7 : [v0] = [Value.bool (tfst [Ty.bool] (Je pars) r)] := h5
  rw [hr2] at h7
  simp only [List.cons.injEq, and_true] at h7
  rw [hAf.val, h7]; rfl
 subst hv
 refine ⟨_, rfl, ds, [], p ++ [], [], p, [], hW', ?_, ?_, ?_, ?_, ?_⟩
 ·rw [List.append_nil, hs H ds hlen, hres]
  exact trodAll_mk1 (shut_bool hb _)
 ·rw [List.append_nil, hs H ds hlen]
  exact QdY laidOut bel hrows hA
 ·rw [hvars, List.append_nil, hs H ds hlen]
  rfl
 ·exact bel.frame _
 ·intro h; cases h
theorem Ql8 {C : Checked} {os : Os} {f : FuncId} {fn : Func} {s : ChangeSpec} {conds : List PathCond} {pars : List PK} {tb : TypeId}
  {F : Fu → (tupT (insL pars)).den → Option (tupT (app [Ty.bool] (Je pars))).den}
  (own : ownKnob C.prog.godebug = none) (started : os.Started) (noInit : C.prog.inits.idxOf? f = none) (hfn : C.prog.funcs[f]? = some fn)
  (witness : ∃ (w : World) (tape : Tape) (i : Input), w.os = os ∧ (w.forCall tape i).Shaped C.prog ∧ i.vars = [] ∧ Input.okWide C.prog (w.forCall tape i) .any w.heap.size f i ∧
   s.pre6 enc C.prog fn conds false (w.forCall tape i).memory i.args ∧ ({} : Assume).holds C.prog (lone (Frame.enter C.prog f i.args .normal) [] (w.forCall tape i)))
  (hbody : fn.body.isSome = true) (hname : (fn.name == "runtime.NumGoroutine") = false)
  (laidOut : laidOutB C.prog = true) (hrows : QiX C.prog fn.params.toList = true) (hargs : Qdr C.prog fn.params.toList pars = true)
  (hres : fn.resultTypes = #[tb]) (hb : C.prog.underlying tb = some .bool) (hvars : s.vars = [])
  (hs : ∀ (H : Type) (ds : List (DataW H)), ds.length = fn.params.toList.length → s.fn H ds = { results := [.lit (.bool true)], args := ds })
  (hS : Qal C.prog ⟨f, ⟨pars, [(false, [.dat .bool])]⟩, F⟩)
  (hglob : Qno C.prog = true)
  (hF : ∀ p, QmB pars p → ∃ m r, F m p = some r ∧ tfst [Ty.bool] (Je pars) r = true) :
  ReturnsInHanded {} C os f .any (s.pre6 enc C.prog fn conds false) (s.post enc C.prog fn false true false false) :=
 returnsInHanded_of_change_sized own started noInit hfn witness fun _ _ _ _ _ _ hval hW _ hsz _ =>
  Qnz hfn hbody hname laidOut hrows hargs hres hb hvars hs hS hF (GOk.none hglob) hval hW hsz
end
end Go.Abs
namespace Go.Abs
def N0 : Nat := 1180591620717411303424
@[reducible] def mx : Fu := some N0
section
variable {A R : Type}
theorem Jl {f : A → Option (Step A R)} {a b : A} {n : Nat} (h : f a = some (.next b)) : QaG f (n + 1) a = QaG f n b := by simp [QaG, h]
theorem Jr {f : A → Option (Step A R)} {a : A} {r : R} {n : Nat} (h : f a = some (.fin r)) : QaG f (n + 1) a = some r := by simp [QaG, h]
theorem Qjv {f : A → Option (Step A R)} {I : A → Prop} (μ : A → Nat) {Q : R → Prop}
  (h : ∀ a, I a → (∃ b, f a = some (.next b) ∧ I b ∧ μ b < μ a) ∨ (∃ r, f a = some (.fin r) ∧ Q r)) : ∀ (n : Nat) (a : A), I a → μ a < n → ∃ r, QaG f n a = some r ∧ Q r
 | 0, a, _, hm => by omega
 | n + 1, a, ha, hm => by
  rcases h a ha with ⟨b, h1, h2, h3⟩ | ⟨r, h1, h2⟩
  ·rw [Jl h1]; exact Qjv μ h n b h2 (by omega)
  ·exact ⟨r, Jr h1, h2⟩
theorem V9 {f : A → Option (Step A R)} (I : A → Prop) (μ : A → Nat) (Q : R → Prop) (a : A) (ha : I a) (hm : μ a < N0)
  (h : ∀ a, I a → (∃ b, f a = some (.next b) ∧ I b ∧ μ b < μ a) ∨ (∃ r, f a = some (.fin r) ∧ Q r)) : ∃ r, iter mx f a = some r ∧ Q r :=
 Qjv μ h N0 a ha hm
theorem Qgk {f : A → Option (Step A R)} (s : Nat → A) {r : R} : ∀ (n i fuel : Nat), (∀ k, i ≤ k → k < i + n → f (s k) = some (.next (s (k + 1)))) → f (s (i + n)) = some (.fin r) → n < fuel → QaG f fuel (s i) = some r
 | 0, i, fuel, _, h, hf => by
  obtain ⟨m, rfl⟩ : ∃ m, fuel = m + 1 := ⟨fuel - 1, by omega⟩
  exact Jr h
 | n + 1, i, fuel, hs, h, hf => by
  obtain ⟨m, rfl⟩ : ∃ m, fuel = m + 1 := ⟨fuel - 1, by omega⟩
  rw [Jl (hs i (Nat.le_refl _) (by omega))]
  exact Qgk s n (i + 1) m (fun k h1 h2 => hs k (by omega) (by omega)) (by rw [show i + 1 + n = i + (n + 1) from by omega]; exact h) (by omega)
theorem QL {f : A → Option (Step A R)} (s : Nat → A) (n : Nat) {r : R} (hn : n < N0) (hs : ∀ k, k < n → f (s k) = some (.next (s (k + 1)))) (h : f (s n) = some (.fin r)) : iter mx f (s 0) = some r :=
 Qgk s n 0 N0 (fun k _ h2 => hs k (by omega)) (by rw [Nat.zero_add]; exact h) hn
theorem Z7 {n : Nat} (h : n ≤ 1000000000000000000) : n < N0 := by unfold N0; omega
end
theorem w64 {n : Int} (h1 : -9223372036854775808 ≤ n) (h2 : n ≤ 9223372036854775807) : IntKind.i64.wrap n = n := IntWalk.i64_in n ⟨h1, h2⟩
theorem wu64 {n : Int} (h1 : 0 ≤ n) (h2 : n ≤ 18446744073709551615) : IntKind.u64.wrap n = n := IntWalk.u64_in n ⟨h1, h2⟩
theorem wu8 {n : Int} (h1 : 0 ≤ n) (h2 : n ≤ 255) : IntKind.u8.wrap n = n := IntWalk.u8_in n ⟨h1, h2⟩
theorem wu32 {n : Int} (h1 : 0 ≤ n) (h2 : n ≤ 4294967295) : IntKind.u32.wrap n = n := IntWalk.u32_in n ⟨h1, h2⟩
theorem Qpv {n : Int} (h : Ty.wf (.int .u64) n) : 0 ≤ n ∧ n ≤ 18446744073709551615 := by
 have : IntKind.u64.wrap n = n := h
 rw [IntKind.wrap_u64] at this; omega
theorem Qqn {n : Int} (h : Ty.wf (.int .u32) n) : 0 ≤ n ∧ n ≤ 4294967295 := by
 have : IntKind.u32.wrap n = n := h
 rw [IntKind.wrap_u32] at this; omega
theorem wfu8 {n : Int} (h : Ty.wf (.int .u8) n) : 0 ≤ n ∧ n ≤ 255 := by
 have : IntKind.u8.wrap n = n := h
 rw [IntKind.wrap_u8] at this; omega
theorem getD_some {α : Type} {l : List α} {i : Nat} (h : i < l.length) (d : α) : l.getD i d = l[i] := by simp [List.getD_eq_getElem?_getD, h]
end Go.Abs
namespace Go.Abs
section
variable {α : Type}
theorem Qqa (a b : Bool) : (bif a then some b else some false) = some (a && b) := by cases a <;> rfl
end
end Go.Abs
namespace Go.Abs
def Qou (g : Nat → Int) : Nat → Int
 | 0 => 0
 | k + 1 => Qou g k + g k
theorem Qkb {g h : Nat → Int} : ∀ (k : Nat), (∀ i, i < k → g i = h i) → Qou g k = Qou h k
 | 0, _ => rfl
 | k + 1, hh => by simp only [Qou]; rw [Qkb k (fun i hi => hh i (by omega)), hh k (by omega)]
theorem QjG (P : Nat → Prop) [DecidablePred P] : ∀ (n : Nat), (∀ k, k < n → P k) ∨ ∃ k, k < n ∧ ¬P k ∧ ∀ j, j < k → P j
 | 0 => .inl fun k hk => absurd hk (Nat.not_lt_zero k)
 | n + 1 => by
  rcases QjG P n with h | ⟨k, h1, h2, h3⟩
  ·by_cases hn : P n
   ·left
    intro k hk
    by_cases e : k = n
    ·subst e; exact hn
    ·exact h k (by omega)
   ·exact .inr ⟨n, by omega, hn, h⟩
  ·exact .inr ⟨k, by omega, h2, h3⟩
theorem QnG {α : Type} {l : List α} {i : Nat} {x d : α} (h : i < l.length) : (l.set i x).getD i d = x := by simp [List.getD_eq_getElem?_getD, h]
theorem QpZ {α : Type} {l : List α} {i j : Nat} {x d : α} (h : i ≠ j) : (l.set i x).getD j d = l.getD j d := by simp [List.getD_eq_getElem?_getD, List.getElem?_set_ne h]
theorem Zt {α : Type} {l : List α} {i : Nat} {d : α} (h : i < l.length) : l.getD i d ∈ l := by rw [getD_some h]; exact List.getElem_mem h
end Go.Abs
namespace Go.Abs
section
variable {A R : Type}
theorem JF {f : A → Option (Step A R)} (s : Nat → A) (n : Nat) (P : Nat → Prop) [DecidablePred P] (hn : n < N0) (r : Nat → R) (rN : R)
  (h1 : ∀ k, k < n → P k → (∀ j, j < k → P j) → f (s k) = some (.next (s (k + 1)))) (h2 : ∀ k, k < n → ¬P k → (∀ j, j < k → P j) → f (s k) = some (.fin (r k)))
  (he : (∀ j, j < n → P j) → f (s n) = some (.fin rN)) :
  ((∀ j, j < n → P j) ∧ iter mx f (s 0) = some rN) ∨ (∃ k, k < n ∧ ¬P k ∧ (∀ j, j < k → P j) ∧ iter mx f (s 0) = some (r k)) := by
 rcases QjG P n with h | ⟨k, g1, g2, g3⟩
 ·exact .inl ⟨h, QL s n hn (fun k hk => h1 k hk (h k hk) (fun j hj => h j (by omega))) (he h)⟩
 ·exact .inr ⟨k, g1, g2, g3, QL s k (by omega) (fun j hj => h1 j (by omega) (g3 j hj) (fun i hi => g3 i (by omega))) (h2 k g1 g2 g3)⟩
end
theorem ieq (a b : Int) : (a == b) = decide (a = b) := by by_cases h : a = b <;> simp [h]
theorem lez (k : Nat) : decide ((0 : Int) ≤ (k : Int)) = true := by simp
theorem rng {k n : Nat} (h : k < n) : (decide ((0 : Int) ≤ (k : Int)) && decide ((k : Int) < (n : Int))) = true := by simp; omega
theorem ltd {k n : Nat} (h : k < n) : decide ((k : Int) < (n : Int)) = true := by simpa using h
theorem nltd (n : Nat) : decide ((n : Int) < (n : Int)) = false := by simp
theorem Qas {k n : Nat} (h : k < n) : Nat.blt k n = true := Nat.ble_eq_true_of_le h
theorem Z8 {k : Nat} (h : k ≤ 1000000000000000000) : IntKind.i64.wrap ((k : Int) + 1) = ((k + 1 : Nat) : Int) := by rw [w64 (by omega) (by omega)]; rfl
end Go.Abs
namespace Go.Abs
section
variable {A S R α : Type}
theorem QH {l : List α} {k : Nat} (h : k < l.length) (d : α) : l.take (k + 1) = l.take k ++ [l.getD k d] := by
 rw [List.take_succ_eq_append_getElem h, getD_some h]
theorem Qak {f : A → Option (Step A R)} (l : List α) (d : α) (h : S → α → S) (s0 : S) (st : Nat → S → A) {r : R} (hn : l.length < N0)
  (hs : ∀ k, k < l.length → f (st k ((l.take k).foldl h s0)) = some (.next (st (k + 1) (h ((l.take k).foldl h s0) (l.getD k d)))))
  (he : f (st l.length (l.foldl h s0)) = some (.fin r)) : iter mx f (st 0 s0) = some r := by
 have := QL (f := f) (fun k => st k ((l.take k).foldl h s0)) l.length (r := r) hn (fun k hk => by
  rw [hs k hk, QH hk d, List.foldl_append]; rfl) (by rw [List.take_length]; exact he)
 simpa using this
theorem QnM {p : α → Bool} {l : List α} {d : α} (h : ∀ k, k < l.length → p (l.getD k d) = true) : l.find? (fun x => !p x) = none := by
 rw [List.find?_eq_none]
 intro x hx
 obtain ⟨k, hk, rfl⟩ := List.mem_iff_getElem.1 hx
 have := h k hk
 rw [getD_some hk] at this
 simp [this]
theorem QjI {p : α → Bool} : ∀ {l : List α} {d : α} {k : Nat}, k < l.length → p (l.getD k d) = false → (∀ j, j < k → p (l.getD j d) = true) → l.find? (fun x => !p x) = some (l.getD k d)
 | [], d, k, hk, _, _ => by simp at hk
 | x :: l, d, 0, _, h, _ => by simp at h; simp [h]
 | x :: l, d, k + 1, hk, h, hb => by
  have h0 : p x = true := by simpa using hb 0 (by omega)
  have := QjI (l := l) (d := d) (k := k) (by simpa using hk) (by simpa using h) (fun j hj => by simpa using hb (j + 1) (by omega))
  simp [h0, this]
theorem Qma {f : A → Option (Step A R)} (l : List α) (d : α) (p : α → Bool) (s : Nat → A) (r : α → R) (rN : R) (hn : l.length < N0)
  (h1 : ∀ k, k < l.length → p (l.getD k d) = true → f (s k) = some (.next (s (k + 1)))) (h2 : ∀ k, k < l.length → p (l.getD k d) = false → f (s k) = some (.fin (r (l.getD k d))))
  (he : f (s l.length) = some (.fin rN)) : iter mx f (s 0) = some (match l.find? (fun x => !p x) with | some x => r x | none => rN) := by
 rcases JF (f := f) s l.length (fun k => p (l.getD k d) = true) hn (fun k => r (l.getD k d)) rN (fun k hk hp _ => h1 k hk hp) (fun k hk hp _ => h2 k hk (by simpa using hp)) (fun _ => he) with ⟨h, e⟩ | ⟨k, hk, hp, hb, e⟩
 ·rw [e, QnM h]
 ·rw [e, QjI hk (by simpa using hp) hb]
theorem QcR (p : α → Bool) : ∀ (l : List α) (a : List α), l.foldl (fun acc x => bif p x then acc ++ [x] else acc) a = a ++ l.filter p
 | [], a => by simp
 | x :: l, a => by
  rw [List.foldl_cons, QcR p l]
  cases h : p x <;> simp [h]
theorem ZQ {a b : Nat} (h : a ≤ b) : Nat.ble a b = true := Nat.ble_eq_true_of_le h
theorem Vf (a b : Int) : (a != b) = !decide (a = b) := by by_cases h : a = b <;> simp [h]
theorem QbD (a b : Nat) : (a : Int).tmod (b : Int) = ((a % b : Nat) : Int) := by
 rw [Int.tmod_eq_emod_of_nonneg (by omega)]; rfl
theorem VZ (a b : Nat) : (a : Int).tdiv (b : Int) = ((a / b : Nat) : Int) := by
 rw [Int.tdiv_eq_ediv_of_nonneg (by omega)]; rfl
end
end Go.Abs
namespace Go.Abs
open Go.RowKit
set_option maxRecDepth 100000
end Go.Abs
end
