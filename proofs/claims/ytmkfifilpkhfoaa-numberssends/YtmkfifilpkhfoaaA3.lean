/- The frame of the proofs, part 3: an executor over plain data, and that what it yields is what the machine does. -/
import Derived.Test.YtmkfifilpkhfoaaA2
import Derived.Scope
import Derived.WalkKit
import Derived.ProofKit
import Derived.OpenShut
import Derived.ChangeArms
import Derived.SizedLaws
import Derived.Carry
import Derived.Below
import Derived.ChangeSame
import Derived.ChangeOld
import Derived.JoinedOf
import Derived.LaidMore
import Derived.Stop.Joined
import Derived.MakeChecks
/- Abs, part Z: regions. -/
namespace Go.Abs

/-- What a piece of code leaves as it was. -/
structure Frm (ds : List Nat) (σ σ' : St) : Prop where
  tm : ∀ t, t ∉ ds → σ'.get t = σ.get t
  n : σ'.n = σ.n
  hp : ∀ id o, look σ'.hp id = some (some ⟨false, o⟩) → look σ.hp id = some (some ⟨false, o⟩)

theorem Frm.refl (ds : List Nat) (σ : St) : Frm ds σ σ := ⟨fun _ _ => rfl, rfl, fun _ _ h => h⟩
theorem Frm.trans {ds es : List Nat} {a b c : St} (h : Frm ds a b) (k : Frm es b c) : Frm (app ds es) a c :=
  ⟨fun t ht => by
    rw [app_eq, List.mem_append, not_or] at ht
    rw [k.tm t ht.2, h.tm t ht.1], k.n.trans h.n, fun i o ho => h.hp i o (k.hp i o ho)⟩
theorem Frm.trans' {ds : List Nat} {a b c : St} (h : Frm ds a b) (k : Frm ds b c) : Frm ds a c :=
  ⟨fun t ht => by rw [k.tm t ht, h.tm t ht], k.n.trans h.n, fun i o ho => h.hp i o (k.hp i o ho)⟩
theorem OpFrm.frm {σ σ' : St} (h : OpFrm σ σ') (ds : List Nat) : Frm ds σ σ' := ⟨fun t _ => h.get t, h.n, h.hp⟩
theorem Frm.put {ds : List Nat} {σ : St} {d : Nat} (hd : d ∈ ds) (v : AV) : Frm ds σ (σ.put (some d) v) :=
  ⟨fun t ht => by rw [St.get_put, if_neg (fun e : d = t => ht (by rw [← e]; exact hd))], rfl, fun _ _ h => h⟩

section
variable {P : Program} {R : Type} {F : Fr} {ι : Nat → Value} {ok : Ok} {N : Nat → Prop} {σ : St} {a : Act} {w : World} {o : Oper} {r : R}

/-- A slot is known better. -/
theorem Sim.refine (h : Sim F ι ok N σ a w) {x : AV} {d : Nat} (hx : RepAV w ok ι N x (a.tmps.getD d undef)) : Sim F ι ok N (σ.put (some d) x) a w where
  tms t := by
    rw [St.get_put]
    split
    · rename_i e; subst e; exact hx
    · exact h.tms t
  objs id o ho := h.objs id o (by simpa using ho)
  apart i j o p b hi hj := h.apart i j o p b (by simpa using hi) (by simpa using hj)
  oks := h.oks
  keep := h.keep
  size := h.size
  defs := h.defs
  pins := h.pins
  pls := h.pls

/-- The numbers that are taken lie below. -/
def Below (N : Nat → Prop) (n : Nat) : Prop := ∀ i, N i → i < n
theorem Below.fresh {n nb : Nat} (h : Below N n) (hn : n ≤ nb) : Fresh N nb := fun i h1 _ h3 => by have := h i h3; omega
theorem Below.span {nb : Nat} (h : Below N nb) : Below (span N nb) (nb + 16) := fun i hi => by
  rcases hi with hi | hi
  · have := h i hi; omega
  · exact hi.2

def Reach {R : Type} (F : Fr) (ds : List Nat) (σ : St) (K : St → Option R) (r : R) (nb : Nat) (next : Act → World → Prop) : Prop :=
  ∀ σ' a' w' ι' ok' N', Sim F ι' ok' N' σ' a' w' → Below N' nb → Frm ds σ σ' → K σ' = some r → next a' w'

theorem aOper_sound {m : Fu} {Γ : List Summ} (hΓ : ∀ S ∈ Γ, KnownAt P F S) (h : Sim F ι ok N σ a w) {nb : Nat} (hN : Below N nb) {K : St → Option R} (hr : aOper P Γ m nb o σ K = some r) {ds : List Nat} (hd : ∀ d, o.dst = some d → d ∈ ds)
    {next : Act → World → Prop} (Q : Exit → Act → World → Prop) (hnext : Reach F ds σ K r (nb + 16) next) : o.wp P a w next Q := by
  unfold aOper at hr
  refine aOp_sound hΓ h (hN.fresh (Nat.le_refl _)) hr next Q (fun av σ1 v w' ι' ok' h1 hv hf hK => ?_)
  cases hdst : o.dst with
  | none =>
    rw [hdst] at hK
    exact hnext σ1 _ w' ι' ok' _ h1 hN.span (hf.frm ds) hK
  | some d =>
    rw [hdst] at hK
    cases hb : Nat.blt d σ.n with
    | false => simp [hb] at hK
    | true =>
      simp only [hb, cond_true] at hK
      have hb : d < σ.n := by simpa using hb
      exact hnext _ _ w' ι' ok' _ (h1.put hv (by rw [hf.n]; exact hb)) hN.span ((hf.frm ds).trans' (Frm.put (hd d hdst) av)) hK

theorem aSkip_sound (h : Sim F ι ok N σ a w) {nb : Nat} (hN : Below N nb) {K : St → Option R} (hr : aSkip o σ K = some r) {ds : List Nat} (hd : ∀ d, o.dst = some d → d ∈ ds)
    {next : Act → World → Prop} (hnext : Reach F ds σ K r (nb + 16) next) : next (a.put o.dst undef) w := by
  unfold aSkip at hr
  have hN' : Below N (nb + 16) := fun i hi => by have := hN i hi; omega
  cases hdst : o.dst with
  | none =>
    rw [hdst] at hr
    exact hnext σ _ w ι ok N h hN' (Frm.refl _ _) hr
  | some d =>
    rw [hdst] at hr
    cases hb : Nat.blt d σ.n with
    | false => simp [hb] at hr
    | true =>
      simp only [hb, cond_true] at hr
      have hb : d < σ.n := by simpa using hb
      exact hnext _ _ w ι ok N (h.put (x := .val (.one .skip)) (v := undef) (rfl : undef = _) hb) hN' (Frm.put (hd d hdst) _) hr

theorem mem_opDsts : ∀ {l : List Oper} {o : Oper} {d : Nat}, o ∈ l → o.dst = some d → d ∈ opDsts l
  | [], _, _, h, _ => by cases h
  | x :: r, o, d, h, hd => by
    unfold opDsts
    rcases List.mem_cons.1 h with rfl | h
    · rw [hd]; simp
    · cases x.dst with
      | none => exact mem_opDsts h hd
      | some e => exact List.mem_cons_of_mem _ (mem_opDsts h hd)

theorem aOps_cons (Γ : List Summ) (m : Fu) (all : List Oper) (o : Oper) (l : List Oper) (nb : Nat) (σ : St) (K : St → Option R) :
    aOps P Γ m all (o :: l) nb σ K = aStep P Γ m all nb o σ (fun σ' => aOps P Γ m all l (nb + 16) σ' K) := by
  simp only [aOps, aStep]

theorem guardTmp_some {all : List Oper} {j t : Nat} (h : guardTmp all j = some t) : ∃ o, all[j]? = some o ∧ o.dst = some t := by
  unfold guardTmp at h
  split at h
  · rename_i o ho; exact ⟨o, by rw [← nth_eq]; exact ho, h⟩
  · cases h

theorem aStep_sound {m : Fu} {Γ : List Summ} (hΓ : ∀ S ∈ Γ, KnownAt P F S) {ops : Array Oper} (h : Sim F ι ok N σ a w) {nb : Nat} (hN : Below N nb) {K : St → Option R} (hr : aStep P Γ m ops.toList nb o σ K = some r) (ho : o ∈ ops.toList)
    {next : Act → World → Prop} (Q : Exit → Act → World → Prop) (hnext : Reach F (opDsts ops.toList) σ K r (nb + 16) next) :
    if Region.wanted o (yielded ops a.tmps) then o.wp P a w next Q ∨ (o.asks P a w ∧ LetsOut Q) else next (a.put o.dst undef) w := by
  have hd : ∀ d, o.dst = some d → d ∈ opDsts ops.toList := fun d hd => mem_opDsts ho hd
  unfold aStep at hr
  cases hg : o.guard with
  | none =>
    rw [hg] at hr
    have : Region.wanted o (yielded ops a.tmps) = true := by simp [Region.wanted, hg]
    rw [if_pos this]
    exact .inl (aOper_sound hΓ h hN hr hd Q hnext)
  | some g =>
    obtain ⟨j, want⟩ := g
    rw [hg] at hr
    dsimp only at hr
    cases ht : guardTmp ops.toList j with
    | none => rw [ht] at hr; cases hr
    | some t =>
      rw [ht] at hr
      dsimp only at hr
      obtain ⟨oj, hoj, hdj⟩ := guardTmp_some ht
      have htd : t ∈ opDsts ops.toList := mem_opDsts (List.mem_of_getElem? hoj) hdj
      have hgt := h.tms t
      have hy : ∀ v, a.tmps.getD t undef = v → yielded ops a.tmps j = (match v with | .bool b => some b | _ => none) := fun v hv => by
        unfold yielded
        rw [← Array.getElem?_toList, hoj]
        simp only [Option.bind_some, hdj]
        rw [Array.getD_eq_getD_getElem?] at hv
        cases hx : a.tmps[t]? with
        | none => rw [hx] at hv; simp at hv; subst hv; rfl
        | some u => rw [hx] at hv; simp at hv; subst hv; cases u <;> rfl
      have hw : Region.wanted o (yielded ops a.tmps) = (yielded ops a.tmps j == some want) := by simp [Region.wanted, hg]
      have put : ∀ x, Reach F (opDsts ops.toList) (σ.put (some t) x) K r (nb + 16) next := fun x σ' a' w' ι' ok' N' s1 s2 s3 s4 =>
        hnext σ' a' w' ι' ok' N' s1 s2 ((Frm.put htd x).trans' s3) s4
      split at hr
      · rename_i b hb
        rw [hb] at hgt
        have hv : a.tmps.getD t undef = .bool b := by have : [a.tmps.getD t undef] = [.bool b] := hgt; simpa using this
        rw [hw, hy _ hv]
        have href : ∀ c, b = c → Sim F ι ok N (σ.put (some t) (one .bool c)) a w := fun c hc => by
          subst hc; exact h.refine (x := one .bool b) (by rw [hv]; exact (rfl : [Value.bool b] = _))
        cases want with
        | true =>
          dsimp only at hr
          cases b with
          | true =>
            simp only [cond_true] at hr
            rw [if_pos (by simp)]
            exact .inl (aOper_sound hΓ (href true rfl) hN hr hd Q (put _))
          | false =>
            simp only [cond_false] at hr
            rw [if_neg (by simp)]
            exact aSkip_sound (href false rfl) hN hr hd (put _)
        | false =>
          dsimp only at hr
          cases b with
          | true =>
            simp only [cond_true] at hr
            rw [if_neg (by simp)]
            exact aSkip_sound (href true rfl) hN hr hd (put _)
          | false =>
            simp only [cond_false] at hr
            rw [if_pos (by simp)]
            exact .inl (aOper_sound hΓ (href false rfl) hN hr hd Q (put _))
      · rename_i hb
        rw [hb] at hgt
        have hv : a.tmps.getD t undef = .tuple #[] := hgt
        rw [hw, hy _ hv, if_neg (by simp)]
        exact aSkip_sound h hN hr hd hnext
      · cases hr

theorem aOps_sound {m : Fu} {Γ : List Summ} (hΓ : ∀ S ∈ Γ, KnownAt P F S) {ops : Array Oper} {Q : Exit → Act → World → Prop} {K : St → Option R} : ∀ {l : List Oper} {k nb : Nat} {ι : Nat → Value} {ok : Ok} {N : Nat → Prop} {σ : St} {a : Act} {w : World},
    (∀ j, l[j]? = ops.toList[k + j]?) → Sim F ι ok N σ a w → Below N nb → aOps P Γ m ops.toList l nb σ K = some r →
    Reach F (opDsts ops.toList) σ K r (nb + 16 * l.length) (Q .normal) → wpOps P ops Q (List.range' k l.length) a w
  | [], k, nb, ι, ok, N, σ, a, w, _, h, hN, hr, hQ => hQ σ a w ι ok N h hN (Frm.refl _ _) hr
  | o :: l, k, nb, ι, ok, N, σ, a, w, hl, h, hN, hr, hQ => by
    have h0 : ops[k]? = some o := by have := hl 0; simpa using this.symm
    rw [aOps_cons] at hr
    rw [List.length_cons, List.range'_succ, wpOps]
    rw [h0]
    dsimp only
    refine aStep_sound hΓ h hN hr (by rw [List.mem_iff_getElem?]; exact ⟨k, by rw [Array.getElem?_toList]; exact h0⟩) Q (fun σ' a' w' ι' ok' N' s1 s2 s3 s4 => ?_)
    refine aOps_sound hΓ (fun j => by have := hl (j + 1); rw [List.getElem?_cons_succ] at this; rw [this]; congr 1; omega) s1 s2 s4 (fun σ2 a2 w2 ι2 ok2 N2 t1 t2 t3 t4 => ?_)
    exact hQ σ2 a2 w2 ι2 ok2 N2 t1 (fun i hi => by have := t2 i hi; simp only [List.length_cons]; omega) (s3.trans' t3) t4
end
end Go.Abs

/- Abs, part D1: what each operation hangs on, and touches. -/
namespace Go.Abs

def addHp (σ : St) (l : List (Nat × Option Ob)) : St := { σ with hp := app l σ.hp }

theorem addHp_nil (σ : St) : addHp σ [] = σ := rfl
theorem addHp_app (σ : St) (l m : List (Nat × Option Ob)) : addHp (addHp σ l) m = addHp σ (app m l) := by
  unfold addHp
  simp only [app_eq, List.append_assoc]
theorem addHp_ob (σ : St) (l : List (Nat × Option Ob)) (i : Nat) : (addHp σ l).ob i = match look l i with | some (some b) => some b.o | some none => none | none => σ.ob i := by
  unfold St.ob addHp
  simp only [look_app]
  cases look l i with
  | none => rfl
  | some x => cases x <;> rfl
theorem set_addHp (σ : St) (i : Nat) (o : AO) : σ.set i o = addHp σ [(i, some ⟨true, o⟩)] := rfl
theorem kill_addHp (σ : St) (i : Nat) : σ.kill i = addHp σ [(i, none)] := rfl
theorem fsts_app {α : Type} : ∀ (a b : List (Nat × α)), fsts (app a b) = app (fsts a) (fsts b)
  | [], _ => rfl
  | (i, x) :: r, b => by simp [app, fsts, fsts_app r b]

/-- Objects that were written. -/
def NoClean (l : List (Nat × Option Ob)) : Prop := ∀ x ∈ l, ∀ o, x.2 ≠ some ⟨false, o⟩
theorem NoClean.nil : NoClean [] := fun x hx => by cases hx
theorem NoClean.cons {i : Nat} {o : AO} {l : List (Nat × Option Ob)} (h : NoClean l) : NoClean ((i, some ⟨true, o⟩) :: l) := fun x hx o' => by
  rcases List.mem_cons.1 hx with rfl | hx
  · simp
  · exact h x hx o'
theorem NoClean.kill {i : Nat} {l : List (Nat × Option Ob)} (h : NoClean l) : NoClean ((i, none) :: l) := fun x hx o' => by
  rcases List.mem_cons.1 hx with rfl | hx
  · simp
  · exact h x hx o'
theorem NoClean.one {i : Nat} {o : AO} : NoClean [(i, some ⟨true, o⟩)] := NoClean.nil.cons
theorem NoClean.app {l m : List (Nat × Option Ob)} (h : NoClean l) (k : NoClean m) : NoClean (app l m) := fun x hx o => by
  rw [app_eq] at hx
  rcases List.mem_append.1 hx with hx | hx
  · exact h x hx o
  · exact k x hx o

/-- Two states have the same objects there. -/
def SameOb (l : List Nat) (σ τ : St) : Prop := ∀ i ∈ l, τ.ob i = σ.ob i
theorem SameOb.add {l : List Nat} {σ τ : St} (h : SameOb l σ τ) (m : List (Nat × Option Ob)) : SameOb l (addHp σ m) (addHp τ m) := fun i hi => by rw [addHp_ob, addHp_ob, h i hi]
theorem SameOb.sub {l m : List Nat} {σ τ : St} (h : SameOb l σ τ) (hs : ∀ i ∈ m, i ∈ l) : SameOb m σ τ := fun i hi => h i (hs i hi)

theorem freeze_foot : ∀ (cs : List Cell) (σ : St), ∃ pre, σ.freeze cs = addHp σ pre ∧ (∀ i ∈ fsts pre, i ∈ cellsIds cs) ∧ (∀ τ, SameOb (cellsIds cs) σ τ → τ.freeze cs = addHp τ pre) ∧ NoClean pre
  | [], σ => ⟨[], rfl, (fun i hi => by cases hi), (fun τ _ => rfl), NoClean.nil⟩
  | c :: r, σ => by
    have one : ∃ pre, σ.freeze1 c = addHp σ pre ∧ (∀ i ∈ fsts pre, i ∈ c.ids) ∧ (∀ τ, SameOb c.ids σ τ → τ.freeze1 c = addHp τ pre) ∧ NoClean pre := by
      cases c with
      | own t id =>
        simp only [St.freeze1]
        cases ho : σ.ob id with
        | none => exact ⟨[], rfl, (fun i hi => by cases hi), (fun τ hτ => by rw [hτ id (by simp [Cell.ids]), ho]; rfl), NoClean.nil⟩
        | some o =>
          cases o with
          | box cs => exact ⟨[], rfl, (fun i hi => by cases hi), (fun τ hτ => by rw [hτ id (by simp [Cell.ids]), ho]; rfl), NoClean.nil⟩
          | arr t' xs mu =>
            cases mu with
            | mp ka va => exact ⟨[], rfl, (fun i hi => by cases hi), (fun τ hτ => by rw [hτ id (by simp [Cell.ids]), ho]; rfl), NoClean.nil⟩
            | wr => exact ⟨[(id, some ⟨true, .arr t' xs .fr⟩)], rfl, (fun i hi => by simpa [fsts, Cell.ids] using hi), (fun τ hτ => by rw [hτ id (by simp [Cell.ids]), ho]; rfl), NoClean.one⟩
            | cp c => exact ⟨[], rfl, (fun i hi => by cases hi), (fun τ hτ => by rw [hτ id (by simp [Cell.ids]), ho]; rfl), NoClean.nil⟩
            | fr => exact ⟨[], rfl, (fun i hi => by cases hi), (fun τ hτ => by rw [hτ id (by simp [Cell.ids]), ho]; rfl), NoClean.nil⟩
      | _ => exact ⟨[], rfl, (fun i hi => by cases hi), (fun τ _ => rfl), NoClean.nil⟩
    obtain ⟨p1, e1, k1, t1, n1⟩ := one
    obtain ⟨p2, e2, k2, t2, n2⟩ := freeze_foot r (σ.freeze1 c)
    refine ⟨app p2 p1, ?_, fun i hi => ?_, fun τ hτ => ?_, n2.app n1⟩
    · show (σ.freeze1 c).freeze r = _
      rw [e2, e1, addHp_app]
    · rw [fsts_app, app_eq] at hi
      simp only [cellsIds, app_eq, List.mem_append]
      rcases List.mem_append.1 hi with hi | hi
      · exact .inr (k2 i hi)
      · exact .inl (k1 i hi)
    · have h1 := t1 τ (hτ.sub fun i hi => by simp [cellsIds, app_eq, hi])
      show (τ.freeze1 c).freeze r = _
      rw [h1, t2 _ ?_, addHp_app]
      rw [e1]
      exact (hτ.sub fun i hi => by simp [cellsIds, app_eq, hi]).add p1

theorem toDatS_same {σ τ : St} {c : Cell} (h : SameOb c.ids σ τ) (t : Ty) : c.toDatS τ t = c.toDatS σ t := by
  cases c with
  | own e id => simp only [Cell.toDatS]; rw [h id (by simp [Cell.ids])]
  | _ => rfl
theorem toDat_same {σ τ : St} {c : Cell} (h : SameOb c.ids σ τ) (t : Ty) : c.toDat τ t = c.toDat σ t := by
  cases c with
  | own e id => simp only [Cell.toDat]; rw [h id (by simp [Cell.ids])]
  | _ => rfl

theorem implode_same {σ τ : St} : ∀ {t : Ty} {cs : List Cell}, SameOb (cellsIds cs) σ τ → implode τ t cs = implode σ t cs ∧ ∀ x r, implode σ t cs = some (x, r) → ∀ i ∈ cellsIds r, i ∈ cellsIds cs := by
  have base : ∀ {t : Ty} {c : Cell} {r : List Cell}, SameOb (cellsIds (c :: r)) σ τ → ((c.toDatS τ t).map fun x => (x, r)) = ((c.toDatS σ t).map fun x => (x, r)) ∧ ∀ x r', ((c.toDatS σ t).map fun x => (x, r)) = some (x, r') → ∀ i ∈ cellsIds r', i ∈ cellsIds (c :: r) := fun {t c r} h => by
    refine ⟨by rw [toDatS_same (h.sub fun i hi => by simp [cellsIds, app_eq, hi])], fun x r' hx i hi => ?_⟩
    cases hd : c.toDatS σ t with
    | none => rw [hd] at hx; cases hx
    | some y => rw [hd] at hx; cases hx; simp [cellsIds, app_eq, hi]
  intro t
  induction t with
  | int k => intro cs h; cases cs with | nil => exact ⟨rfl, fun x r hx => by cases hx⟩ | cons c r => exact base h
  | bool => intro cs h; cases cs with | nil => exact ⟨rfl, fun x r hx => by cases hx⟩ | cons c r => exact base h
  | str => intro cs h; cases cs with | nil => exact ⟨rfl, fun x r hx => by cases hx⟩ | cons c r => exact base h
  | sl e _ => intro cs h; cases cs with | nil => exact ⟨rfl, fun x r hx => by cases hx⟩ | cons c r => exact base h
  | pl wl => intro cs h; cases cs with | nil => exact ⟨rfl, fun x r hx => by cases hx⟩ | cons c r => exact base h
  | un => intro cs h; exact ⟨by simp [implode], fun x r hx => by simp [implode] at hx; rw [hx]; exact fun i hi => hi⟩
  | pr t u iht ihu =>
    intro cs h
    obtain ⟨a1, a2⟩ := iht h
    cases h1 : implode σ t cs with
    | none => exact ⟨by simp only [implode, a1, h1], fun x r hx => by simp [implode, h1] at hx⟩
    | some y =>
      obtain ⟨y, r1⟩ := y
      obtain ⟨b1, b2⟩ := ihu (cs := r1) (h.sub (a2 y r1 h1))
      refine ⟨by simp only [implode, a1, h1, b1], fun x r hx => ?_⟩
      simp only [implode, h1] at hx
      cases h2 : implode σ u r1 with
      | none => rw [h2] at hx; cases hx
      | some z =>
        obtain ⟨z, r2⟩ := z
        rw [h2] at hx
        cases hx
        exact fun i hi => a2 y r1 h1 i (b2 z _ h2 i hi)

theorem freezeParts_foot : ∀ (ps : List (Nat × AV)) (σ : St), ∃ pre, freezeParts σ ps = addHp σ pre ∧ (∀ i ∈ fsts pre, i ∈ psIds ps) ∧ (∀ τ, SameOb (psIds ps) σ τ → freezeParts τ ps = addHp τ pre) ∧ NoClean pre
  | [], σ => ⟨[], rfl, (fun i hi => by cases hi), (fun τ _ => rfl), NoClean.nil⟩
  | (j, .tup l) :: r, σ => by
    obtain ⟨p, e, k, t, n⟩ := freezeParts_foot r σ
    exact ⟨p, e, (fun i hi => by simp [psIds, AV.ids, app_eq, k i hi]), (fun τ hτ => t τ (hτ.sub fun i hi => by simp [psIds, AV.ids, app_eq, hi])), n⟩
  | (j, .val x) :: r, σ => by
    obtain ⟨p1, e1, k1, t1, n1⟩ := freeze_foot x.cells σ
    obtain ⟨p2, e2, k2, t2, n2⟩ := freezeParts_foot r (σ.freeze x.cells)
    refine ⟨app p2 p1, ?_, fun i hi => ?_, fun τ hτ => ?_, n2.app n1⟩
    · show freezeParts (σ.freeze x.cells) r = _
      rw [e2, e1, addHp_app]
    · rw [fsts_app, app_eq] at hi
      simp only [psIds, AV.ids, app_eq, List.mem_append]
      rcases List.mem_append.1 hi with hi | hi
      · exact .inr (k2 i hi)
      · exact .inl (k1 i hi)
    · have h1 := t1 τ (hτ.sub fun i hi => by simp [psIds, AV.ids, app_eq, hi])
      show freezeParts (τ.freeze x.cells) r = _
      rw [h1, t2 _ ?_, addHp_app]
      rw [e1]
      exact (hτ.sub fun i hi => by simp [psIds, AV.ids, app_eq, hi]).add p1

theorem planeC_foot : ∀ (cs : List Cell) {σ σ' : St} {cs' : List Cell}, planeC σ cs = some (cs', σ') → ∃ pre, σ' = addHp σ pre ∧ (∀ i ∈ fsts pre, i ∈ cellsIds cs) ∧ (∀ τ, SameOb (cellsIds cs) σ τ → planeC τ cs = some (cs', addHp τ pre)) ∧ NoClean pre ∧
    ∀ i ∈ cellsIds cs', i ∈ cellsIds cs
  | [], σ, σ', cs', hp => by cases hp; exact ⟨[], rfl, (fun i hi => by cases hi), (fun τ _ => rfl), NoClean.nil, fun i hi => hi⟩
  | c :: r, σ, σ', cs', hp => by
    unfold planeC at hp
    split at hp
    · rename_i t id
      split at hp
      · rename_i xs hid
        split at hp
        · rename_i cs1 σ1 hp1
          cases hp
          obtain ⟨p2, e2, k2, t2, n2, s2⟩ := planeC_foot r hp1
          refine ⟨app p2 [(id, none)], by rw [e2, kill_addHp, addHp_app], fun i hi => ?_, fun τ hτ => ?_, n2.app NoClean.nil.kill, fun i hi => ?_⟩
          · rw [fsts_app, app_eq] at hi
            simp only [cellsIds, app_eq, List.mem_append]
            rcases List.mem_append.1 hi with hi | hi
            · exact .inr (k2 i hi)
            · exact .inl (by simpa [fsts, Cell.ids] using hi)
          · have h1 : τ.ob id = some (.arr (.int .u8) xs .wr) := by rw [hτ id (by simp [cellsIds, app_eq, Cell.ids])]; exact hid
            have h2 := t2 (τ.kill id) (by rw [kill_addHp, kill_addHp]; exact (hτ.sub fun i hi => by simp [cellsIds, app_eq, hi]).add _)
            simp only [planeC, h1, h2]
            rw [kill_addHp, addHp_app]
          · simp only [cellsIds, app_eq, List.mem_append] at hi ⊢
            rcases hi with hi | hi
            · cases hi
            · exact .inr (s2 i hi)
        · cases hp
      · cases hp
    · rename_i hne
      split at hp
      · rename_i cs1 σ1 hp1
        cases hp
        obtain ⟨p2, e2, k2, t2, n2, s2⟩ := planeC_foot r hp1
        refine ⟨p2, e2, fun i hi => ?_, fun τ hτ => ?_, n2, fun i hi => ?_⟩
        · simp only [cellsIds, app_eq, List.mem_append]; exact .inr (k2 i hi)
        · have h2 := t2 τ (hτ.sub fun i hi => by simp [cellsIds, app_eq, hi])
          unfold planeC
          split
          · rename_i t id; exact absurd rfl (hne t id)
          · rw [h2]
        · simp only [cellsIds, app_eq, List.mem_append] at hi ⊢
          exact hi.imp id (s2 i)
      · cases hp

theorem planePs_foot : ∀ (ps : List (Nat × AV)) {σ σ' : St} {ps' : List (Nat × AV)}, planePs σ ps = some (ps', σ') → ∃ pre, σ' = addHp σ pre ∧ (∀ i ∈ fsts pre, i ∈ psIds ps) ∧ (∀ τ, SameOb (psIds ps) σ τ → planePs τ ps = some (ps', addHp τ pre)) ∧ NoClean pre ∧
    ∀ i ∈ psIds ps', i ∈ psIds ps
  | [], σ, σ', ps', hp => by cases hp; exact ⟨[], rfl, (fun i hi => by cases hi), (fun τ _ => rfl), NoClean.nil, fun i hi => hi⟩
  | (j, .tup l) :: r, σ, σ', ps', hp => by cases hp
  | (j, .val x) :: r, σ, σ', ps', hp => by
    unfold planePs at hp
    split at hp
    · rename_i cs1 σ1 hc
      split at hp
      · rename_i l σ2 hl
        cases hp
        obtain ⟨p1, e1, k1, t1, n1, s1⟩ := planeC_foot x.cells hc
        obtain ⟨p2, e2, k2, t2, n2, s2⟩ := planePs_foot r hl
        refine ⟨app p2 p1, by rw [e2, e1, addHp_app], fun i hi => ?_, fun τ hτ => ?_, n2.app n1, fun i hi => ?_⟩
        · rw [fsts_app, app_eq] at hi
          simp only [psIds, AV.ids, app_eq, List.mem_append]
          rcases List.mem_append.1 hi with hi | hi
          · exact .inr (k2 i hi)
          · exact .inl (k1 i hi)
        · have h1 := t1 τ (hτ.sub fun i hi => by simp [psIds, AV.ids, app_eq, hi])
          have h2 := t2 (addHp τ p1) (by rw [e1]; exact (hτ.sub fun i hi => by simp [psIds, AV.ids, app_eq, hi]).add p1)
          unfold planePs
          rw [h1]
          dsimp only
          rw [h2, addHp_app]
        · simp only [psIds, AV.ids, app_eq, List.mem_append] at hi ⊢
          refine hi.imp (fun hi => ?_) (s2 i)
          cases x with
          | one c =>
            cases cs1 with
            | nil => exact hi
            | cons c' r' => exact s1 i (by simp only [V1.like, V1.cells, cellsIds, app_eq, List.append_nil, List.mem_append] at hi ⊢; exact .inl hi)
          | agg l => exact s1 i hi
      · cases hp
    · cases hp

theorem litElems_same {σ τ : St} {u : Ty} : ∀ {ps : List (Nat × AV)} {k : Nat}, SameOb (psIds ps) σ τ → litElems τ u k ps = litElems σ u k ps
  | [], k, _ => rfl
  | (i, .tup l) :: r, k, _ => rfl
  | (i, .val x) :: r, k, h => by
    simp only [litElems]
    rw [(implode_same (h.sub fun i hi => by simp [psIds, AV.ids, app_eq, hi])).1]
    have ih := litElems_same (u := u) (ps := r) (k := k + 1) (h.sub fun i hi => by simp [psIds, AV.ids, app_eq, hi])
    simp only [ih]
end Go.Abs

/- Abs, part D2: each operation goes on with one value. -/
namespace Go.Abs
section
variable {P : Program} {R : Type}

theorem cond_bind {α β : Type} (b : Bool) (x y : Option α) (K : α → Option β) : (cond b x y).bind K = cond b (x.bind K) (y.bind K) := by cases b <;> rfl

theorem aPart_cps (t : TypeId) (cs : List Cell) (off : Nat) (K : AV → Option R) : aPart P t cs off K = (aPart P t cs off some).bind K := by
  unfold aPart
  split
  · simp_all [cond_bind]
  · split <;> simp_all
  · simp_all

theorem aPick_cps (c a b : AV) (K : AV → Option R) : aPick c a b K = (aPick c a b some).bind K := by
  unfold aPick
  split
  · split <;> simp_all [cond_bind]
  · simp_all

theorem aBuild_cps (t : TypeId) (ps : List (Nat × AV)) (K : AV → Option R) : aBuild P t ps K = (aBuild P t ps some).bind K := by
  unfold aBuild
  split
  · simp_all
  · split
    · split
      · split <;> simp_all
      · simp_all
    · split
      · split <;> simp_all
      · simp_all
    · simp_all

theorem aInt_cps (op : BinOp) (k : IntKind) (x y : Int) (K : AV → Option R) : aInt op k x y K = (aInt op k x y some).bind K := by
  unfold aInt
  split <;> simp_all [cond_bind]

theorem aStr_cps (op : BinOp) (x y : List Int) (K : AV → Option R) : aStr op x y K = (aStr op x y some).bind K := by
  unfold aStr
  split <;> simp_all [cond_bind]

theorem aBin_cps (op : BinOp) (xt : TypeId) (x y : AV) (K : AV → Option R) : aBin P op xt x y K = (aBin P op xt x y some).bind K := by
  unfold aBin
  split
  · split
    · simp_all [cond_bind]
    · simp_all [cond_bind]
    · rw [aInt_cps _ _ _ _ K]; simp_all [cond_bind]
  · split <;> simp_all
  · rw [aStr_cps _ _ _ K]
  · split <;> simp_all
  · split <;> simp_all [cond_bind]
  · simp_all

theorem aUn_cps (op : UnOp) (x : AV) (K : AV → Option R) : aUn op x K = (aUn op x some).bind K := by
  unfold aUn
  split <;> simp_all

theorem aFieldAddr_cps (s : TypeId) (x : AV) (f : Nat) (K : AV → Option R) : aFieldAddr P s x f K = (aFieldAddr P s x f some).bind K := by
  unfold aFieldAddr
  split
  · split
    · split <;> simp_all [cond_bind]
    · simp_all
  · simp_all

theorem aField_cps (s : TypeId) (x : AV) (f : Nat) (K : AV → Option R) : aField P s x f K = (aField P s x f some).bind K := by
  unfold aField
  split
  · split
    · split
      · rw [aPart_cps _ _ _ K]
      · simp_all
    · simp_all
  · simp_all

theorem aIndex_cps (t : TypeId) (x i : AV) (K : AV → Option R) : aIndex P t x i K = (aIndex P t x i some).bind K := by
  unfold aIndex
  split
  · split
    · simp_all [cond_bind]
    · split
      · rw [aPart_cps _ _ _ K]; simp_all [cond_bind]
      · simp_all
    · simp_all
  · simp_all

theorem aExtract_cps (x : AV) (i : Nat) (K : AV → Option R) : aExtract x i K = (aExtract x i some).bind K := by
  unfold aExtract
  split
  · split <;> simp_all
  · simp_all

theorem aMinMax_cps (f : Int → Int → Int) (l : List AV) (K : AV → Option R) : aMinMax f l K = (aMinMax f l some).bind K := by
  unfold aMinMax
  split
  · split <;> simp_all
  · simp_all

theorem aLoad_cps (t : TypeId) (a : AV) (σ : St) (K : AV → Option R) : aLoad P t a σ K = (aLoad P t a σ some).bind K := by
  unfold aLoad
  split
  · split
    · rw [aPart_cps _ _ _ K]
    · simp_all
  · rw [aPart_cps _ _ _ K]
  · split
    · rw [aPart_cps _ _ _ K]; simp_all [cond_bind]
    · simp_all
  · split <;> simp_all
  · simp_all

theorem pickN_cps (i : Int) (g : Nat → AV) (K : AV → Option R) : ∀ (n j : Nat), pickN i (fun k => K (g k)) n j = (pickN i (fun k => some (g k)) n j).bind K
  | 0, _ => rfl
  | n + 1, j => by
    unfold pickN
    rw [pickN_cps i g K n (j + 1)]
    cases i == (j : Int) <;> rfl

theorem pickN_bsl (i : Int) (id n : Nat) (K : AV → Option R) : pickN i (fun j => K (.val (.one (.ptr id j)))) n 0 = (pickN i (fun j => some (.val (.one (.ptr id j)))) n 0).bind K := pickN_cps i (fun j => .val (.one (.ptr id j))) K n 0

theorem aIndexAddr_cps (t : TypeId) (x i : AV) (σ : St) (K : AV → Option R) : aIndexAddr P t x i σ K = (aIndexAddr P t x i σ some).bind K := by
  unfold aIndexAddr
  split
  · split
    · split
      · simp_all [cond_bind]
      · split <;> simp_all [cond_bind]
      · simp_all [cond_bind]
      · split
        · rw [cond_bind, pickN_bsl]; rfl
        · rfl
      · rfl
    · split
      · rename_i x2 k i x1 n e hu x0 id off
        have := pickN_cps (R := R) i (fun j => AV.val (.one (.ptr id (off + j * P.cellsOf e)))) K n 0
        rw [cond_bind, this]
        rfl
      · simp_all
    · simp_all
  · simp_all

theorem aLen_cps (t : TypeId) (x : AV) (σ : St) (K : AV → Option R) : aLen P t x σ K = (aLen P t x σ some).bind K := by
  unfold aLen
  split
  · simp_all
  · simp_all
  · simp_all
  · simp_all
  · simp_all [cond_bind]
  · split <;> simp_all [cond_bind]
  · simp_all [cond_bind]
  · simp_all

theorem aLoad_same {t : TypeId} {x : AV} {σ τ : St} (h : SameOb x.ids σ τ) (K : AV → Option R) : aLoad P t x τ K = aLoad P t x σ K := by
  cases x with
  | tup l => rfl
  | val x => cases x with
    | agg cs => rfl
    | one c => cases c with
      | ptr id off => simp only [aLoad]; rw [h id (by simp [AV.ids, V1.cells, cellsIds, Cell.ids, app_eq])]
      | eptr u id i off => simp only [aLoad]; rw [h id (by simp [AV.ids, V1.cells, cellsIds, Cell.ids, app_eq])]
      | _ => rfl

theorem aIndexAddr_same {t : TypeId} {x i : AV} {σ τ : St} (h : SameOb x.ids σ τ) (K : AV → Option R) : aIndexAddr P t x i τ K = aIndexAddr P t x i σ K := by
  have key : ∀ e j, x = .val (.one (.own e j)) → τ.ob j = σ.ob j := fun e j hx => h j (by subst hx; simp [AV.ids, V1.cells, cellsIds, Cell.ids, app_eq])
  unfold aIndexAddr
  split
  · split
    · cases he : elemOf P t with
      | none =>
        cases x with
        | tup l => rfl
        | val x => cases x with
          | agg cs => rfl
          | one c => cases c <;> rfl
      | some eu =>
        cases x with
        | tup l => simp
        | val x => cases x with
          | agg cs => simp
          | one c => cases c with
            | own e j => simp only [key e j rfl]
            | dat t' y => cases t' with
              | pl wl => cases wl <;> rfl
              | _ => rfl
            | _ => rfl
    · rfl
    · rfl
  · rfl

theorem aLen_same {t : TypeId} {x : AV} {σ τ : St} (h : SameOb x.ids σ τ) (K : AV → Option R) : aLen P t x τ K = aLen P t x σ K := by
  have key : ∀ e j, x = .val (.one (.own e j)) → τ.ob j = σ.ob j := fun e j hx => h j (by subst hx; simp [AV.ids, V1.cells, cellsIds, Cell.ids, app_eq])
  unfold aLen
  cases hu : P.underlying t with
  | none => cases x with
    | tup l => rfl
    | val x => cases x with
      | agg cs => rfl
      | one c => cases c <;> rfl
  | some d => cases d <;> first
    | rfl
    | (cases x with
       | tup l => rfl
       | val x => cases x with
         | agg cs => rfl
         | one c => cases c with
           | own e j => first | rfl | simp only [key e j rfl]
           | dat t x => cases t with
             | pl wl => cases wl <;> rfl
             | _ => rfl
           | _ => rfl)
end
end Go.Abs

/- Abs, part D3: what an operation does hangs on what it looks at alone. -/
namespace Go.Abs
section
variable {P : Program} {R : Type} {σ τ : St} {o : Oper} {r : R} {nb : Nat} {m : Fu} {Γ : List Summ}

/-- From each state that looks the same, an operation goes on with this value, and these objects. -/
structure Fra (P : Program) (Γ : List Summ) (m : Fu) (o : Oper) (nb : Nat) (σ : St) (rd wr : List Nat) (v : AV) (pre : List (Nat × Option Ob)) : Prop where
  keys : ∀ i ∈ fsts pre, i ∈ wr
  go : ∀ τ, (∀ x ∈ o.op.operands.toList, τ.ev x = σ.ev x) → SameOb rd σ τ → ∀ (R' : Type) (K' : AV → St → Option R'), aOp P Γ m nb o τ K' = K' v (addHp τ pre)
  nc : NoClean pre

theorem evs_same : ∀ {l : List Operand}, (∀ x ∈ l, τ.ev x = σ.ev x) → evs τ l = evs σ l
  | [], _ => rfl
  | x :: r, h => by simp only [evs]; rw [h x (by simp), evs_same fun y hy => h y (by simp [hy])]
theorem evPs_same : ∀ {l : List (Nat × Operand)}, (∀ x ∈ l.map (·.2), τ.ev x = σ.ev x) → evPs τ l = evPs σ l
  | [], _ => rfl
  | (i, x) :: r, h => by simp only [evPs]; rw [h x (by simp), evPs_same fun y hy => h y (by simp at hy ⊢; exact .inr hy)]
theorem bnd_same {x : Option Operand} (h : ∀ y ∈ x.toArray.toList, τ.ev y = σ.ev y) : bnd τ x = bnd σ x := by
  cases x with
  | none => rfl
  | some x => simp only [bnd]; rw [h x (by simp)]

/-- From a value without a state. -/
theorem Fra.pure {wr rd : List Nat} {G : (R' : Type) → St → (AV → Option R') → Option R'} (hop : ∀ τ (R' : Type) (K' : AV → St → Option R'), aOp P Γ m nb o τ K' = G R' τ (fun v => K' v τ))
    (hsame : ∀ τ, (∀ x ∈ o.op.operands.toList, τ.ev x = σ.ev x) → SameOb rd σ τ → ∀ (R' : Type) K', G R' τ K' = (G AV σ some).bind K') {K : AV → St → Option R} (hr : aOp P Γ m nb o σ K = some r) : ∃ v pre, Fra P Γ m o nb σ rd wr v pre := by
  rw [hop, hsame σ (fun _ _ => rfl) (fun _ _ => rfl)] at hr
  cases hg : G AV σ some with
  | none => rw [hg] at hr; cases hr
  | some v => exact ⟨v, [], (fun i hi => by cases hi), (fun τ h1 h2 R' K' => by rw [hop, hsame τ h1 h2, hg]; rfl), NoClean.nil⟩

theorem grabTs_same : ∀ {cs : List Cell}, SameOb (cellsIds cs) σ τ → ∀ ts, grabTs τ ts cs = grabTs σ ts cs
  | [], _, ts => by cases ts <;> rfl
  | c :: r, h, ts => by
    cases ts with
    | nil => rfl
    | cons t ts =>
      simp only [grabTs]
      rw [toDatS_same (σ := σ) (τ := τ) (c := c) (h.sub fun i hi => by simp [cellsIds, app_eq, hi]), grabTs_same (h.sub fun i hi => by simp [cellsIds, app_eq, hi]) ts]

theorem toDatL_same {c : Cell} (h : SameOb c.ids σ τ) (t : Ty) : c.toDatL τ t = c.toDatL σ t := by
  cases c with
  | own e id => simp only [Cell.toDatL]; rw [h id (by simp [Cell.ids])]
  | dat u x => rfl
  | _ => exact toDatS_same h t
theorem grabTsL_same : ∀ {cs : List Cell}, SameOb (cellsIds cs) σ τ → ∀ ts, grabTsL τ ts cs = grabTsL σ ts cs
  | [], _, ts => by cases ts <;> rfl
  | c :: r, h, ts => by
    cases ts with
    | nil => rfl
    | cons t ts =>
      simp only [grabTsL]
      rw [toDatL_same (σ := σ) (τ := τ) (c := c) (h.sub fun i hi => by simp [cellsIds, app_eq, hi]), grabTsL_same (h.sub fun i hi => by simp [cellsIds, app_eq, hi]) ts]

theorem valArg_same {ln : Bool} {ag : Bool} {ts : List Ty} {x : AV} (h : SameOb x.ids σ τ) : grabArg ln τ (.val ag ts) x = grabArg ln σ (.val ag ts) x := by
  cases x with
  | tup l => cases ag <;> rfl
  | val v =>
    cases ag with
    | false => cases v with
      | one c => cases ln with
        | false => exact grabTs_same h ts
        | true => exact grabTsL_same h ts
      | agg cs => rfl
    | true => cases v with
      | one c => rfl
      | agg cs => cases ln with
        | false => exact grabTs_same h ts
        | true => exact grabTsL_same h ts

theorem ownArg_same {ln : Bool} {t : Ty} {x : AV} (h : SameOb x.ids σ τ) : grabArg ln τ (.own t) x = grabArg ln σ (.own t) x := by
  cases x with
  | tup l => rfl
  | val v => cases v with
    | agg cs => rfl
    | one c => cases c with
      | own e id =>
        show (Cell.own e id).toOwnF τ t = (Cell.own e id).toOwnF σ t
        simp only [Cell.toOwnF]
        rw [h id (by simp [AV.ids, V1.cells, cellsIds, Cell.ids, app_eq])]
      | _ => rfl

theorem owArg_same {ln : Bool} {t : Ty} {x : AV} (h : SameOb x.ids σ τ) : grabArg ln τ (.ow t) x = grabArg ln σ (.ow t) x := by
  cases x with
  | tup l => rfl
  | val v => cases v with
    | agg cs => rfl
    | one c => cases c with
      | own e id =>
        show (Cell.own e id).toOwnW τ t = (Cell.own e id).toOwnW σ t
        simp only [Cell.toOwnW]
        rw [h id (by simp [AV.ids, V1.cells, cellsIds, Cell.ids, app_eq])]
      | _ => rfl

theorem mem_deep {σ : St} {i : Nat} : ∀ {l : List Nat}, i ∈ deepIds σ l ↔ i ∈ l ∨ ∃ j ∈ l, ∃ cs, boxCells σ j = some cs ∧ i ∈ cellsIds cs
  | [] => by simp [deepIds]
  | k :: r => by
    simp only [deepIds, app_eq, List.mem_cons, List.mem_append, mem_deep (l := r)]
    constructor
    · rintro (h | h | h | ⟨j, h1, cs, h2, h3⟩)
      · exact .inl (.inl h)
      · cases hb : boxCells σ k with
        | none => rw [hb] at h; cases h
        | some cs => rw [hb] at h; exact .inr ⟨k, .inl rfl, cs, hb, h⟩
      · exact .inl (.inr h)
      · exact .inr ⟨j, .inr h1, cs, h2, h3⟩
    · rintro ((h | h) | ⟨j, h1 | h1, cs, h2, h3⟩)
      · exact .inl h
      · exact .inr (.inr (.inl h))
      · subst h1; rw [h2]; exact .inr (.inl h3)
      · exact .inr (.inr (.inr ⟨j, h1, cs, h2, h3⟩))
theorem deep_mono {σ : St} {l l' : List Nat} (h : ∀ i ∈ l, i ∈ l') : ∀ i ∈ deepIds σ l, i ∈ deepIds σ l' := fun i hi => by
  rcases mem_deep.1 hi with hi | ⟨j, h1, cs, h2, h3⟩
  · exact mem_deep.2 (.inl (h i hi))
  · exact mem_deep.2 (.inr ⟨j, h j h1, cs, h2, h3⟩)
theorem deep_congr {σ τ : St} (h : ∀ i, boxCells τ i = boxCells σ i) (l : List Nat) : deepIds τ l = deepIds σ l := by
  induction l with
  | nil => rfl
  | cons k r ih => simp only [deepIds, h k, ih]
theorem deepIds_same {σ τ : St} : ∀ {l : List Nat}, SameOb l σ τ → deepIds τ l = deepIds σ l
  | [], _ => rfl
  | i :: r, h => by
    simp only [deepIds]
    rw [show boxCells τ i = boxCells σ i from by simp only [boxCells, h i (by simp)], deepIds_same (l := r) (h.sub fun j hj => by simp [hj])]

theorem freeze1_boxC (σ : St) (c : Cell) (i : Nat) : boxCells (σ.freeze1 c) i = boxCells σ i := by
  cases c with
  | own t id =>
    simp only [St.freeze1]
    cases ho : σ.ob id with
    | none => rfl
    | some o =>
      cases o with
      | box cs => rfl
      | arr t' xs mu =>
        cases mu with
        | wr =>
          have e : ({ σ with hp := (id, some ⟨true, .arr t' xs .fr⟩) :: σ.hp } : St).ob i = if id = i then some (.arr t' xs .fr) else σ.ob i := St.ob_set σ id _ i
          simp only [boxCells, e]
          by_cases h : id = i
          · subst h; simp [ho]
          · simp [h]
        | _ => rfl
  | _ => rfl
theorem freeze_boxC : ∀ (cs : List Cell) (σ : St) (i : Nat), boxCells (σ.freeze cs) i = boxCells σ i
  | [], _, _ => rfl
  | c :: r, σ, i => (freeze_boxC r (σ.freeze1 c) i).trans (freeze1_boxC σ c i)
theorem freezeBox_boxC (σ : St) (id i : Nat) : boxCells (freezeBox σ id) i = boxCells σ i := by
  unfold freezeBox
  split
  · exact freeze_boxC _ _ _
  · rfl

theorem boxArg_same {ln : Bool} {ts : List Ty} {x : AV} (h : SameOb (deepIds σ x.ids) σ τ) : grabArg ln τ (.box ts) x = grabArg ln σ (.box ts) x := by
  cases x with
  | tup l => rfl
  | val v => cases v with
    | agg cs => rfl
    | one c => cases c with
      | ptr id off =>
        have hid : id ∈ (AV.val (.one (.ptr id off))).ids := by simp [AV.ids, V1.cells, cellsIds, Cell.ids, app_eq]
        have e : boxCells τ id = boxCells σ id := by simp only [boxCells, h id (mem_deep.2 (.inl hid))]
        show (bif Nat.beq off 0 then match boxCells τ id with | some cs => grabTs τ ts cs | none => none else none) = (bif Nat.beq off 0 then match boxCells σ id with | some cs => grabTs σ ts cs | none => none else none)
        rw [e]
        cases hb : boxCells σ id with
        | none => rfl
        | some cs =>
          dsimp only
          rw [grabTs_same (h.sub fun i hi => mem_deep.2 (.inr ⟨id, hid, cs, hb, hi⟩)) ts]
      | _ => rfl

theorem deep_head {x : AV} {xs : List AV} : ∀ i ∈ deepIds σ x.ids, i ∈ deepIds σ (avIds (x :: xs)) := deep_mono fun i hi => by simp [avIds, app_eq, hi]
theorem deep_tail {x : AV} {xs : List AV} : ∀ i ∈ deepIds σ (avIds xs), i ∈ deepIds σ (avIds (x :: xs)) := deep_mono fun i hi => by simp [avIds, app_eq, hi]

theorem valArgs_grab {ln : Bool} : ∀ {ks : List PK}, valPars ks = true → ∀ {xs : List AV}, SameOb (deepIds σ (avIds xs)) σ τ → grabArgs ln τ ks xs = grabArgs ln σ ks xs
  | [], _, xs, _ => by cases xs <;> rfl
  | .val ag ts :: r, hk, [], _ => rfl
  | .val ag ts :: r, hk, x :: xs, h => by
    simp only [grabArgs]
    rw [valArg_same (h.sub fun i hi => deep_head i (mem_deep.2 (.inl hi))), valArgs_grab (ks := r) hk (h.sub deep_tail)]
  | .own t :: r, hk, [], _ => rfl
  | .own t :: r, hk, x :: xs, h => by
    simp only [grabArgs]
    rw [ownArg_same (h.sub fun i hi => deep_head i (mem_deep.2 (.inl hi))), valArgs_grab (ks := r) hk (h.sub deep_tail)]
  | .ow t :: r, hk, [], _ => rfl
  | .ow t :: r, hk, x :: xs, h => by
    simp only [grabArgs]
    rw [owArg_same (h.sub fun i hi => deep_head i (mem_deep.2 (.inl hi))), valArgs_grab (ks := r) hk (h.sub deep_tail)]
  | .box ts :: r, hk, [], _ => rfl
  | .box ts :: r, hk, x :: xs, h => by
    simp only [grabArgs]
    rw [boxArg_same (h.sub deep_head), valArgs_grab (ks := r) hk (h.sub deep_tail)]
  | .fn _ _ :: _, hk, _, _ => by simp [valPars] at hk

theorem valArgs_held : ∀ {ks : List PK}, valPars ks = true → ∀ {xs : List AV}, (∀ i ∈ held ks xs, ownPars ks = true ∧ i ∈ avIds xs)
  | [], _, xs => fun i hi => (by cases xs <;> cases hi)
  | .val ag ts :: r, hk, [] => fun i hi => (by cases hi)
  | .val ag ts :: r, hk, x :: xs => by
    have a3 := valArgs_held (ks := r) hk (xs := xs)
    intro i hi
    have : held1 (.val ag ts) x = [] := by
      cases x <;> rfl
    simp only [held, this, app] at hi
    exact ⟨(a3 i hi).1, by simp [avIds, app_eq, (a3 i hi).2]⟩
  | .own t :: r, hk, [] => fun i hi => (by cases hi)
  | .own t :: r, hk, x :: xs => by
    have a3 := valArgs_held (ks := r) hk (xs := xs)
    intro i hi
    refine ⟨rfl, ?_⟩
    simp only [held, app_eq, List.mem_append] at hi
    simp only [avIds, app_eq, List.mem_append]
    rcases hi with hi | hi
    · left
      cases x with
      | tup l => cases hi
      | val v => cases v with
        | agg cs => cases hi
        | one c => cases c with
          | own e id =>
            have : i = id := by simpa [held1] using hi
            subst this
            simp [AV.ids, V1.cells, cellsIds, Cell.ids, app_eq]
          | _ => cases hi
    · exact .inr (a3 i hi).2
  | .ow t :: r, hk, [] => fun i hi => (by cases hi)
  | .ow t :: r, hk, x :: xs => by
    have a3 := valArgs_held (ks := r) hk (xs := xs)
    intro i hi
    refine ⟨rfl, ?_⟩
    simp only [held, app_eq, List.mem_append] at hi
    simp only [avIds, app_eq, List.mem_append]
    rcases hi with hi | hi
    · left
      cases x with
      | tup l => cases hi
      | val v => cases v with
        | agg cs => cases hi
        | one c => cases c with
          | own e id =>
            have : i = id := by simpa [held1] using hi
            subst this
            simp [AV.ids, V1.cells, cellsIds, Cell.ids, app_eq]
          | _ => cases hi
    · exact .inr (a3 i hi).2
  | .box t :: r, hk, [] => fun i hi => (by cases hi)
  | .box t :: r, hk, x :: xs => by
    have a3 := valArgs_held (ks := r) hk (xs := xs)
    intro i hi
    refine ⟨rfl, ?_⟩
    simp only [held, app_eq, List.mem_append] at hi
    simp only [avIds, app_eq, List.mem_append]
    rcases hi with hi | hi
    · left
      cases x with
      | tup l => cases hi
      | val v => cases v with
        | agg cs => cases hi
        | one c => cases c with
          | ptr id off =>
            have : i = id := by simpa [held1] using hi
            subst this
            simp [AV.ids, V1.cells, cellsIds, Cell.ids, app_eq]
          | _ => cases hi
    · exact .inr (a3 i hi).2
  | .fn _ _ :: _, hk, _ => by simp [valPars] at hk

/-- What comes back in boxes. -/
theorem setBoxes_foot : ∀ {ks : List PK}, valPars ks = true → ∀ (xs : List AV) (p : (tupT (outsP ks)).den), ∃ pre, (∀ τ, setBoxes τ ks xs p = addHp τ pre) ∧ (∀ i ∈ fsts pre, ownPars ks = true ∧ i ∈ avIds xs) ∧ NoClean pre
  | [], _, xs, p => ⟨[], (fun τ => by cases xs <;> rfl), (fun i hi => by cases hi), NoClean.nil⟩
  | .val ag ts :: r, hk, [], p => ⟨[], (fun τ => rfl), (fun i hi => by cases hi), NoClean.nil⟩
  | .val ag ts :: r, hk, x :: xs, p => by
    obtain ⟨q, e, k, n⟩ := setBoxes_foot (ks := r) hk xs p
    exact ⟨q, e, (fun i hi => ⟨(k i hi).1, by simp [avIds, app_eq, (k i hi).2]⟩), n⟩
  | .own t :: r, hk, [], p => ⟨[], (fun τ => rfl), (fun i hi => by cases hi), NoClean.nil⟩
  | .own t :: r, hk, x :: xs, p => by
    obtain ⟨q, e, k, n⟩ := setBoxes_foot (ks := r) hk xs p
    exact ⟨q, e, (fun i hi => ⟨rfl, by simp [avIds, app_eq, (k i hi).2]⟩), n⟩
  | .ow t :: r, hk, [], p => ⟨[], (fun τ => rfl), (fun i hi => by cases hi), NoClean.nil⟩
  | .ow t :: r, hk, x :: xs, p => by
    obtain ⟨q, e, k, n⟩ := setBoxes_foot (ks := r) hk xs p
    exact ⟨q, e, (fun i hi => ⟨rfl, by simp [avIds, app_eq, (k i hi).2]⟩), n⟩
  | .box ts :: r, hk, [], p => ⟨[], (fun τ => rfl), (fun i hi => by cases hi), NoClean.nil⟩
  | .box ts :: r, hk, x :: xs, p => by
    cases x with
    | tup l => exact ⟨[], (fun τ => rfl), (fun i hi => by cases hi), NoClean.nil⟩
    | val v => cases v with
      | agg cs => exact ⟨[], (fun τ => rfl), (fun i hi => by cases hi), NoClean.nil⟩
      | one c => cases c with
        | ptr id off =>
          obtain ⟨q, e, k, n⟩ := setBoxes_foot (ks := r) hk xs (tsnd ts (outsP r) p)
          refine ⟨app q [(id, some ⟨true, .box (datCells ts (tfst ts (outsP r) p))⟩)], fun τ => ?_, fun i hi => ⟨rfl, ?_⟩, n.app NoClean.one⟩
          · show setBoxes (τ.set id (.box (datCells ts (tfst ts (outsP r) p)))) r xs _ = _
            rw [e, set_addHp, addHp_app]
          · rw [fsts_app, app_eq] at hi
            rcases List.mem_append.1 hi with hi | hi
            · simp [avIds, app_eq, (k i hi).2]
            · have : i = id := by simpa [fsts] using hi
              subst this
              simp [avIds, AV.ids, V1.cells, cellsIds, Cell.ids, app_eq]
        | _ => exact ⟨[], (fun τ => rfl), (fun i hi => by cases hi), NoClean.nil⟩
  | .fn _ _ :: _, hk, _, _ => by simp [valPars] at hk

theorem killAll_foot : ∀ (l : List Nat), ∃ pre, (∀ τ, killAll τ l = addHp τ pre) ∧ (∀ i ∈ fsts pre, i ∈ l) ∧ NoClean pre
  | [] => ⟨[], fun τ => rfl, (fun i hi => by cases hi), NoClean.nil⟩
  | j :: r => by
    obtain ⟨p, e, k, n⟩ := killAll_foot r
    refine ⟨app p [(j, none)], fun τ => ?_, fun i hi => ?_, n.app (NoClean.kill NoClean.nil)⟩
    · show killAll (τ.kill j) r = _
      rw [e, kill_addHp, addHp_app]
    · rw [fsts_app, app_eq] at hi
      rcases List.mem_append.1 hi with hi | hi
      · exact List.mem_cons_of_mem _ (k i hi)
      · have : i = j := by simpa [fsts] using hi
        subst this; simp

theorem freezeBox_foot (id : Nat) (σ : St) : ∃ pre, freezeBox σ id = addHp σ pre ∧ (∀ i ∈ fsts pre, i ∈ deepIds σ [id]) ∧ (∀ τ, SameOb (deepIds σ [id]) σ τ → freezeBox τ id = addHp τ pre) ∧ NoClean pre := by
  have e : ∀ τ, SameOb (deepIds σ [id]) σ τ → boxCells τ id = boxCells σ id := fun τ h => by simp only [boxCells, h id (mem_deep.2 (.inl (by simp)))]
  cases hb : boxCells σ id with
  | none => exact ⟨[], by unfold freezeBox; rw [hb]; rfl, (fun i hi => by cases hi), (fun τ h => by unfold freezeBox; rw [e τ h, hb]; rfl), NoClean.nil⟩
  | some cs =>
    obtain ⟨p, f1, f2, f3, f4⟩ := freeze_foot cs σ
    have hs : ∀ i ∈ cellsIds cs, i ∈ deepIds σ [id] := fun i hi => mem_deep.2 (.inr ⟨id, by simp, cs, hb, hi⟩)
    exact ⟨p, by unfold freezeBox; rw [hb]; exact f1, (fun i hi => hs i (f2 i hi)), (fun τ h => by unfold freezeBox; rw [e τ h, hb]; exact f3 τ (h.sub hs)), f4⟩

theorem valArgs_box : ∀ {ks : List PK}, valPars ks = true → ∀ (xs : List AV) (σ : St) (i : Nat), boxCells (freezeArgs σ ks xs) i = boxCells σ i
  | [], _, xs, σ, i => by cases xs <;> rfl
  | .val ag ts :: r, hk, [], σ, i => rfl
  | .val ag ts :: r, hk, .tup l :: xs, σ, i => valArgs_box (ks := r) hk xs σ i
  | .val ag ts :: r, hk, .val x :: xs, σ, i => (valArgs_box (ks := r) hk xs _ i).trans (freeze_boxC _ _ _)
  | .ow t :: r, hk, [], σ, i => rfl
  | .ow t :: r, hk, .tup l :: xs, σ, i => valArgs_box (ks := r) hk xs σ i
  | .ow t :: r, hk, .val x :: xs, σ, i => valArgs_box (ks := r) hk xs σ i
  | .own t :: r, hk, [], σ, i => rfl
  | .own t :: r, hk, .tup l :: xs, σ, i => valArgs_box (ks := r) hk xs σ i
  | .own t :: r, hk, .val x :: xs, σ, i => (valArgs_box (ks := r) hk xs _ i).trans (freeze_boxC _ _ _)
  | .box ts :: r, hk, [], σ, i => rfl
  | .box ts :: r, hk, .tup l :: xs, σ, i => valArgs_box (ks := r) hk xs σ i
  | .box ts :: r, hk, .val (.agg cs) :: xs, σ, i => valArgs_box (ks := r) hk xs σ i
  | .box ts :: r, hk, .val (.one c) :: xs, σ, i => by
    cases c with
    | ptr id off => exact (valArgs_box (ks := r) hk xs _ i).trans (freezeBox_boxC _ _ _)
    | _ => exact valArgs_box (ks := r) hk xs σ i
  | .fn _ _ :: _, hk, _, _, _ => by simp [valPars] at hk

theorem valArgs_foot : ∀ {ks : List PK}, valPars ks = true → ∀ (xs : List AV) (σ : St), ∃ pre, freezeArgs σ ks xs = addHp σ pre ∧ (∀ i ∈ fsts pre, i ∈ deepIds σ (avIds xs)) ∧ (∀ τ, SameOb (deepIds σ (avIds xs)) σ τ → freezeArgs τ ks xs = addHp τ pre) ∧ NoClean pre
  | [], _, xs, σ => ⟨[], by cases xs <;> rfl, (fun i hi => by cases hi), (fun τ _ => by cases xs <;> rfl), NoClean.nil⟩
  | .val ag ts :: r, hk, [], σ => ⟨[], rfl, (fun i hi => by cases hi), (fun τ _ => rfl), NoClean.nil⟩
  | .own t :: r, hk, [], σ => ⟨[], rfl, (fun i hi => by cases hi), (fun τ _ => rfl), NoClean.nil⟩
  | .ow t :: r, hk, [], σ => ⟨[], rfl, (fun i hi => by cases hi), (fun τ _ => rfl), NoClean.nil⟩
  | .box t :: r, hk, [], σ => ⟨[], rfl, (fun i hi => by cases hi), (fun τ _ => rfl), NoClean.nil⟩
  | k :: r, hk, x :: xs, σ => by
    have hk2 : valPars r = true := by cases k <;> first | exact hk | simp [valPars] at hk
    -- what the first one does
    have first : ∃ g : St → St, (∀ τ, freezeArgs τ (k :: r) (x :: xs) = freezeArgs (g τ) r xs) ∧ (∀ τ i, boxCells (g τ) i = boxCells τ i) ∧
        ∃ p, g σ = addHp σ p ∧ (∀ i ∈ fsts p, i ∈ deepIds σ x.ids) ∧ (∀ τ, SameOb (deepIds σ x.ids) σ τ → g τ = addHp τ p) ∧ NoClean p := by
      have none' : ∀ (h : ∀ τ, freezeArgs τ (k :: r) (x :: xs) = freezeArgs τ r xs), ∃ g : St → St, (∀ τ, freezeArgs τ (k :: r) (x :: xs) = freezeArgs (g τ) r xs) ∧ (∀ τ i, boxCells (g τ) i = boxCells τ i) ∧
        ∃ p, g σ = addHp σ p ∧ (∀ i ∈ fsts p, i ∈ deepIds σ x.ids) ∧ (∀ τ, SameOb (deepIds σ x.ids) σ τ → g τ = addHp τ p) ∧ NoClean p := fun h =>
        ⟨id, h, fun _ _ => rfl, [], rfl, (fun i hi => by cases hi), (fun τ _ => rfl), NoClean.nil⟩
      have cells' : ∀ y, x = .val y → (∀ τ, freezeArgs τ (k :: r) (x :: xs) = freezeArgs (τ.freeze y.cells) r xs) → ∃ g : St → St, (∀ τ, freezeArgs τ (k :: r) (x :: xs) = freezeArgs (g τ) r xs) ∧ (∀ τ i, boxCells (g τ) i = boxCells τ i) ∧
        ∃ p, g σ = addHp σ p ∧ (∀ i ∈ fsts p, i ∈ deepIds σ x.ids) ∧ (∀ τ, SameOb (deepIds σ x.ids) σ τ → g τ = addHp τ p) ∧ NoClean p := fun y hy h => by
        obtain ⟨p1, e1, k1, t1, n1⟩ := freeze_foot y.cells σ
        have hs : ∀ i ∈ cellsIds y.cells, i ∈ deepIds σ x.ids := fun i hi => mem_deep.2 (.inl (by rw [hy]; exact hi))
        exact ⟨fun τ => τ.freeze y.cells, h, fun τ i => freeze_boxC _ _ _, p1, e1, (fun i hi => hs i (k1 i hi)), (fun τ hτ => t1 τ (hτ.sub hs)), n1⟩
      cases k with
      | fn _ _ => simp [valPars] at hk
      | val ag ts => cases x with
        | tup l => exact none' fun _ => rfl
        | val y => exact cells' y rfl fun _ => rfl
      | own t => cases x with
        | tup l => exact none' fun _ => rfl
        | val y => exact cells' y rfl fun _ => rfl
      | ow t => cases x <;> exact none' fun _ => rfl
      | box ts => cases x with
        | tup l => exact none' fun _ => rfl
        | val y => cases y with
          | agg cs => exact none' fun _ => rfl
          | one c => cases c with
            | ptr id off =>
              obtain ⟨p1, e1, k1, t1, n1⟩ := freezeBox_foot id σ
              have e : (AV.val (.one (.ptr id off))).ids = [id] := rfl
              exact ⟨fun τ => freezeBox τ id, fun _ => rfl, fun τ i => freezeBox_boxC _ _ _, p1, e1, by rw [e]; exact k1, by rw [e]; exact t1, n1⟩
            | _ => exact none' fun _ => rfl
    obtain ⟨g, g1, g2, p1, e1, k1, t1, n1⟩ := first
    obtain ⟨p2, e2, k2, t2, n2⟩ := valArgs_foot (ks := r) hk2 xs (g σ)
    have hdc : ∀ l, deepIds (g σ) l = deepIds σ l := fun l => deep_congr (g2 σ) l
    refine ⟨app p2 p1, ?_, fun i hi => ?_, fun τ hτ => ?_, n2.app n1⟩
    · rw [g1, e2, e1, addHp_app]
    · rw [fsts_app, app_eq] at hi
      rcases List.mem_append.1 hi with hi | hi
      · exact deep_tail i (by rw [← hdc]; exact k2 i hi)
      · exact deep_head i (k1 i hi)
    · have h1 := t1 τ (hτ.sub deep_head)
      rw [g1, t2 (g τ) ?_, h1, addHp_app]
      rw [hdc, e1, h1]
      exact (hτ.sub deep_tail).add p1

theorem obsN_foot : ∀ {ks : List CK} (nb : Nat) (p : (tupT (pay ks)).den), ∃ pre, (∀ τ, obsN nb τ ks p = addHp τ pre) ∧ (∀ i ∈ fsts pre, nb ≤ i ∧ i < nb + owns ks) ∧ NoClean pre
  | [], nb, _ => ⟨[], fun τ => rfl, (fun i hi => by cases hi), NoClean.nil⟩
  | .cst _ :: ks, nb, p => obsN_foot (ks := ks) nb p
  | .dat _ :: ks, nb, p => obsN_foot (ks := ks) nb _
  | .own t b mu :: ks, nb, p => by
    obtain ⟨p2, e, k, n⟩ := obsN_foot (ks := ks) (nb + 1) (ttl (.sl t) (pay ks) p)
    refine ⟨app p2 [(nb, some ⟨true, .arr t (thd (.sl t) (pay ks) p) mu⟩)], fun τ => ?_, fun i hi => ?_, n.app NoClean.one⟩
    · show obsN (nb + 1) (τ.set nb _) ks _ = _
      rw [set_addHp, e, addHp_app]
    · rw [fsts_app, app_eq] at hi
      simp only [owns]
      rcases List.mem_append.1 hi with hi | hi
      · have := k i hi; omega
      · simp [fsts] at hi; omega
theorem resObs_foot : ∀ {l : List (Bool × List CK)} (nb : Nat) (p : (tupT (resTs l)).den), ∃ pre, (∀ τ, resObs nb τ l p = addHp τ pre) ∧ (∀ i ∈ fsts pre, nb ≤ i ∧ i < nb + resOwns l) ∧ NoClean pre
  | [], nb, _ => ⟨[], fun τ => rfl, (fun i hi => by cases hi), NoClean.nil⟩
  | (ag, ks) :: r, nb, p => by
    obtain ⟨p1, e1, k1, n1⟩ := obsN_foot (ks := ks) nb (tfst (pay ks) (resTs r) p)
    obtain ⟨p2, e2, k2, n2⟩ := resObs_foot (l := r) (nb + owns ks) (tsnd (pay ks) (resTs r) p)
    refine ⟨app p2 p1, fun τ => ?_, fun i hi => ?_, n2.app n1⟩
    · simp only [resObs]
      rw [e1, e2, addHp_app]
    · rw [fsts_app, app_eq] at hi
      simp only [resOwns]
      rcases List.mem_append.1 hi with hi | hi
      · have := k2 i hi; omega
      · have := k1 i hi; omega

theorem mem_span16 {nb i : Nat} (h1 : nb ≤ i) (h2 : i < nb + 16) : i ∈ span16 nb := by
  simp only [span16, List.mem_cons, List.not_mem_nil, or_false]
  omega

/-- A call that is handed values, what goes, and boxes. -/
theorem aCallS_shape {S : Summ} {xs : List AV} (hv : valPars S.sig.pars = true) (nb : Nat) (σ : St) :
    ∃ res : Option (Option (AV × List (Nat × Option Ob))), (∀ τ, SameOb (deepIds σ (avIds xs)) σ τ → ∀ (R' : Type) (K' : AV → St → Option R'), aCallS m nb S xs τ K' = res.map fun x => x.bind fun y => K' y.1 (addHp τ y.2)) ∧
      ∀ y, res = some (some y) → (∀ i ∈ fsts y.2, ((sigSl S.sig || ownPars S.sig.pars) = true ∧ i ∈ deepIds σ (avIds xs)) ∨ (resOwns S.sig.res ≠ 0 ∧ i ∈ span16 nb)) ∧ NoClean y.2 := by
  obtain ⟨pre, f1, f2, f3, f4⟩ := valArgs_foot hv xs σ
  have h1 := valArgs_held hv (xs := xs)
  obtain ⟨pk, ek, kk, nk⟩ := killAll_foot (held S.sig.pars xs)
  have hdeep : ∀ i ∈ avIds xs, i ∈ deepIds σ (avIds xs) := fun i hi => mem_deep.2 (.inl hi)
  have hkk : ∀ i ∈ fsts pk, ((sigSl S.sig || ownPars S.sig.pars) = true ∧ i ∈ deepIds σ (avIds xs)) := fun i hi => by
    obtain ⟨a, b⟩ := h1 i (kk i hi)
    exact ⟨by rw [a, Bool.or_true], hdeep i b⟩
  have hg : ∀ τ, SameOb (deepIds σ (avIds xs)) σ τ → grabArgs (!sigSl S.sig) (freezeArgs τ S.sig.pars xs) S.sig.pars xs = grabArgs (!sigSl S.sig) (freezeArgs σ S.sig.pars xs) S.sig.pars xs := fun τ hτ => by
    refine valArgs_grab hv ?_
    rw [deep_congr (valArgs_box hv xs σ), f3 τ hτ, f1]
    exact hτ.add pre
  cases hp : grabArgs (!sigSl S.sig) (freezeArgs σ S.sig.pars xs) S.sig.pars xs with
  | none =>
    refine ⟨none, fun τ hτ R' K' => ?_, fun y hy => by cases hy⟩
    unfold aCallS
    rw [hg τ hτ, hp]; rfl
  | some p =>
    cases hb : nodupB (held S.sig.pars xs) && Nat.ble (resOwns S.sig.res) 16 && resCst S.sig.res with
    | false =>
      refine ⟨none, fun τ hτ R' K' => ?_, fun y hy => by cases hy⟩
      unfold aCallS
      rw [hg τ hτ, hp]
      dsimp only
      rw [hb]; rfl
    | true =>
      have hle : resOwns S.sig.res ≤ 16 := by
        simp only [Bool.and_eq_true] at hb
        exact Nat.le_of_ble_eq_true hb.1.2
      cases hr : S.fn m p with
      | none =>
        refine ⟨some none, fun τ hτ R' K' => ?_, fun y hy => by cases hy⟩
        unfold aCallS
        rw [hg τ hτ, hp]
        dsimp only
        rw [hb, hr]; rfl
      | some rr =>
        obtain ⟨p2, e2, k2, n2⟩ := resObs_foot (l := S.sig.res) nb (tfst (resTs S.sig.res) (outsP S.sig.pars) rr)
        obtain ⟨p3, e3, k3, n3⟩ := setBoxes_foot hv xs (tsnd (resTs S.sig.res) (outsP S.sig.pars) rr)
        have hk3 : ∀ i ∈ fsts p3, ((sigSl S.sig || ownPars S.sig.pars) = true ∧ i ∈ deepIds σ (avIds xs)) := fun i hi => by
          obtain ⟨a, b⟩ := k3 i hi
          exact ⟨by rw [a, Bool.or_true], hdeep i b⟩
        cases hsl : sigSl S.sig with
        | false =>
          refine ⟨some (some (resAV (resVals nb S.sig.res (tfst (resTs S.sig.res) (outsP S.sig.pars) rr)), app p2 (app p3 pk))), fun τ hτ R' K' => ?_, fun y hy => ?_⟩
          rotate_left
          · cases hy
            refine ⟨fun i hi => ?_, n2.app (n3.app nk)⟩
            rw [fsts_app, app_eq] at hi
            rcases List.mem_append.1 hi with hi | hi
            · refine .inr ⟨fun h0 => ?_, mem_span16 (k2 i hi).1 (by have := (k2 i hi).2; omega)⟩
              have := k2 i hi; omega
            · rw [fsts_app, app_eq] at hi
              rcases List.mem_append.1 hi with hi | hi
              · have := hk3 i hi
                rw [hsl] at this
                exact .inl this
              · have := hkk i hi
                rw [hsl] at this
                exact .inl this
          · unfold aCallS
            rw [hg τ hτ, hp]
            dsimp only
            rw [hb, hr, hsl]
            simp only [cond_true, cond_false, Option.bind_some, Option.map_some, ek, e3, e2, addHp_app]
        | true =>
          refine ⟨some (some (resAV (resVals nb S.sig.res (tfst (resTs S.sig.res) (outsP S.sig.pars) rr)), app p2 (app p3 (app pk pre)))), fun τ hτ R' K' => ?_, fun y hy => ?_⟩
          rotate_left
          · cases hy
            refine ⟨fun i hi => ?_, n2.app (n3.app (nk.app f4))⟩
            rw [fsts_app, app_eq] at hi
            rcases List.mem_append.1 hi with hi | hi
            · refine .inr ⟨fun h0 => ?_, mem_span16 (k2 i hi).1 (by have := (k2 i hi).2; omega)⟩
              have := k2 i hi; omega
            · rw [fsts_app, app_eq] at hi
              rcases List.mem_append.1 hi with hi | hi
              · have := hk3 i hi
                rw [hsl] at this
                exact .inl this
              · rw [fsts_app, app_eq] at hi
                rcases List.mem_append.1 hi with hi | hi
                · have := hkk i hi
                  rw [hsl] at this
                  exact .inl this
                · exact .inl ⟨by simp, f2 i hi⟩
          · unfold aCallS
            rw [hg τ hτ, hp]
            dsimp only
            rw [hb, hr, hsl]
            simp only [cond_true, Option.bind_some, Option.map_some, ek, e3, e2, f3 τ hτ, addHp_app]

theorem aCallF_shape {g : FuncId} {xs : List AV} (nb : Nat) (σ : St) : ∀ {Γ : List Summ}, valCalls g Γ = true →
    ∃ res : Option (AV × List (Nat × Option Ob)), (∀ τ, SameOb (deepIds σ (avIds xs)) σ τ → ∀ (R' : Type) (K' : AV → St → Option R'), aCallF m nb g xs τ K' Γ = res.bind fun y => K' y.1 (addHp τ y.2)) ∧
      ∀ y, res = some y → (∀ i ∈ fsts y.2, (slCalls g Γ = true ∧ i ∈ deepIds σ (avIds xs)) ∨ (ownCalls g Γ = true ∧ i ∈ span16 nb)) ∧ NoClean y.2
  | [], _ => ⟨none, fun τ _ R' K' => rfl, fun y hy => by cases hy⟩
  | S :: Γ, h => by
    simp only [valCalls, Bool.and_eq_true] at h
    obtain ⟨res2, a1, a2⟩ := aCallF_shape (xs := xs) nb σ (Γ := Γ) h.2
    have up : ∀ y, res2 = some y → (∀ i ∈ fsts y.2, (slCalls g (S :: Γ) = true ∧ i ∈ deepIds σ (avIds xs)) ∨ (ownCalls g (S :: Γ) = true ∧ i ∈ span16 nb)) ∧ NoClean y.2 := fun y hy => by
      obtain ⟨b1, b2⟩ := a2 y hy
      refine ⟨fun i hi => ?_, b2⟩
      rcases b1 i hi with ⟨c1, c2⟩ | ⟨c1, c2⟩
      · exact .inl ⟨by simp [slCalls, c1], c2⟩
      · exact .inr ⟨by simp [ownCalls, c1], c2⟩
    cases hb0 : Nat.beq S.f g && (winFn S).isNone with
    | false => exact ⟨res2, fun τ hτ R' K' => by simp only [aCallF, hb0, cond_false]; exact a1 τ hτ R' K', up⟩
    | true =>
      have hb : Nat.beq S.f g = true := by
        rw [Bool.and_eq_true] at hb0
        exact hb0.1
      have hv : valPars S.sig.pars = true := by
        have h1 := h.1
        rw [hb] at h1
        simpa using h1
      obtain ⟨res1, b1, b2⟩ := aCallS_shape (m := m) (xs := xs) hv nb σ
      cases hr : res1 with
      | none => exact ⟨res2, fun τ hτ R' K' => by simp only [aCallF, hb0, cond_true]; rw [b1 τ hτ, hr]; exact a1 τ hτ R' K', up⟩
      | some x =>
        refine ⟨x, fun τ hτ R' K' => by simp only [aCallF, hb0, cond_true]; rw [b1 τ hτ, hr]; rfl, fun y hy => ?_⟩
        obtain ⟨c1, c2⟩ := b2 y (by rw [hr, hy])
        refine ⟨fun i hi => ?_, c2⟩
        rcases c1 i hi with ⟨d1, d2⟩ | ⟨d1, d2⟩
        · refine .inl ⟨?_, d2⟩
          simp only [slCalls, hb, d1, Bool.true_and, Bool.true_or]
        · refine .inr ⟨?_, d2⟩
          have : Nat.beq (resOwns S.sig.res) 0 = false := by
            cases hh : Nat.beq (resOwns S.sig.res) 0 with
            | false => rfl
            | true => exact absurd (Nat.eq_of_beq_eq_true hh) d1
          simp [ownCalls, hb, this]
end
end Go.Abs

/- Abs, part D4: what an operation does hangs on what it looks at alone: all operations. -/
namespace Go.Abs
section
variable {P : Program} {R : Type} {σ τ : St} {o : Oper} {r : R} {nb : Nat} {m : Fu} {Γ : List Summ}

/-- A fixed effect. -/
theorem Fra.fixed {rd wr : List Nat} (v : AV) (pre : List (Nat × Option Ob)) (hk : ∀ i ∈ fsts pre, i ∈ wr) (h : ∀ τ, (∀ x ∈ o.op.operands.toList, τ.ev x = σ.ev x) → SameOb rd σ τ → ∀ (R' : Type) (K' : AV → St → Option R'), aOp P Γ m nb o τ K' = K' v (addHp τ pre))
    (hn : NoClean pre := by first | exact NoClean.nil | exact NoClean.one | exact (NoClean.nil.kill).cons) :
    ∃ v pre, Fra P Γ m o nb σ rd wr v pre := ⟨v, pre, hk, h, hn⟩

theorem storeFra {t : TypeId} {a x : Operand} (hop : o.op = .store t a x) {K : AV → St → Option R} (hr : aOp P Γ m nb o σ K = some r) :
    ∃ v pre, Fra P Γ m o nb σ (app (σ.ev a).ids (σ.ev x).ids) (app (σ.ev a).ids (σ.ev x).ids) v pre := by
  have e : ∀ τ (R' : Type) (K' : AV → St → Option R'), aOp P Γ m nb o τ K' = aStore P t (τ.ev a) (τ.ev x) τ (fun s => K' (.val (.one .skip)) s) := fun τ R' K' => by unfold aOp; rw [hop]
  have hops : ∀ τ : St, (∀ x ∈ o.op.operands.toList, τ.ev x = σ.ev x) → τ.ev a = σ.ev a ∧ τ.ev x = σ.ev x := fun τ h => by
    rw [hop] at h; simp only [Op.operands] at h
    exact ⟨h a (by simp), h x (by simp)⟩
  rw [e] at hr
  unfold aStore at hr
  cases hx : σ.ev x with
  | tup l => rw [hx] at hr; cases hr
  | val xv =>
    rw [hx] at hr
    dsimp only at hr
    cases hc : Nat.beq xv.cells.length (P.cellsOf t) && Nat.blt 0 (P.cellsOf t) && storB xv.cells with
    | false => rw [hc] at hr; cases hr
    | true =>
      rw [hc] at hr
      simp only [cond_true] at hr
      cases ha : σ.ev a with
      | tup l => rw [ha] at hr; cases hr
      | val av =>
        cases av with
        | agg cs => rw [ha] at hr; cases hr
        | one c =>
          cases c with
          | ptr id off =>
            rw [ha] at hr
            dsimp only at hr
            cases ho : σ.ob id with
            | none => rw [ho] at hr; cases hr
            | some ob =>
              cases ob with
              | arr _ _ _ => rw [ho] at hr; cases hr
              | box cs =>
                rw [ho] at hr
                dsimp only at hr
                cases hl : Nat.ble (off + P.cellsOf t) cs.length with
                | false => rw [hl] at hr; cases hr
                | true =>
                  refine Fra.fixed (.val (.one .skip)) [(id, some ⟨true, .box (splice cs off xv.cells)⟩)] (fun i hi => ?_) (fun τ h1 h2 R' K' => ?_)
                  · simp [fsts] at hi; subst hi; simp [AV.ids, V1.cells, cellsIds, Cell.ids, app_eq]
                  · obtain ⟨k1, k2⟩ := hops τ h1
                    have k3 : τ.ob id = σ.ob id := h2 id (by simp [AV.ids, V1.cells, cellsIds, Cell.ids, app_eq])
                    rw [e]
                    unfold aStore
                    rw [k1, k2, ha, hx]
                    dsimp only
                    rw [hc]
                    simp only [cond_true]
                    rw [k3, ho]
                    dsimp only
                    rw [hl]
                    rfl
          | eptr u id i off =>
            rw [ha] at hr
            dsimp only at hr
            obtain ⟨pf, f1, f2, f3, f4⟩ := freeze_foot xv.cells σ
            cases ho : (σ.freeze xv.cells).ob id with
            | none => rw [ho] at hr; cases hr
            | some ob =>
              cases ob with
              | box _ => rw [ho] at hr; cases hr
              | arr u' xs mu =>
                cases mu with
                | fr => rw [ho] at hr; cases hr
                | mp _ _ => rw [ho] at hr; cases hr
                | cp _ => rw [ho] at hr; cases hr
                | wr =>
                  rw [ho] at hr
                  dsimp only at hr
                  cases hl : u'.beq u && Nat.ble (off + P.cellsOf t) u'.sz && Nat.blt i (List.length xs) with
                  | false => rw [hl] at hr; cases hr
                  | true =>
                    rw [hl] at hr
                    simp only [cond_true] at hr
                    have hel : ∀ x ∈ cellsIds (splice (explode u' (List.getD xs i u'.zero)) off xv.cells), x ∈ cellsIds xv.cells := by
                      have app_ids : ∀ (a b : List Cell), cellsIds (a ++ b) = cellsIds a ++ cellsIds b := by
                        intro a b
                        induction a with
                        | nil => rfl
                        | cons c r ih => simp [cellsIds, ih, app_eq]
                      have ex : ∀ (t : Ty) (x : t.den), cellsIds (explode t x) = [] := by
                        intro t
                        induction t with
                        | pr a b iha ihb => intro x; simp [explode, app_ids, iha, ihb]
                        | _ => intro x; rfl
                      have tk : ∀ (n : Nat) (l : List Cell), cellsIds l = [] → cellsIds (l.take n) = [] ∧ cellsIds (l.drop n) = [] := fun n l hl => by
                        have := app_ids (l.take n) (l.drop n)
                        rw [List.take_append_drop, hl] at this
                        have := this.symm
                        rw [List.append_eq_nil_iff] at this
                        exact this
                      intro y hy
                      unfold splice at hy
                      rw [app_ids, app_ids, (tk _ _ (ex _ _)).1, (tk _ _ (ex _ _)).2] at hy
                      simpa using hy
                    have him : ∀ τ, SameOb (app (AV.val (.one (.eptr u id i off))).ids (AV.val xv).ids) σ τ → implode (τ.freeze xv.cells) u' (splice (explode u' (List.getD xs i u'.zero)) off xv.cells) = implode (σ.freeze xv.cells) u' (splice (explode u' (List.getD xs i u'.zero)) off xv.cells) := fun τ h2 => by
                      refine (implode_same ?_).1
                      rw [f1, f3 τ (h2.sub fun i hi => by rw [app_eq]; exact List.mem_append_right _ hi)]
                      exact (h2.sub fun i hi => by rw [app_eq]; exact List.mem_append_right _ (hel i hi)).add pf
                    cases hd : implode (σ.freeze xv.cells) u' (splice (explode u' (List.getD xs i u'.zero)) off xv.cells) with
                    | none => rw [hd] at hr; cases hr
                    | some dr =>
                      obtain ⟨d, rest⟩ := dr
                      cases rest with
                      | cons _ _ => rw [hd] at hr; cases hr
                      | nil =>
                        refine Fra.fixed (.val (.one .skip)) ((id, some ⟨true, .arr u' (List.set xs i d) .wr⟩) :: pf) (fun j hj => ?_) (fun τ h1 h2 R' K' => ?_) f4.cons
                        · rw [app_eq]
                          simp only [fsts, List.mem_cons] at hj
                          rcases hj with rfl | hj
                          · exact List.mem_append_left _ (by simp [AV.ids, V1.cells, cellsIds, Cell.ids, app_eq])
                          · exact List.mem_append_right _ (f2 j hj)
                        · obtain ⟨k1, k2⟩ := hops τ h1
                          have kf := f3 τ (h2.sub fun i hi => by rw [app_eq]; exact List.mem_append_right _ hi)
                          have k3 : (τ.freeze xv.cells).ob id = (σ.freeze xv.cells).ob id := by
                            rw [kf, f1, addHp_ob, addHp_ob, h2 id (by rw [app_eq]; exact List.mem_append_left _ (by simp [AV.ids, V1.cells, cellsIds, Cell.ids, app_eq]))]
                          rw [e]
                          unfold aStore
                          rw [k1, k2, ha, hx]
                          dsimp only
                          rw [hc]
                          simp only [cond_true]
                          rw [k3, ho]
                          dsimp only
                          rw [hl]
                          simp only [cond_true]
                          rw [him τ h2, hd]
                          dsimp only
                          rw [kf]
                          rfl
          | wptr =>
            rw [ha] at hr
            dsimp only at hr
            split at hr
            · rename_i hxc
              refine Fra.fixed (.val (.one .skip)) [] (fun i hi => by cases hi) (fun τ h1 h2 R' K' => ?_) NoClean.nil
              obtain ⟨k1, k2⟩ := hops τ h1
              rw [e]
              unfold aStore
              rw [k1, k2, ha, hx]
              dsimp only
              rw [hc]
              simp only [cond_true]
              rw [hxc]
              rfl
            · cases hr
          | _ => rw [ha] at hr; cases hr
end
end Go.Abs

/- Abs, part D5: what an operation does hangs on what it looks at alone: the rest. -/
namespace Go.Abs
section
variable {P : Program} {R : Type} {σ τ : St} {o : Oper} {r : R} {nb : Nat} {m : Fu} {Γ : List Summ}

theorem nb_in {l : List Nat} {x : Option Ob} : ∀ i ∈ fsts [(nb, x)], i ∈ nb :: l := fun i hi => by simp [fsts] at hi; simp [hi]

theorem buildSliceFra {t : TypeId} {n : Nat} {ps : Array (Nat × Operand)} (hop : o.op = .buildSlice t n ps) {K : AV → St → Option R} (hr : aOp P Γ m nb o σ K = some r) :
    ∃ v pre, Fra P Γ m o nb σ (psIds (evPs σ ps.toList)) (nb :: psIds (evPs σ ps.toList)) v pre := by
  have e0 : ∀ τ (R' : Type) (K' : AV → St → Option R'), aOp P Γ m nb o τ K' = (match plMark Γ with
    | true => aBuildPl P nb t n (evPs τ ps.toList) τ K'
    | false => aBuildSlice P nb t n (evPs τ ps.toList) τ K') := fun τ R' K' => by unfold aOp; rw [hop]; cases plMark Γ <;> rfl
  have hops : ∀ τ : St, (∀ x ∈ o.op.operands.toList, τ.ev x = σ.ev x) → evPs τ ps.toList = evPs σ ps.toList := fun τ h => by
    rw [hop] at h; simp only [Op.operands] at h
    exact evPs_same fun x hx => h x (by simpa using hx)
  cases hq : plMark Γ with
  | true =>
    rw [e0, hq] at hr
    dsimp only at hr
    unfold aBuildPl at hr
    split at hr
    case h_2 => cases hr
    rename_i el u ps' σ1 he hpl
    cases hb : Nat.ble (n * u.sz) 16777216 && zeroOk P el u && Nat.beq (evPs σ ps.toList).length n with
    | false => rw [hb] at hr; cases hr
    | true =>
      rw [hb] at hr
      simp only [cond_true] at hr
      split at hr
      case h_2 => cases hr
      rename_i xs hxs
      obtain ⟨pf, f1, f2, f3, f4, f5⟩ := planePs_foot (evPs σ ps.toList) hpl
      refine Fra.fixed (.val (.one (.own u.plz nb))) ((nb, some ⟨true, .arr u.plz xs .wr⟩) :: pf) (fun i hi => ?_) (fun τ h1 h2 R' K' => ?_) f4.cons
      · simp only [fsts, List.mem_cons] at hi ⊢
        exact hi.imp id (f2 i)
      · rw [e0, hq, hops τ h1]
        dsimp only
        unfold aBuildPl
        rw [he, f3 τ h2]
        dsimp only
        rw [hb]
        simp only [cond_true]
        have hl : litElems (addHp τ pf) u.plz 0 ps' = litElems σ1 u.plz 0 ps' := litElems_same (by
          rw [f1]; exact (h2.sub f5).add pf)
        rw [hl, hxs]
        rfl
  | false =>
  have e : ∀ τ (R' : Type) (K' : AV → St → Option R'), aOp P Γ m nb o τ K' = aBuildSlice P nb t n (evPs τ ps.toList) τ K' := fun τ R' K' => by rw [e0, hq]
  rw [e] at hr
  unfold aBuildSlice at hr
  split at hr
  case h_2 he =>
    split at hr
    case h_2 => cases hr
    rename_i el he2
    cases hb : Nat.blt 0 n && Nat.ble n 64 with
    | false => rw [hb] at hr; cases hr
    | true =>
      rw [hb] at hr
      simp only [cond_true] at hr
      split at hr
      case h_2 => cases hr
      rename_i cs hcs
      refine Fra.fixed (.val (.one (.bsl nb n))) [(nb, some ⟨true, .box cs⟩)] nb_in (fun τ h1 h2 R' K' => ?_)
      rw [e, hops τ h1]
      unfold aBuildSlice
      rw [he, he2]
      dsimp only
      rw [hb, hcs]; rfl
  rename_i el u he
  cases hb : Nat.ble (n * u.sz) 16777216 && zeroOk P el u && Nat.beq (evPs σ ps.toList).length n with
  | false => rw [hb] at hr; cases hr
  | true =>
    rw [hb] at hr
    simp only [cond_true] at hr
    split at hr
    case h_2 => cases hr
    rename_i xs hxs
    obtain ⟨pf, f1, f2, f3, f4⟩ := freezeParts_foot (evPs σ ps.toList) σ
    refine Fra.fixed (.val (.one (.own u nb))) ((nb, some ⟨true, .arr u xs .wr⟩) :: pf) (fun i hi => ?_) (fun τ h1 h2 R' K' => ?_) f4.cons
    · simp only [fsts, List.mem_cons] at hi ⊢
      exact hi.imp id (f2 i)
    · rw [e, hops τ h1]
      unfold aBuildSlice
      rw [he]
      dsimp only
      rw [hb]
      simp only [cond_true]
      have hl : litElems (freezeParts τ (evPs σ ps.toList)) u 0 (evPs σ ps.toList) = litElems (freezeParts σ (evPs σ ps.toList)) u 0 (evPs σ ps.toList) := litElems_same (by
        rw [f1, f3 τ h2]; exact h2.add pf)
      rw [hl, hxs]
      dsimp only
      rw [f3 τ h2]
      rfl

theorem listOf_same {x : AV} (h : SameOb x.ids σ τ) (u : Ty) : listOf τ u x = listOf σ u x := by
  cases x with
  | tup l => rfl
  | val x => cases x with
    | agg cs => rfl
    | one c => exact toDat_same (h.sub fun i hi => by simp [AV.ids, V1.cells, cellsIds, app_eq, hi]) _

theorem appended_same {x : AV} (h : SameOb x.ids σ τ) (u : Ty) : appended τ u x = appended σ u x := by
  unfold appended
  split
  · rfl
  · exact listOf_same h u

theorem mapAt_same {x : AV} (h : SameOb x.ids σ τ) (ka : Bool) (k : Ty) (va : Bool) (v : Ty) : mapAt τ ka k va v x = mapAt σ ka k va v x := by
  cases x with
  | tup l => rfl
  | val x => cases x with
    | agg cs => rfl
    | one c => cases c with
      | own t id =>
        have := h id (by simp [AV.ids, V1.cells, cellsIds, Cell.ids, app_eq])
        simp only [mapAt, this]
      | _ => rfl
theorem elAt_same {x : AV} (h : SameOb x.ids σ τ) (ag : Bool) (t : Ty) : elAt τ ag t x = elAt σ ag t x := by
  cases x with
  | tup l => rfl
  | val x =>
    have := (implode_same (t := t) (cs := x.cells) (σ := σ) (τ := τ) (by exact h)).1
    simp only [elAt, this]
theorem aLookup_same {t : TypeId} {x y : AV} {okb : Bool} (h1 : SameOb x.ids σ τ) (h2 : SameOb y.ids σ τ) {R : Type} (K : AV → Option R) : aLookup P t x y okb τ K = aLookup P t x y okb σ K := by
  unfold aLookup
  split
  · rw [mapAt_same h1, elAt_same h2]
  · rfl
theorem aLookup_cps {R : Type} (t : TypeId) (x y : AV) (okb : Bool) (σ : St) (K : AV → Option R) : aLookup P t x y okb σ K = (aLookup P t x y okb σ some).bind K := by
  unfold aLookup
  split
  · split
    · cases okb <;> rfl
    · rfl
  · rfl
theorem aLenMap_same {t : TypeId} {x : AV} (h1 : SameOb x.ids σ τ) {R : Type} (K : AV → Option R) : aLenMap P t x τ K = aLenMap P t x σ K := by
  unfold aLenMap
  split
  · rw [mapAt_same h1]
  · rfl
theorem aLenMap_cps {R : Type} (t : TypeId) (x : AV) (σ : St) (K : AV → Option R) : aLenMap P t x σ K = (aLenMap P t x σ some).bind K := by
  unfold aLenMap
  split
  · split <;> rfl
  · rfl

theorem convertFra {s d : TypeId} {x : Operand} (hop : o.op = .convert s d x) {K : AV → St → Option R} (hr : aOp P Γ m nb o σ K = some r) : ∃ v pre, Fra P Γ m o nb σ (σ.ev x).ids (bif Nat.beq s d then nb :: (σ.ev x).ids else [nb]) v pre := by
  have nb_in' : ∀ {y : Option Ob}, ∀ i ∈ fsts [(nb, y)], i ∈ (bif Nat.beq s d then nb :: (σ.ev x).ids else [nb]) := fun i hi => by
    simp [fsts] at hi; subst hi; cases Nat.beq s d <;> simp
  have e : ∀ τ (R' : Type) (K' : AV → St → Option R'), aOp P Γ m nb o τ K' = aConvert P nb s d (τ.ev x) τ K' := fun τ R' K' => by unfold aOp; rw [hop]
  have hops : ∀ τ : St, (∀ x ∈ o.op.operands.toList, τ.ev x = σ.ev x) → τ.ev x = σ.ev x := fun τ h => by
    rw [hop] at h; exact h x (by simp [Op.operands])
  rw [e] at hr
  unfold aConvert at hr
  split at hr
  · rename_i k0 k k1 n hs hd hx
    refine Fra.fixed (one (.int k) (k.wrap n)) [] (fun i hi => by cases hi) (fun τ h1 h2 R' K' => ?_)
    rw [e, hops τ h1]; unfold aConvert; rw [hs, hd, hx]; rfl
  · rename_i s0 hs hd hx
    refine Fra.fixed (one .str s0) [] (fun i hi => by cases hi) (fun τ h1 h2 R' K' => ?_)
    rw [e, hops τ h1]; unfold aConvert; rw [hs, hd, hx]; rfl
  · rename_i el s0 hs hd hx
    split at hr
    · rename_i hu
      refine Fra.fixed (.val (.one (.own (.int .u8) nb))) [(nb, some ⟨true, .arr (.int .u8) s0 .wr⟩)] nb_in' (fun τ h1 h2 R' K' => ?_)
      rw [e, hops τ h1]; unfold aConvert; rw [hs, hd, hx]; dsimp only; rw [hu]; rfl
    · cases hr
  · rename_i el hs hd
    split at hr
    · rename_i hu
      split at hr
      · rename_i s0 hl
        refine Fra.fixed (one .str s0) [] (fun i hi => by cases hi) (fun τ h1 h2 R' K' => ?_)
        rw [e, hops τ h1]; unfold aConvert; rw [hs, hd]; dsimp only; rw [hu]; dsimp only; rw [listOf_same h2, hl]; rfl
      · cases hr
    · cases hr
  · rename_i e' el t id hs hd hx
    split at hr
    · rename_i u xs mu hsd hu hob
      split at hr
      · cases hr
      · rename_i y0 ys
        have hsd2 : Nat.beq s d = true := hsd
        cases hm : mu.isSl with
        | false => rw [hm] at hr; cases hr
        | true =>
        refine Fra.fixed (.val (.one (.own t id))) [(id, some ⟨true, .arr u (y0 :: ys : List u.den) mu⟩)] (fun i hi => ?_) (fun τ h1 h2 R' K' => ?_)
        · simp [fsts] at hi
          subst hi
          rw [hsd2, hx]
          simp [AV.ids, V1.cells, cellsIds, Cell.ids, app_eq]
        · have h3 : τ.ob id = σ.ob id := by
            refine h2 id ?_
            rw [hx]; simp [AV.ids, V1.cells, cellsIds, Cell.ids, app_eq]
          rw [e, hops τ h1]; unfold aConvert; rw [hs, hd, hx]; dsimp only; rw [hsd2, hu, h3, hob]; dsimp only; rw [hm]; rfl
    · cases hr
  · cases hr

theorem capAt_same {x : AV} (h : SameOb x.ids σ τ) : capAt τ x = capAt σ x := by
  cases x with
  | tup l => rfl
  | val x => cases x with
    | agg cs => rfl
    | one c => cases c with
      | own t id =>
        have := h id (by simp [AV.ids, V1.cells, cellsIds, Cell.ids, app_eq])
        simp only [capAt, this]
      | _ => rfl
theorem capAt_id {x : AV} {q : Nat × Nat × (t : Ty) × List t.den} (h : capAt σ x = some q) : q.1 ∈ x.ids := by
  obtain ⟨e, rfl, _⟩ := capAt_some h
  simp [AV.ids, V1.cells, cellsIds, Cell.ids, app_eq]

theorem sliceFra {t : TypeId} {x : Operand} {lo hi mx : Option Operand} (hop : o.op = .slice t x lo hi mx) {K : AV → St → Option R} (hr : aOp P Γ m nb o σ K = some r) : ∃ v pre, Fra P Γ m o nb σ (σ.ev x).ids (nb :: (σ.ev x).ids) v pre := by
  have hops : ∀ τ : St, (∀ x ∈ o.op.operands.toList, τ.ev x = σ.ev x) → τ.ev x = σ.ev x ∧ bnd τ lo = bnd σ lo ∧ bnd τ hi = bnd σ hi ∧ bnd τ mx = bnd σ mx := fun τ h => by
    rw [hop] at h; simp only [Op.operands] at h
    exact ⟨h x (by simp), bnd_same fun y hy => h y (by simp at hy ⊢; simp [hy]), bnd_same fun y hy => h y (by simp at hy ⊢; simp [hy]), bnd_same fun y hy => h y (by simp at hy ⊢; simp [hy])⟩
  have e0 : ∀ τ (R' : Type) (K' : AV → St → Option R'), aOp P Γ m nb o τ K' = (match capAt τ (τ.ev x) with
    | some q => aCut P nb t q (bnd τ lo) (bnd τ hi) (bnd τ mx) τ K'
    | none => aSlice P t (τ.ev x) (bnd τ lo) (bnd τ hi) (bnd τ mx) τ K') := fun τ R' K' => by unfold aOp; rw [hop]; rfl
  cases hq : capAt σ (σ.ev x) with
  | some q =>
    rw [e0, hq] at hr
    dsimp only at hr
    unfold aCut at hr
    split at hr
    case h_2 => cases hr
    rename_i hv hbl hbh hbm
    split at hr
    case h_2 => cases hr
    rename_i e' u he
    cases hc : q.2.2.1.beq u && (decide (0 ≤ hv) && decide (hv ≤ (q.2.1 : Int))) with
    | false => rw [hc] at hr; cases hr
    | true =>
      refine Fra.fixed (.val (.one (.own q.2.2.1 nb))) [(nb, some ⟨true, .arr q.2.2.1 ((q.2.2.2 ++ List.replicate (q.2.1 - q.2.2.2.length) q.2.2.1.zero).take hv.toNat) .wr⟩), (q.1, none)] (fun i hi => ?_) (fun τ h1 h2 R' K' => ?_)
      · simp [fsts] at hi
        rcases hi with rfl | rfl
        · simp
        · exact List.mem_cons_of_mem _ (capAt_id hq)
      · obtain ⟨k1, k2, k3, k4⟩ := hops τ h1
        rw [e0, k1, k2, k3, k4, capAt_same h2, hq]
        dsimp only
        unfold aCut
        rw [hbl, hbh, hbm]
        dsimp only
        rw [he]
        dsimp only
        rw [hc]
        rfl
  | none =>
  have e : ∀ τ, (∀ x ∈ o.op.operands.toList, τ.ev x = σ.ev x) → SameOb (σ.ev x).ids σ τ → ∀ (R' : Type) (K' : AV → St → Option R'), aOp P Γ m nb o τ K' = aSlice P t (τ.ev x) (bnd τ lo) (bnd τ hi) (bnd τ mx) τ K' := fun τ h1 h2 R' K' => by
    rw [e0, (hops τ h1).1, capAt_same h2, hq]
  rw [e σ (fun _ _ => rfl) (fun _ _ => rfl)] at hr
  unfold aSlice at hr
  split at hr
  case h_2 => cases hr
  rename_i bl bh bm hbl hbh hbm
  split at hr
  · rename_i s hu hx
    split at hr
    · dsimp only at hr
      cases hc : decide (0 ≤ bl.getD 0) && decide (bl.getD 0 ≤ bh.getD (List.length s)) && decide (bh.getD (List.length s) ≤ (List.length s : Int)) with
      | false => rw [hc] at hr; cases hr
      | true =>
        refine Fra.fixed (one .str ((s.take (bh.getD (List.length s)).toNat).drop (bl.getD 0).toNat)) [] (fun i hi => by cases hi) (fun τ h1 h2 R' K' => ?_)
        obtain ⟨k1, k2, k3, k4⟩ := hops τ h1
        rw [e τ h1 h2, k1, k2, k3, k4]; unfold aSlice; rw [hbl, hbh, hbm]; dsimp only; rw [hu, hx]; dsimp only; rw [hc]; rfl
    · cases hr
  · rename_i el c hu hx
    split at hr
    · cases hr
    · rename_i hhm
      split at hr
      case h_2 => cases hr
      rename_i eu u he
      split at hr
      case h_2 => cases hr
      rename_i xs hxs
      dsimp only at hr
      cases hc : decide (0 ≤ bl.getD 0) && decide (bl.getD 0 ≤ bh.getD (List.length xs)) && decide (bh.getD (List.length xs) ≤ bm.getD (List.length xs)) && decide (bm.getD (List.length xs) ≤ (List.length xs : Int)) with
      | false => rw [hc] at hr; cases hr
      | true =>
        obtain ⟨pf, f1, f2, f3, f4⟩ := freeze_foot [c] σ
        have hids : (σ.ev x).ids = cellsIds [c] := by rw [hx]; rfl
        refine Fra.fixed (.val (.one (.dat (.sl (c.elTy u)) ((List.take (bh.getD (List.length xs)).toNat xs).drop (bl.getD 0).toNat)))) pf (fun i hi => List.mem_cons_of_mem _ (by rw [hids]; exact f2 i hi)) (fun τ h1 h2 R' K' => ?_) f4
        obtain ⟨k1, k2, k3, k4⟩ := hops τ h1
        have h2' : SameOb (cellsIds [c]) σ τ := by rw [← hids]; exact h2
        have kf : τ.freeze1 c = addHp τ pf := f3 τ h2'
        have kf0 : σ.freeze1 c = addHp σ pf := f1
        have ks : c.toDatS (τ.freeze1 c) (.sl (c.elTy u)) = c.toDatS (σ.freeze1 c) (.sl (c.elTy u)) := toDatS_same (σ := σ.freeze1 c) (τ := τ.freeze1 c) (c := c) (by rw [kf, kf0]; exact (h2'.sub fun i hi => by simp [cellsIds, app_eq, hi]).add pf) _
        rw [e τ h1 h2, k1, k2, k3, k4]
        unfold aSlice
        rw [hbl, hbh, hbm]
        dsimp only
        rw [hu, hx]
        dsimp only
        cases bh with
        | none =>
          cases bm with
          | some mm => exact (hhm mm rfl rfl).elim
          | none =>
            dsimp only
            rw [he]
            dsimp only
            rw [ks, hxs]
            dsimp only
            rw [hc, kf]
            rfl
        | some hh =>
          dsimp only
          rw [he]
          dsimp only
          rw [ks, hxs]
          dsimp only
          rw [hc, kf]
          rfl
  · cases hr

theorem makeSliceFra {t : TypeId} {l c : Operand} (hop : o.op = .makeSlice t l c) {K : AV → St → Option R} (hr : aOp P Γ m nb o σ K = some r) : ∃ v pre, Fra P Γ m o nb σ [] [nb] v pre := by
  have e0 : ∀ τ (R' : Type) (K' : AV → St → Option R'), aOp P Γ m nb o τ K' = (match capOf l c with
    | some n => aMakeCap P nb t n τ K'
    | none => match plMark Γ with
      | true => aMakePl P nb t (τ.ev l) (τ.ev c) τ K'
      | false => aMakeSlice P nb t (τ.ev l) (τ.ev c) τ K') := fun τ R' K' => by unfold aOp; rw [hop]; dsimp only; cases capOf l c <;> cases plMark Γ <;> rfl
  cases hq : capOf l c with
  | some n =>
    rw [e0, hq] at hr
    dsimp only at hr
    unfold aMakeCap at hr
    split at hr
    case h_2 => cases hr
    rename_i el u he
    cases hz : zeroOk P el u && Nat.blt 0 n && Nat.ble n 65536 with
    | false => rw [hz] at hr; cases hr
    | true =>
      refine Fra.fixed (.val (.one (.own u nb))) [(nb, some ⟨true, .arr u [] (.cp n)⟩)] nb_in (fun τ h1 h2 R' K' => ?_)
      rw [e0, hq]; dsimp only; unfold aMakeCap; rw [he]; dsimp only; rw [hz]; rfl
  | none =>
  have hops : ∀ τ : St, (∀ x ∈ o.op.operands.toList, τ.ev x = σ.ev x) → τ.ev l = σ.ev l ∧ τ.ev c = σ.ev c := fun τ h => by
    rw [hop] at h; simp only [Op.operands] at h
    exact ⟨h l (by simp), h c (by simp)⟩
  cases hqm : plMark Γ with
  | true =>
    have e : ∀ τ (R' : Type) (K' : AV → St → Option R'), aOp P Γ m nb o τ K' = aMakePl P nb t (τ.ev l) (τ.ev c) τ K' := fun τ R' K' => by rw [e0, hq, hqm]
    rw [e] at hr
    unfold aMakePl at hr
    split at hr
    case h_2 => cases hr
    rename_i el u n mm he hl hc
    cases hz : zeroOk P el u with
    | false => rw [hz] at hr; cases hr
    | true =>
      rw [hz] at hr
      simp only [cond_true] at hr
      cases hb : decide ((0 : Int) = n) && decide ((n : Int) ≤ mm) && decide ((mm : Int) ≤ 4294967296) with
      | false => rw [hb] at hr; cases hr
      | true =>
        refine Fra.fixed (.val (.one (.own u.plz nb))) [(nb, some ⟨true, .arr u.plz [] .wr⟩)] nb_in (fun τ h1 h2 R' K' => ?_)
        obtain ⟨k1, k2⟩ := hops τ h1
        rw [e, k1, k2]; unfold aMakePl; rw [he, hl, hc]; dsimp only; rw [hz]; simp only [cond_true]; rw [hb]; rfl
  | false =>
  have e : ∀ τ (R' : Type) (K' : AV → St → Option R'), aOp P Γ m nb o τ K' = aMakeSlice P nb t (τ.ev l) (τ.ev c) τ K' := fun τ R' K' => by rw [e0, hq, hqm]
  rw [e] at hr
  unfold aMakeSlice at hr
  split at hr
  case h_2 => cases hr
  rename_i el u n mm he hl hc
  cases hz : zeroOk P el u with
  | false => rw [hz] at hr; cases hr
  | true =>
    rw [hz] at hr
    simp only [cond_true] at hr
    cases hb : decide ((0 : Int) ≤ n) && decide ((n : Int) ≤ mm) && decide ((mm : Int) ≤ 4294967296) with
    | false => rw [hb] at hr; cases hr
    | true =>
      refine Fra.fixed (.val (.one (.own u nb))) [(nb, some ⟨true, .arr u (List.replicate (Int.toNat n) u.zero) .wr⟩)] nb_in (fun τ h1 h2 R' K' => ?_)
      obtain ⟨k1, k2⟩ := hops τ h1
      rw [e, k1, k2]; unfold aMakeSlice; rw [he, hl, hc]; dsimp only; rw [hz]; simp only [cond_true]; rw [hb]; rfl

theorem appendFra {c : Call} (hop : o.op = .call c) (hc : c.callee = .builtin .append) {s x : AV} (hargs : evs σ c.args.toList = [s, x]) {K : AV → St → Option R} (hr : aOp P Γ m nb o σ K = some r) :
    ∃ v pre, Fra P Γ m o nb σ (app s.ids x.ids) (nb :: s.ids) v pre := by
  have hops : ∀ τ : St, (∀ x ∈ o.op.operands.toList, τ.ev x = σ.ev x) → evs τ c.args.toList = [s, x] := fun τ h => by
    rw [← hargs]
    refine evs_same fun y hy => h y ?_
    rw [hop]
    simp only [Op.operands, Call.operands]
    simp at hy ⊢
    exact .inr hy
  have e0 : ∀ τ (R' : Type) (K' : AV → St → Option R'), evs τ c.args.toList = [s, x] → aOp P Γ m nb o τ K' = (match capAt τ s with
    | some q => aAppendC P nb c.argTypes.toList q x τ K'
    | none => aAppend P nb c.argTypes.toList s x τ K') := fun τ R' K' h => by unfold aOp; rw [hop]; dsimp only; rw [hc]; dsimp only; rw [h]; rfl
  cases hq : capAt σ s with
  | some q =>
    rw [e0 σ _ _ hargs, hq] at hr
    dsimp only at hr
    unfold aAppendC at hr
    split at hr
    case h_2 => cases hr
    rename_i st xt hat
    split at hr
    case h_2 => cases hr
    rename_i el u he hint
    split at hr
    case h_2 => cases hr
    rename_i ys hys
    cases hb : q.2.2.1.beq u && Nat.ble (List.length q.2.2.2 + List.length ys) q.2.1 with
    | false => rw [hb] at hr; cases hr
    | true =>
      refine Fra.fixed (.val (.one (.own q.2.2.1 nb))) [(nb, some ⟨true, .arr q.2.2.1 (q.2.2.2 ++ ys) (.cp q.2.1)⟩), (q.1, none)] (fun i hi => ?_) (fun τ h1 h2 R' K' => ?_)
      · simp [fsts] at hi
        rcases hi with rfl | rfl
        · simp
        · exact List.mem_cons_of_mem _ (capAt_id hq)
      · have hsu : SameOb s.ids σ τ := h2.sub fun i hi => by rw [app_eq]; exact List.mem_append_left _ hi
        have hxu : SameOb x.ids σ τ := h2.sub fun i hi => by rw [app_eq]; exact List.mem_append_right _ hi
        rw [e0 τ _ _ (hops τ h1), capAt_same hsu, hq]
        dsimp only
        unfold aAppendC
        rw [hat]; dsimp only; rw [he, hint]; dsimp only; rw [appended_same hxu, hys]; dsimp only; rw [hb]; rfl
  | none =>
  have e : ∀ τ (R' : Type) (K' : AV → St → Option R'), SameOb (app s.ids x.ids) σ τ → evs τ c.args.toList = [s, x] → aOp P Γ m nb o τ K' = aAppend P nb c.argTypes.toList s x τ K' := fun τ R' K' h2 h => by
    rw [e0 τ _ _ h, capAt_same (h2.sub fun i hi => by rw [app_eq]; exact List.mem_append_left _ hi), hq]
  rw [e σ _ _ (fun _ _ => rfl) hargs] at hr
  unfold aAppend at hr
  split at hr
  case h_2 => cases hr
  rename_i st xt hat
  split at hr
  case h_2 => cases hr
  rename_i el u0 he hint
  cases hz : zeroOk P el u0 with
  | false => rw [hz] at hr; cases hr
  | true =>
    rw [hz] at hr
    simp only [cond_true] at hr
    generalize hu : appTy u0 s x = u at hr
    split at hr
    case h_2 => cases hr
    rename_i ys hys
    have hay : ∀ τ, SameOb (app s.ids x.ids) σ τ → appended τ u x = some ys := fun τ h => by rw [appended_same (h.sub fun i hi => by rw [app_eq]; exact List.mem_append_right _ hi), hys]
    cases s with
    | tup l => cases hr
    | val sv =>
      cases sv with
      | agg cs => cases hr
      | one sc =>
        cases sc with
        | nils =>
          dsimp only at hr
          cases hb : Nat.ble (List.length ys) (lim P el) with
          | false => rw [hb] at hr; cases hr
          | true =>
            refine Fra.fixed (.val (.one (.own u nb))) [(nb, some ⟨true, .arr u ys .wr⟩)] nb_in (fun τ h1 h2 R' K' => ?_)
            rw [e τ _ _ h2 (hops τ h1)]; unfold aAppend; rw [hat]; dsimp only; rw [he, hint]; dsimp only; rw [hz]; simp only [cond_true]; rw [hu, hay τ h2]; dsimp only; rw [hb]; rfl
        | own u' id =>
          dsimp only at hr
          cases hob : σ.ob id with
          | none => rw [hob] at hr; cases hr
          | some oo =>
            cases oo with
            | box _ => rw [hob] at hr; cases hr
            | arr u'' xs mu =>
              rw [hob] at hr
              dsimp only at hr
              cases hb : mu.isSl && (u''.beq u && u'.beq u) with
              | false => rw [hb] at hr; cases hr
              | true =>
                rw [hb] at hr
                simp only [cond_true] at hr
                cases hto : (Ty.sl u'').to (.sl u) xs with
                | none => rw [hto] at hr; cases hr
                | some xs' =>
                  rw [hto] at hr
                  dsimp only at hr
                  cases hl : Nat.ble (List.length xs' + List.length ys) (lim P el) with
                  | false => rw [hl] at hr; cases hr
                  | true =>
                    refine Fra.fixed (.val (.one (.own u nb))) [(nb, some ⟨true, .arr u (xs' ++ ys) mu⟩), (id, none)] (fun i hi => ?_) (fun τ h1 h2 R' K' => ?_)
                    · simp [fsts] at hi
                      rcases hi with rfl | rfl
                      · simp
                      · simp [AV.ids, V1.cells, cellsIds, Cell.ids, app_eq]
                    · have k : τ.ob id = σ.ob id := h2 id (by rw [app_eq]; exact List.mem_append_left _ (by simp [AV.ids, V1.cells, cellsIds, Cell.ids, app_eq]))
                      rw [e τ _ _ h2 (hops τ h1)]; unfold aAppend; rw [hat]; dsimp only; rw [he, hint]; dsimp only; rw [hz]; simp only [cond_true]; rw [hu, hay τ h2]; dsimp only
                      rw [k, hob]; dsimp only; rw [hb]; simp only [cond_true]; rw [hto]; dsimp only; rw [hl]; rfl
        | _ => cases hr
end
end Go.Abs

/- Abs, part D6: what an operation does hangs on what it looks at alone: all operations. -/
namespace Go.Abs
section
variable {P : Program} {R : Type} {σ τ : St} {o : Oper} {r : R} {nb : Nat} {m : Fu} {Γ : List Summ}

theorem aWin_cps (q : Spc) (xs : List AV) (σ : St) (K : AV → Option R) : aWin m q xs σ K = (aWin m q xs σ some).bind K := by
  unfold aWin
  cases q with
  | win t fn =>
    dsimp only
    split
    · split
      · split
        · rename_i xs' _
          cases fn m (xs', _) <;> rfl
        · rfl
      · rfl
    · rfl
  | rd k fn =>
    dsimp only
    split
    · split
      · split
        · rename_i y _
          cases fn m (y, _) <;> rfl
        · rfl
      · rfl
    · rfl
theorem aWin_same {q : Spc} {xs : List AV} (h : SameOb (avIds xs) σ τ) {R : Type} (K : AV → Option R) : aWin m q xs τ K = aWin m q xs σ K := by
  unfold aWin
  cases q with
  | win t fn =>
    dsimp only
    split
    · rename_i e id n
      rw [h id (by simp [avIds, AV.ids, V1.cells, cellsIds, Cell.ids, app_eq])]
    · rfl
  | rd k fn =>
    dsimp only
    split
    · rename_i id n
      rw [h id (by simp [avIds, AV.ids, V1.cells, cellsIds, Cell.ids, app_eq])]
    · rfl

theorem mapAt_id {ka va : Bool} {k v : Ty} {x : AV} {id : Nat} {xs : List (k.den × v.den)} (h : mapAt σ ka k va v x = some (id, xs)) : id ∈ x.ids := by
  cases x with
  | tup l => cases h
  | val x => cases x with
    | agg cs => cases h
    | one c => cases c with
      | own t j =>
        simp only [mapAt] at h
        split at h
        · rename_i u ys ka' va' ho
          cases hb : (ka == ka') && (va == va') && u.beq (.pr k v) with
          | false => rw [hb] at h; cases h
          | true =>
            rw [hb] at h
            simp only [cond_true] at h
            split at h
            · cases h; simp [AV.ids, V1.cells, cellsIds, Cell.ids, app_eq]
            · cases h
        · cases h
      | _ => cases h

theorem aOp_fra {K : AV → St → Option R} (hr : aOp P Γ m nb o σ K = some r) {rd wr : List Nat} (hf : foot Γ nb o σ = some (rd, wr)) : ∃ v pre, Fra P Γ m o nb σ rd wr v pre := by
  unfold foot at hf
  have unf : ∀ τ (R' : Type) (K' : AV → St → Option R') op, o.op = op → aOp P Γ m nb o τ K' = aOp P Γ m nb { o with op := op } τ K' := fun τ R' K' op h => by subst h; rfl
  cases hop : o.op with
  | move x =>
    rw [hop] at hf; cases hf
    refine Fra.fixed (σ.ev x) [] (fun i hi => by cases hi) (fun τ h1 h2 R' K' => ?_)
    rw [unf τ R' K' _ hop]
    show K' (τ.ev x) τ = _
    rw [h1 x (by rw [hop]; simp [Op.operands])]; rfl
  | assign x =>
    rw [hop] at hf; cases hf
    refine Fra.fixed (σ.ev x) [] (fun i hi => by cases hi) (fun τ h1 h2 R' K' => ?_)
    rw [unf τ R' K' _ hop]
    show K' (τ.ev x) τ = _
    rw [h1 x (by rw [hop]; simp [Op.operands])]; rfl
  | pick c x y =>
    rw [hop] at hf; cases hf
    refine Fra.pure (G := fun R' τ K' => aPick (τ.ev c) (τ.ev x) (τ.ev y) K') (fun τ R' K' => by rw [unf τ R' K' _ hop]; rfl) (fun τ h1 h2 R' K' => ?_) hr
    rw [hop] at h1
    rw [h1 c (by simp [Op.operands]), h1 x (by simp [Op.operands]), h1 y (by simp [Op.operands])]
    exact aPick_cps _ _ _ K'
  | build t ps =>
    rw [hop] at hf; cases hf
    refine Fra.pure (G := fun R' τ K' => aBuild P t (evPs τ ps.toList) K') (fun τ R' K' => by rw [unf τ R' K' _ hop]; rfl) (fun τ h1 h2 R' K' => ?_) hr
    rw [hop] at h1
    rw [evPs_same (σ := σ) fun x hx => h1 x (by simpa [Op.operands] using hx)]
    exact aBuild_cps _ _ K'
  | binOp op xt x y yt =>
    rw [hop] at hf
    simp only at hf
    cases hnil : isNil (σ.ev x) (σ.ev y) with
    | true => rw [hnil] at hf; cases hf
    | false =>
      rw [hnil] at hf
      cases hf
      have hno : ∀ (R' : Type) (K' : AV → Option R') (els : Option R'), aNil P op xt (σ.ev x) (σ.ev y) K' els = els := fun R' K' els => by
        unfold aNil
        split <;> first | rfl | (rename_i h1 h2; rw [h1, h2] at hnil; cases hnil)
      refine Fra.pure (G := fun R' τ K' => aNil P op xt (τ.ev x) (τ.ev y) K' (aBin P op xt (τ.ev x) (τ.ev y) K')) (fun τ R' K' => by rw [unf τ R' K' _ hop]; rfl) (fun τ h1 h2 R' K' => ?_) hr
      rw [hop] at h1
      rw [h1 x (by simp [Op.operands]), h1 y (by simp [Op.operands]), hno, hno]
      exact aBin_cps _ _ _ _ K'
  | unOp op xt x =>
    rw [hop] at hf; cases hf
    refine Fra.pure (G := fun R' τ K' => aUn op (τ.ev x) K') (fun τ R' K' => by rw [unf τ R' K' _ hop]; rfl) (fun τ h1 h2 R' K' => ?_) hr
    rw [hop] at h1
    rw [h1 x (by simp [Op.operands])]
    exact aUn_cps _ _ K'
  | fieldAddr s x f =>
    rw [hop] at hf; cases hf
    refine Fra.pure (G := fun R' τ K' => aFieldAddr P s (τ.ev x) f K') (fun τ R' K' => by rw [unf τ R' K' _ hop]; rfl) (fun τ h1 h2 R' K' => ?_) hr
    rw [hop] at h1
    rw [h1 x (by simp [Op.operands])]
    exact aFieldAddr_cps _ _ _ K'
  | field s x f =>
    rw [hop] at hf; cases hf
    refine Fra.pure (G := fun R' τ K' => aField P s (τ.ev x) f K') (fun τ R' K' => by rw [unf τ R' K' _ hop]; rfl) (fun τ h1 h2 R' K' => ?_) hr
    rw [hop] at h1
    rw [h1 x (by simp [Op.operands])]
    exact aField_cps _ _ _ K'
  | index t x i =>
    rw [hop] at hf; cases hf
    refine Fra.pure (G := fun R' τ K' => aIndex P t (τ.ev x) (τ.ev i) K') (fun τ R' K' => by rw [unf τ R' K' _ hop]; rfl) (fun τ h1 h2 R' K' => ?_) hr
    rw [hop] at h1
    rw [h1 x (by simp [Op.operands]), h1 i (by simp [Op.operands])]
    exact aIndex_cps _ _ _ K'
  | extract x i =>
    rw [hop] at hf; cases hf
    refine Fra.pure (G := fun R' τ K' => aExtract (τ.ev x) i K') (fun τ R' K' => by rw [unf τ R' K' _ hop]; rfl) (fun τ h1 h2 R' K' => ?_) hr
    rw [hop] at h1
    rw [h1 x (by simp [Op.operands])]
    exact aExtract_cps _ _ K'
  | nilCheck x =>
    rw [hop] at hf; cases hf
    refine Fra.pure (G := fun R' τ K' => match τ.ev x with
      | .val (.one (.ptr i f)) => K' (.val (.one (.ptr i f)))
      | .val (.one (.vptr t d f)) => K' (.val (.one (.vptr t d f)))
      | .val (.one (.eptr t i j f)) => K' (.val (.one (.eptr t i j f)))
      | .val (.one (.fn f cs)) => K' (.val (.one (.fn f cs)))
      | _ => none) (fun τ R' K' => by rw [unf τ R' K' _ hop]; rfl) (fun τ h1 h2 R' K' => ?_) hr
    rw [hop] at h1
    rw [h1 x (by simp [Op.operands])]
    split <;> rfl
  | makeFunc f first caps =>
    rw [hop] at hf; cases hf
    refine Fra.pure (G := fun R' τ K' => match f with
      | .func f => (match first.toList, ptrsOf (evs τ caps.toList) with
        | [], some ps => K' (.val (.one (.fn f ps)))
        | _, _ => none)
      | _ => none) (fun τ R' K' => by rw [unf τ R' K' _ hop]; cases f <;> rfl) (fun τ h1 h2 R' K' => ?_) hr
    rw [hop] at h1
    rw [evs_same (σ := σ) fun x hx => h1 x (by simp [Op.operands]; simp at hx; exact .inr hx)]
    cases f with
    | func f => dsimp only; split <;> rfl
    | _ => rfl
  | load t a =>
    rw [hop] at hf; cases hf
    refine Fra.pure (G := fun R' τ K' => aLoad P t (τ.ev a) τ K') (fun τ R' K' => by rw [unf τ R' K' _ hop]; rfl) (fun τ h1 h2 R' K' => ?_) hr
    rw [hop] at h1
    rw [h1 a (by simp [Op.operands]), aLoad_same h2]
    exact aLoad_cps _ _ _ K'
  | indexAddr t x i =>
    rw [hop] at hf; cases hf
    refine Fra.pure (G := fun R' τ K' => aIndexAddr P t (τ.ev x) (τ.ev i) τ K') (fun τ R' K' => by rw [unf τ R' K' _ hop]; rfl) (fun τ h1 h2 R' K' => ?_) hr
    rw [hop] at h1
    rw [h1 x (by simp [Op.operands]), h1 i (by simp [Op.operands]), aIndexAddr_same h2]
    exact aIndexAddr_cps _ _ _ _ K'
  | alloc t =>
    rw [hop] at hf; cases hf
    rw [unf σ R K _ hop] at hr
    change (match zeroVals P t with | some z => K (.val (.one (.ptr nb 0))) (σ.set nb (.box (z.map Cell.ofValue))) | none => none) = some r at hr
    cases hz : zeroVals P t with
    | none => rw [hz] at hr; cases hr
    | some z =>
      refine Fra.fixed (.val (.one (.ptr nb 0))) [(nb, some ⟨true, .box (z.map Cell.ofValue)⟩)] nb_in (fun τ h1 h2 R' K' => ?_)
      rw [unf τ R' K' _ hop]
      show (match zeroVals P t with | some z => K' (.val (.one (.ptr nb 0))) (τ.set nb (.box (z.map Cell.ofValue))) | none => none) = _
      rw [hz]; rfl
  | box t x =>
    rw [hop] at hf; cases hf
    rw [unf σ R K _ hop] at hr
    change (match σ.ev x with | .val v => bif storB v.cells then K (.val (.one (.ptr nb 0))) (σ.set nb (.box v.cells)) else none | _ => none) = some r at hr
    cases hx : σ.ev x with
    | tup l => rw [hx] at hr; cases hr
    | val v =>
      rw [hx] at hr
      dsimp only at hr
      cases hs : storB v.cells with
      | false => rw [hs] at hr; cases hr
      | true =>
        refine Fra.fixed (.val (.one (.ptr nb 0))) [(nb, some ⟨true, .box v.cells⟩)] nb_in (fun τ h1 h2 R' K' => ?_)
        rw [unf τ R' K' _ hop]
        show (match τ.ev x with | .val v => bif storB v.cells then K' (.val (.one (.ptr nb 0))) (τ.set nb (.box v.cells)) else none | _ => none) = _
        rw [h1 x (by rw [hop]; simp [Op.operands]), hx]
        dsimp only
        rw [hs]; rfl
  | store t a x => rw [hop] at hf; cases hf; exact storeFra hop hr
  | convert s d x => rw [hop] at hf; cases hf; exact convertFra hop hr
  | slice t x lo hi mx => rw [hop] at hf; cases hf; exact sliceFra hop hr
  | makeSlice t l c => rw [hop] at hf; cases hf; exact makeSliceFra hop hr
  | buildSlice t n ps => rw [hop] at hf; cases hf; exact buildSliceFra hop hr
  | call c =>
    rw [hop] at hf
    dsimp only at hf
    have hargs : ∀ τ : St, (∀ x ∈ o.op.operands.toList, τ.ev x = σ.ev x) → evs τ c.args.toList = evs σ c.args.toList := fun τ h => evs_same fun y hy => h y (by
      rw [hop]; simp only [Op.operands, Call.operands]; simp at hy ⊢; exact .inr hy)
    cases hc : c.callee with
    | invoke a b => rw [hc] at hf; cases hf
    | value f =>
      rw [hc] at hf
      dsimp only at hf
      split at hf
      · rename_i g hfe
        cases hwin : winOf g Γ with
        | some q =>
          rw [hwin] at hf
          cases hf
          have h4 : ∀ τ : St, (∀ x ∈ o.op.operands.toList, τ.ev x = σ.ev x) → τ.ev f = σ.ev f := fun τ h1 => h1 f (by rw [hop]; simp [Op.operands, Call.operands, hc])
          have key : ∀ τ, (∀ x ∈ o.op.operands.toList, τ.ev x = σ.ev x) → SameOb (avIds (evs σ c.args.toList)) σ τ → ∀ (R' : Type) (K' : AV → St → Option R'), aOp P Γ m nb o τ K' = (aWin m q (evs σ c.args.toList) σ some).bind fun v => K' v τ := fun τ h1 h2 R' K' => by
            unfold aOp
            rw [hop]
            dsimp only
            rw [hc]
            dsimp only
            rw [h4 τ h1, hfe]
            dsimp only
            rw [hwin]
            dsimp only
            rw [hargs τ h1, aWin_same h2]
            exact aWin_cps _ _ _ _
          have h0 := key σ (fun _ _ => rfl) (fun _ _ => rfl) R K
          rw [h0] at hr
          cases hv : aWin m q (evs σ c.args.toList) σ some with
          | none => rw [hv] at hr; cases hr
          | some v => exact ⟨v, [], (fun i hi => by cases hi), (fun τ h1 h2 R' K' => by rw [key τ h1 h2, hv]; rfl), NoClean.nil⟩
        | none =>
        rw [hwin] at hf
        cases hb : valCalls g Γ with
        | false => rw [hb] at hf; cases hf
        | true =>
          rw [hb] at hf
          cases hf
          obtain ⟨res, k1, k2⟩ := aCallF_shape (m := m) (xs := evs σ c.args.toList) nb σ hb
          have key : ∀ τ, (∀ x ∈ o.op.operands.toList, τ.ev x = σ.ev x) → SameOb (deepIds σ (avIds (evs σ c.args.toList))) σ τ → ∀ (R' : Type) (K' : AV → St → Option R'), aOp P Γ m nb o τ K' = res.bind fun y => K' y.1 (addHp τ y.2) := fun τ h1 h2 R' K' => by
            have h3 := hargs τ h1
            have h4 : τ.ev f = σ.ev f := h1 f (by rw [hop]; simp [Op.operands, Call.operands, hc])
            unfold aOp
            rw [hop]
            dsimp only
            rw [hc]
            dsimp only
            rw [h4, hfe]
            dsimp only
            rw [hwin]
            dsimp only
            rw [h3, app_eq]
            simp only [capAVs, List.append_nil]
            exact k1 τ h2 R' K'
          have h0 := key σ (fun _ _ => rfl) (fun _ _ => rfl) R K
          rw [h0] at hr
          cases hv : res with
          | none => rw [hv] at hr; cases hr
          | some y =>
            obtain ⟨c1, c2⟩ := k2 y hv
            refine ⟨y.1, y.2, fun i hi => ?_, fun τ h1 h2 R' K' => by rw [key τ h1 h2, hv]; rfl, c2⟩
            show i ∈ callWr g Γ nb (deepIds σ (avIds (evs σ c.args.toList)))
            simp only [callWr, app_eq, List.mem_append]
            rcases c1 i hi with ⟨d1, d2⟩ | ⟨d1, d2⟩
            · exact .inl (by rw [d1]; exact d2)
            · exact .inr (by rw [d1]; exact d2)
      · cases hf
    | builtin b =>
      rw [hc] at hf
      cases b with
      | len =>
        dsimp only at hf
        split at hf
        · rename_i x hx
          cases hf
          refine Fra.pure (G := fun R' τ K' => match evs τ c.args.toList, c.argTypes.toList with
            | [x], [t] => match P.underlying t with
              | some (.map _ _) => aLenMap P t x τ K'
              | _ => aLen P t x τ K'
            | _, _ => none) (fun τ R' K' => by unfold aOp; rw [hop]; dsimp only; rw [hc]; rfl) (fun τ h1 h2 R' K' => ?_) hr
          rw [hargs τ h1, hx]
          cases c.argTypes.toList with
          | nil => rfl
          | cons t l => cases l with
            | nil =>
              dsimp only
              split
              · rw [aLenMap_same h2]; exact aLenMap_cps _ _ _ K'
              · rw [aLen_same h2]; exact aLen_cps _ _ _ K'
            | cons _ _ => rfl
        · cases hf
      | append =>
        dsimp only at hf
        split at hf
        · rename_i s x hx
          cases hf
          exact appendFra hop hc hx hr
        · cases hf
      | max =>
        cases hf
        refine Fra.pure (G := fun R' τ K' => aMinMax mxI (evs τ c.args.toList) K') (fun τ R' K' => by unfold aOp; rw [hop]; dsimp only; rw [hc]) (fun τ h1 h2 R' K' => ?_) hr
        rw [hargs τ h1]
        exact aMinMax_cps _ _ K'
      | min =>
        cases hf
        refine Fra.pure (G := fun R' τ K' => aMinMax mnI (evs τ c.args.toList) K') (fun τ R' K' => by unfold aOp; rw [hop]; dsimp only; rw [hc]) (fun τ h1 h2 R' K' => ?_) hr
        rw [hargs τ h1]
        exact aMinMax_cps _ _ K'
      | delete =>
        dsimp only at hf
        split at hf
        · rename_i x y hx
          cases hf
          have e : ∀ τ (R' : Type) (K' : AV → St → Option R'), (∀ z ∈ o.op.operands.toList, τ.ev z = σ.ev z) → aOp P Γ m nb o τ K' = (match c.argTypes.toList with
              | t :: _ => aDelete P t x y τ fun σ' => K' (.val (.one .skip)) σ'
              | _ => none) := fun τ R' K' h1 => by
            unfold aOp; rw [hop]; dsimp only; rw [hc]; dsimp only
            rw [hargs τ h1, hx]
            cases c.argTypes.toList <;> rfl
          rw [e σ R K (fun _ _ => rfl)] at hr
          cases hat : c.argTypes.toList with
          | nil => rw [hat] at hr; cases hr
          | cons t tl =>
            rw [hat] at hr
            dsimp only at hr
            unfold aDelete at hr
            split at hr
            case h_2 => cases hr
            rename_i ka k va v hmo
            split at hr
            case h_2 => cases hr
            rename_i id xs kx hma hel
            refine Fra.fixed (.val (.one .skip)) [(id, some ⟨true, .arr (.pr k v) (mdel (keyEq k) xs kx) (.mp ka va)⟩)] (fun i hi => ?_) (fun τ h1 h2 R' K' => ?_)
            · have : i = id := by simpa [fsts] using hi
              subst this
              exact mapAt_id hma
            · rw [e τ R' K' h1, hat]
              dsimp only
              unfold aDelete
              rw [hmo]
              dsimp only
              rw [mapAt_same (σ := σ) (h2.sub fun i hi => by rw [app_eq]; exact List.mem_append_left _ hi), elAt_same (σ := σ) (h2.sub fun i hi => by rw [app_eq]; exact List.mem_append_right _ hi), hma, hel]
              rfl
        · cases hf
      | copy =>
        dsimp only at hf
        split at hf
        · rename_i d x hx
          cases hf
          have e : ∀ τ (R' : Type) (K' : AV → St → Option R'), (∀ z ∈ o.op.operands.toList, τ.ev z = σ.ev z) → aOp P Γ m nb o τ K' = aCopy P c.argTypes.toList d x τ K' := fun τ R' K' h1 => by
            unfold aOp; rw [hop]; dsimp only; rw [hc]; dsimp only
            rw [hargs τ h1, hx]
          rw [e σ R K (fun _ _ => rfl)] at hr
          unfold aCopy at hr
          split at hr
          case h_2 => cases hr
          rename_i dt xt t id lo n t' ys hat
          split at hr
          case h_2 => cases hr
          rename_i el u t0 xs ys' he hob hys
          cases hb : (t.beq u && t0.beq t && Nat.beq u.sz 1) && (Nat.ble (lo + n) (List.length xs) && (Nat.beq (List.length ys') n && Nat.ble n 4294967296)) with
          | false => rw [hb] at hr; cases hr
          | true =>
            rw [hb] at hr
            simp only [cond_true] at hr
            split at hr
            case h_2 => cases hr
            rename_i zs hzs
            refine Fra.fixed (one (.int .i64) (n : Int)) [(id, some ⟨true, .arr t0 (List.take lo xs ++ zs ++ List.drop (lo + n) xs) .wr⟩)] (fun i hi => ?_) (fun τ h1 h2 R' K' => ?_)
            · have : i = id := by simpa [fsts] using hi
              subst this
              simp [AV.ids, V1.cells, cellsIds, Cell.ids, app_eq]
            · rw [e τ R' K' h1, hat]
              unfold aCopy
              dsimp only
              rw [he, h2 id (by simp [AV.ids, V1.cells, cellsIds, Cell.ids, app_eq]), hob, hys]
              dsimp only
              rw [hb]
              simp only [cond_true]
              rw [hzs]
              rfl
        · cases hf
      | _ => cases hf
  | mapUpdate t x y z =>
    rw [hop] at hf; cases hf
    have e : ∀ τ (R' : Type) (K' : AV → St → Option R'), (∀ z ∈ o.op.operands.toList, τ.ev z = σ.ev z) → aOp P Γ m nb o τ K' = aMapUpdate P t (σ.ev x) (σ.ev y) (σ.ev z) τ fun σ' => K' (.val (.one .skip)) σ' := fun τ R' K' h1 => by
      rw [unf τ R' K' _ hop]
      rw [hop] at h1
      rw [← h1 x (by simp [Op.operands]), ← h1 y (by simp [Op.operands]), ← h1 z (by simp [Op.operands])]
      rfl
    rw [e σ R K (fun _ _ => rfl)] at hr
    unfold aMapUpdate at hr
    split at hr
    case h_2 => cases hr
    rename_i ka k va v hmo
    split at hr
    case h_2 => cases hr
    rename_i id xs kx vy hma hel1 hel2
    cases hb : Nat.blt xs.length 4294967296 with
    | false => rw [hb] at hr; cases hr
    | true =>
      refine Fra.fixed (.val (.one .skip)) [(id, some ⟨true, .arr (.pr k v) (mset (keyEq k) xs kx vy) (.mp ka va)⟩)] (fun i hi => ?_) (fun τ h1 h2 R' K' => ?_)
      · have : i = id := by simpa [fsts] using hi
        subst this
        exact mapAt_id hma
      · rw [e τ R' K' h1]
        unfold aMapUpdate
        rw [hmo]
        dsimp only
        rw [mapAt_same (σ := σ) (h2.sub fun i hi => by rw [app_eq]; exact List.mem_append_left _ hi), elAt_same (σ := σ) (x := σ.ev y) (h2.sub fun i hi => by simp only [app_eq, List.mem_append]; exact .inr (.inl hi)), elAt_same (σ := σ) (x := σ.ev z) (h2.sub fun i hi => by simp only [app_eq, List.mem_append]; exact .inr (.inr hi)), hma, hel1, hel2]
        dsimp only
        rw [hb]
        rfl
  | lookup t x y okb =>
    rw [hop] at hf; cases hf
    refine Fra.pure (G := fun R' τ K' => aLookup P t (τ.ev x) (τ.ev y) okb τ K') (fun τ R' K' => by rw [unf τ R' K' _ hop]; rfl) (fun τ h1 h2 R' K' => ?_) hr
    rw [hop] at h1
    rw [h1 x (by simp [Op.operands]), h1 y (by simp [Op.operands])]
    rw [aLookup_same (h2.sub fun i hi => by rw [app_eq]; exact List.mem_append_left _ hi) (h2.sub fun i hi => by rw [app_eq]; exact List.mem_append_right _ hi)]
    exact aLookup_cps _ _ _ _ _ K'
  | _ => rw [hop] at hf; cases hf
end
end Go.Abs

/- Abs, part D7: operations that change places. -/
namespace Go.Abs

/-- Two states that say the same. -/
structure Eqv (σ τ : St) : Prop where
  tm : ∀ t, σ.get t = τ.get t
  ob : ∀ i, σ.ob i = τ.ob i
  n : σ.n = τ.n
theorem Eqv.refl (σ : St) : Eqv σ σ := ⟨fun _ => rfl, fun _ => rfl, rfl⟩
theorem Eqv.symm {σ τ : St} (h : Eqv σ τ) : Eqv τ σ := ⟨fun t => (h.tm t).symm, fun i => (h.ob i).symm, h.n.symm⟩
theorem Eqv.trans {a b c : St} (h : Eqv a b) (k : Eqv b c) : Eqv a c := ⟨fun t => (h.tm t).trans (k.tm t), fun i => (h.ob i).trans (k.ob i), h.n.trans k.n⟩
theorem Eqv.put {σ τ : St} (h : Eqv σ τ) (d : Option Nat) (v : AV) : Eqv (σ.put d v) (τ.put d v) := by
  cases d with
  | none => exact h
  | some d => exact ⟨fun t => by rw [St.get_put, St.get_put, h.tm], fun i => by rw [St.ob_put, St.ob_put, h.ob], h.n⟩
theorem Eqv.add {σ τ : St} (h : Eqv σ τ) (pre : List (Nat × Option Ob)) : Eqv (addHp σ pre) (addHp τ pre) :=
  ⟨h.tm, fun i => by rw [addHp_ob, addHp_ob, h.ob], h.n⟩
theorem Eqv.ev {σ τ : St} (h : Eqv σ τ) (x : Operand) : σ.ev x = τ.ev x := by cases x <;> first | exact h.tm _ | rfl

theorem anyTmp_mem : ∀ {l : List Operand} {t : Nat}, Operand.tmp t ∈ l → anyTmp t l = true
  | [], _, h => by cases h
  | x :: r, t, h => by
    rcases List.mem_cons.1 h with rfl | h
    · simp [anyTmp]
    · have := anyTmp_mem h
      cases x <;> simp [anyTmp, this]

section
variable {P : Program} {R : Type} {F : Fr} {ι : Nat → Value} {ok : Ok} {N : Nat → Prop} {σ τ : St} {a : Act} {w : World} {o : Oper} {r : R} {m : Fu} {Γ : List Summ} {all : List Oper}

/-- Is an operation carried out? -/
def wantS (all : List Oper) (o : Oper) (σ : St) : Option Bool := match o.guard with
  | none => some true
  | some (j, want) => match guardTmp all j with
    | some t => match σ.get t with
      | .val (.one (.dat .bool b)) => some (b == want)
      | .val (.one .skip) => some false
      | _ => none
    | none => none

/-- One operation. -/
inductive StepR (P : Program) (Γ : List Summ) (m : Fu) (all : List Oper) (base : Nat) (i : Nat) (f : List Nat × List Nat) (σ σ' : St) : Prop
  | go (o : Oper) (h0 : all[i]? = some o) (hw : wantS all o σ = some true) (hf : foot Γ (base + 16 * i) o σ = some f) (v : AV) (pre : List (Nat × Option Ob)) (hF : Fra P Γ m o (base + 16 * i) σ f.1 f.2 v pre)
      (hd : ∀ d, o.dst = some d → d < σ.n) (he : Eqv σ' ((addHp σ pre).put o.dst v))
  | no (o : Oper) (h0 : all[i]? = some o) (hw : wantS all o σ = some false) (hf : f = ([], [])) (hd : ∀ d, o.dst = some d → d < σ.n) (he : Eqv σ' (σ.put o.dst (.val (.one .skip))))

theorem foot_same {nb : Nat} {fo : List Nat × List Nat} (h : ∀ x ∈ o.op.operands.toList, τ.ev x = σ.ev x) (hf : foot Γ nb o σ = some fo) (hob : SameOb fo.1 σ τ) : foot Γ nb o τ = some fo := by
  rw [← hf]
  unfold foot at hf ⊢
  cases hop : o.op with
  | load t a => rw [hop] at h; dsimp only; rw [h a (by simp [Op.operands])]
  | indexAddr t x i => rw [hop] at h; dsimp only; rw [h x (by simp [Op.operands])]
  | store t a x => rw [hop] at h; dsimp only; rw [h a (by simp [Op.operands]), h x (by simp [Op.operands])]
  | convert s d x => rw [hop] at h; dsimp only; rw [h x (by simp [Op.operands])]
  | lookup t x y okb => rw [hop] at h; dsimp only; rw [h x (by simp [Op.operands]), h y (by simp [Op.operands])]
  | mapUpdate t x y z => rw [hop] at h; dsimp only; rw [h x (by simp [Op.operands]), h y (by simp [Op.operands]), h z (by simp [Op.operands])]
  | binOp op xt x y yt => rw [hop] at h; dsimp only; rw [h x (by simp [Op.operands]), h y (by simp [Op.operands])]
  | slice t x lo hi mx => rw [hop] at h; dsimp only; rw [h x (by simp [Op.operands])]
  | buildSlice t n ps => rw [hop] at h; dsimp only; rw [evPs_same (σ := σ) fun x hx => h x (by simpa [Op.operands] using hx)]
  | call c =>
    rw [hop] at h hf
    dsimp only at hf ⊢
    have hargs : evs τ c.args.toList = evs σ c.args.toList := evs_same fun y hy => h y (by simp only [Op.operands, Call.operands]; simp at hy ⊢; exact .inr hy)
    rw [hargs]
    cases hc : c.callee with
    | value f =>
      rw [hc] at hf
      dsimp only at hf ⊢
      rw [h f (by simp [Op.operands, Call.operands, hc])]
      split at hf
      · rename_i g hfe
        cases hwin : winOf g Γ with
        | some q => rfl
        | none =>
        rw [hwin] at hf
        dsimp only
        cases hb : valCalls g Γ with
        | false => rw [hb] at hf; cases hf
        | true =>
          rw [hb] at hf
          cases hf
          rw [deepIds_same (hob.sub fun i hi => mem_deep.2 (.inl hi))]
      · cases hf
    | builtin b => cases b <;> rfl
    | _ => rfl
  | _ => rfl

theorem Fra.move {nb : Nat} {rd wr : List Nat} {v : AV} {pre : List (Nat × Option Ob)} (h : Fra P Γ m o nb σ rd wr v pre) (h1 : ∀ x ∈ o.op.operands.toList, τ.ev x = σ.ev x) (h2 : SameOb rd σ τ) : Fra P Γ m o nb τ rd wr v pre :=
  ⟨h.keys, (fun ρ k1 k2 => h.go ρ (fun x hx => (k1 x hx).trans (h1 x hx)) (fun i hi => (k2 i hi).trans (h2 i hi))), h.nc⟩

theorem wantS_same (h : ∀ t, looksB all o t = true → τ.get t = σ.get t) : wantS all o τ = wantS all o σ := by
  unfold wantS
  cases hg : o.guard with
  | none => rfl
  | some g =>
    obtain ⟨j, want⟩ := g
    dsimp only
    cases ht : guardTmp all j with
    | none => rfl
    | some t => dsimp only; rw [h t (by simp [looksB, hg, ht])]

theorem ev_same (h : ∀ t, looksB all o t = true → τ.get t = σ.get t) : ∀ x ∈ o.op.operands.toList, τ.ev x = σ.ev x := fun x hx => by
  cases x with
  | tmp t => exact h t (by
      simp only [looksB, Bool.or_eq_true]
      exact .inl (anyTmp_mem hx))
  | _ => rfl

/-- An operation that sees the same does the same. -/
theorem StepR.det {base i : Nat} {f : List Nat × List Nat} {σ' : St} (h : StepR P Γ m all base i f σ σ') (o : Oper) (h0 : all[i]? = some o) :
    ∃ v pre, Eqv σ' ((addHp σ pre).put o.dst v) ∧ (∀ j ∈ fsts pre, j ∈ f.2) ∧ ∀ τ, (∀ t, looksB all o t = true → τ.get t = σ.get t) → SameOb f.1 σ τ → τ.n = σ.n → StepR P Γ m all base i f τ ((addHp τ pre).put o.dst v) := by
  cases h with
  | go o' h0' hw hf v pre hF hd he =>
    have e : o' = o := Option.some.inj (h0'.symm.trans h0)
    subst e
    exact ⟨v, pre, he, hF.keys, fun τ hl hob hn => .go o' h0 (by rw [wantS_same hl]; exact hw) (foot_same (ev_same hl) hf hob) v pre (hF.move (ev_same hl) hob) (fun d hd' => by rw [hn]; exact hd d hd') (Eqv.refl _)⟩
  | no o' h0' hw hf hd he =>
    have e : o' = o := Option.some.inj (h0'.symm.trans h0)
    subst e
    exact ⟨.val (.one .skip), [], he, (fun j hj => by cases hj), fun τ hl hob hn => .no o' h0 (by rw [wantS_same hl]; exact hw) hf (fun d hd' => by rw [hn]; exact hd d hd') (Eqv.refl _)⟩

theorem StepR.conv {base i : Nat} {f : List Nat × List Nat} {σ' τ' : St} (h : StepR P Γ m all base i f σ σ') (he : Eqv τ' σ') : StepR P Γ m all base i f σ τ' := by
  cases h with
  | go o h0 hw hf v pre hF hd he' => exact .go o h0 hw hf v pre hF hd (he.trans he')
  | no o h0 hw hf hd he' => exact .no o h0 hw hf hd (he.trans he')

theorem StepR.eqv {base i : Nat} {f : List Nat × List Nat} {σ' : St} (h : StepR P Γ m all base i f σ σ') (he : Eqv τ σ) : StepR P Γ m all base i f τ σ' := by
  have hh : ∃ o, all[i]? = some o := by cases h with
    | go o h0 => exact ⟨o, h0⟩
    | no o h0 => exact ⟨o, h0⟩
  obtain ⟨o, h0⟩ := hh
  obtain ⟨v, pre, h2, _, h1⟩ := h.det o h0
  exact (h1 τ (fun t _ => he.tm t) (fun i _ => he.ob i) he.n).conv (h2.trans ((he.symm.add pre).put o.dst v))

def Disj (a b : List Nat) : Prop := ∀ i ∈ a, i ∉ b
/-- Two operations have nothing to do with one another. -/
structure Indep (all : List Oper) (x y : Oper) (f g : List Nat × List Nat) : Prop where
  t1 : ∀ d, x.dst = some d → looksB all y d = false ∧ y.dst ≠ some d
  t2 : ∀ d, y.dst = some d → looksB all x d = false
  o1 : Disj f.2 g.1
  o2 : Disj f.2 g.2
  o3 : Disj g.2 f.1

theorem put_get {σ : St} {d : Option Nat} {v : AV} {t : Nat} (h : d ≠ some t) : (σ.put d v).get t = σ.get t := by
  cases d with
  | none => rfl
  | some d => rw [St.get_put, if_neg (fun e => h (by rw [e]))]

theorem look_fsts {α : Type} : ∀ {l : List (Nat × α)} {i : Nat}, i ∉ fsts l → look l i = none
  | [], _, _ => rfl
  | (j, x) :: r, i, h => by
    simp only [fsts, List.mem_cons, not_or] at h
    rw [look_cons, if_neg (fun e => h.1 e.symm)]; exact look_fsts h.2

theorem addHp_other {pre : List (Nat × Option Ob)} {i : Nat} (h : i ∉ fsts pre) : (addHp σ pre).ob i = σ.ob i := by
  rw [addHp_ob, look_fsts h]

/-- They change places. -/
theorem StepR.swap {base i j : Nat} {f g : List Nat × List Nat} {σ1 σ2 : St} {x y : Oper} (hx : all[i]? = some x) (hy : all[j]? = some y) (hI : Indep all x y f g) (h1 : StepR P Γ m all base j g σ σ1) (h2 : StepR P Γ m all base i f σ1 σ2) :
    ∃ τ, StepR P Γ m all base i f σ τ ∧ StepR P Γ m all base j g τ σ2 := by
  obtain ⟨vy, py, a2, a3, a1⟩ := h1.det y hy
  have h2' := h2.eqv a2.symm
  obtain ⟨vx, px, b2, b3, b1⟩ := h2'.det x hx
  refine ⟨_, b1 σ (fun t ht => ?_) (fun k hk => ?_) (by rw [St.n_put]; rfl), (a1 ((addHp σ px).put x.dst vx) (fun t ht => ?_) (fun k hk => ?_) (by rw [St.n_put]; rfl)).conv (b2.trans ⟨fun t => ?_, fun k => ?_, ?_⟩)⟩
  · rw [put_get (fun e => by rw [hI.t2 t e] at ht; cases ht)]; rfl
  · rw [St.ob_put, addHp_other (fun hh => hI.o3 k (a3 k hh) hk)]
  · rw [put_get (fun e => by rw [(hI.t1 t e).1] at ht; cases ht)]; rfl
  · rw [St.ob_put, addHp_other (fun hh => hI.o1 k (b3 k hh) hk)]
  · have key : ∀ (d e : Option Nat), (∀ k, d = some k → e ≠ some k) → ((σ.put e vy).put d vx).get t = ((σ.put d vx).put e vy).get t := fun d e hde => by
      cases d with
      | none => rfl
      | some d =>
        cases e with
        | none => rfl
        | some e =>
          have : d ≠ e := fun h => hde d rfl (by rw [h])
          simp only [St.get_put]
          by_cases h1 : d = t
          · subst h1
            have hne : ¬ e = d := fun h => this h.symm
            simp [hne]
          · simp [h1]
    have := key x.dst y.dst (fun k hk => (hI.t1 k hk).2)
    cases hxd : x.dst <;> cases hyd : y.dst <;> rw [hxd, hyd] at this <;> exact this
  · rw [St.ob_put, St.ob_put, addHp_ob, addHp_ob, St.ob_put, St.ob_put, addHp_ob, addHp_ob]
    by_cases hk : k ∈ fsts px
    · have : k ∉ fsts py := fun hh => hI.o2 k (b3 k hk) (a3 k hh)
      rw [look_fsts this]
    · rw [look_fsts hk]
  · cases x.dst <;> cases y.dst <;> rfl
end
end Go.Abs

/- Abs, part D8: a region in any order. -/
namespace Go.Abs
section
variable {P : Program} {R : Type} {F : Fr} {ι : Nat → Value} {ok : Ok} {N : Nat → Prop} {σ τ : St} {a : Act} {w : World} {o : Oper} {r : R} {m : Fu} {Γ : List Summ} {all : List Oper}

/-- Operations, one behind the other. -/
def Chain (P : Program) (Γ : List Summ) (m : Fu) (all : List Oper) (base : Nat) (fs : Nat → List Nat × List Nat) : List Nat → St → St → Prop
  | [], σ, σf => Eqv σf σ
  | i :: l, σ, σf => ∃ σ1, StepR P Γ m all base i (fs i) σ σ1 ∧ Chain P Γ m all base fs l σ1 σf

theorem Chain.eqv {base : Nat} {fs : Nat → List Nat × List Nat} : ∀ {l : List Nat} {σ σf τ : St}, Chain P Γ m all base fs l σ σf → Eqv τ σ → Chain P Γ m all base fs l τ σf
  | [], σ, σf, _, h, he => (show Eqv σf σ from h).trans he.symm
  | _ :: _, _, _, _, ⟨σ1, h1, h2⟩, he => ⟨σ1, h1.eqv he, h2⟩

theorem Chain.fs_congr {base : Nat} {fs fs' : Nat → List Nat × List Nat} : ∀ {l : List Nat} {σ σf : St}, (∀ i ∈ l, fs' i = fs i) → Chain P Γ m all base fs l σ σf → Chain P Γ m all base fs' l σ σf
  | [], _, _, _, h => h
  | i :: l, σ, σf, hf, ⟨σ1, h1, h2⟩ => ⟨σ1, by rw [hf i (by simp)]; exact h1, Chain.fs_congr (fun j hj => hf j (by simp [hj])) h2⟩

def IndepAt (all : List Oper) (fs : Nat → List Nat × List Nat) (i j : Nat) : Prop := ∃ x y, all[i]? = some x ∧ all[j]? = some y ∧ Indep all x y (fs i) (fs j)

theorem Chain.front {base : Nat} {fs : Nat → List Nat × List Nat} {i : Nat} {l2 : List Nat} : ∀ {l1 : List Nat} {σ σf : St}, Chain P Γ m all base fs (l1 ++ i :: l2) σ σf → (∀ j ∈ l1, IndepAt all fs i j) → ∃ τ, StepR P Γ m all base i (fs i) σ τ ∧ Chain P Γ m all base fs (l1 ++ l2) τ σf
  | [], σ, σf, ⟨σ1, h1, h2⟩, _ => ⟨σ1, h1, h2⟩
  | j :: l1, σ, σf, ⟨σ1, h1, h2⟩, hI => by
    obtain ⟨τ1, k1, k2⟩ := Chain.front (l1 := l1) h2 (fun j hj => hI j (by simp [hj]))
    obtain ⟨x, y, hx, hy, hxy⟩ := hI j (by simp)
    obtain ⟨τ, s1, s2⟩ := StepR.swap hx hy hxy h1 k1
    exact ⟨τ, s1, τ1, s2, k2⟩

theorem Sim.eqv (h : Sim F ι ok N σ a w) (he : Eqv τ σ) : Sim F ι ok N τ a w where
  tms t := by rw [he.tm]; exact h.tms t
  objs id o hi := h.objs id o (by rw [← he.ob]; exact hi)
  apart i j o p b hi hj := h.apart i j o p b (by rw [← he.ob]; exact hi) (by rw [← he.ob]; exact hj)
  oks := h.oks
  keep := h.keep
  size := by rw [he.n]; exact h.size
  defs := h.defs
  pins := h.pins
  pls := h.pls

theorem want_ok {ops : Array Oper} (h : Sim F ι ok N σ a w) {b : Bool} (hw : wantS ops.toList o σ = some b) : Region.wanted o (yielded ops a.tmps) = b := by
  unfold wantS at hw
  cases hg : o.guard with
  | none => rw [hg] at hw; cases hw; simp [Region.wanted, hg]
  | some g =>
    obtain ⟨j, want⟩ := g
    rw [hg] at hw
    dsimp only at hw
    have hwt : Region.wanted o (yielded ops a.tmps) = (yielded ops a.tmps j == some want) := by simp [Region.wanted, hg]
    rw [hwt]
    cases ht : guardTmp ops.toList j with
    | none => rw [ht] at hw; cases hw
    | some t =>
      rw [ht] at hw
      dsimp only at hw
      obtain ⟨oj, hoj, hdj⟩ := guardTmp_some ht
      have hgt := h.tms t
      have hy : ∀ v, a.tmps.getD t undef = v → yielded ops a.tmps j = (match v with | .bool b => some b | _ => none) := fun v hv => by
        unfold yielded
        rw [← Array.getElem?_toList, hoj]
        simp only [Option.bind_some, hdj]
        rw [Array.getD_eq_getD_getElem?] at hv
        cases hx : a.tmps[t]? with
        | none => rw [hx] at hv; simp at hv; subst hv; rfl
        | some u => rw [hx] at hv; simp at hv; subst hv; cases u <;> rfl
      split at hw
      · rename_i c hc
        cases hw
        rw [hc] at hgt
        have hv : a.tmps.getD t undef = .bool c := by have : [a.tmps.getD t undef] = [.bool c] := hgt; simpa using this
        rw [hy _ hv]
        cases c <;> cases want <;> rfl
      · rename_i hc
        cases hw
        rw [hc] at hgt
        have hv : a.tmps.getD t undef = .tuple #[] := hgt
        rw [hy _ hv]
        rfl
      · cases hw

theorem StepR.sound (hΓ : ∀ S ∈ Γ, KnownAt P F S) {ops : Array Oper} {base i : Nat} {f : List Nat × List Nat} (hs : StepR P Γ m ops.toList base i f σ τ) (h : Sim F ι ok N σ a w) (hN : Fresh N (base + 16 * i)) {Q : Exit → Act → World → Prop} {K : Act → World → Prop}
    (hK : ∀ a' w' ι' ok' N', Sim F ι' ok' N' τ a' w' → (∀ k, N' k → span N (base + 16 * i) k) → K a' w') : wpOp P ops Q i K a w := by
  cases hs with
  | go o h0 hw hf v pre hF hd he =>
    have h0 : ops[i]? = some o := by rw [← Array.getElem?_toList]; exact h0
    unfold wpOp
    rw [h0]
    dsimp only
    rw [if_pos (want_ok h hw)]
    left
    have hgo := hF.go σ (fun _ _ => rfl) (fun _ _ => rfl) (AV × St) (fun v s => some (v, s))
    refine aOp_sound hΓ h hN hgo K Q (fun av σ1 v' w' ι' ok' h1 hv hf hKK => ?_)
    cases hKK
    refine hK _ w' ι' ok' _ ?_ (fun _ h => h)
    cases hdst : o.dst with
    | none => rw [hdst] at he; exact h1.eqv he
    | some d => rw [hdst] at he; exact (h1.put hv (hd d hdst)).eqv he
  | no o h0 hw hf hd he =>
    have h0 : ops[i]? = some o := by rw [← Array.getElem?_toList]; exact h0
    unfold wpOp
    rw [h0]
    dsimp only
    rw [if_neg (by rw [want_ok h hw]; simp)]
    refine hK _ w ι ok N ?_ (fun _ h => .inl h)
    cases hdst : o.dst with
    | none => rw [hdst] at he; exact h.eqv he
    | some d => rw [hdst] at he; exact (h.put (x := .val (.one .skip)) (v := undef) (rfl : undef = _) (hd d hdst)).eqv he

theorem bindsE_iff {j : Nat} : ∀ {l : List Edge}, bindsE j l = true ↔ ∃ e ∈ l, Region.binds .any e = true ∧ e.on = j
  | [] => by simp [bindsE]
  | e :: r => by
    simp only [bindsE, Bool.or_eq_true, Bool.and_eq_true, bindsE_iff (l := r), List.mem_cons]
    constructor
    · rintro (⟨h1, h2⟩ | ⟨e', h1, h2⟩)
      · exact ⟨e, .inl rfl, h1, Nat.eq_of_beq_eq_true h2⟩
      · exact ⟨e', .inr h1, h2⟩
    · rintro ⟨e', rfl | h1, h2, h3⟩
      · exact .inl ⟨h2, by rw [h3]; simp⟩
      · exact .inr ⟨e', h1, h2, h3⟩

theorem edgesE_spec {k : Nat} : ∀ {l : List Edge}, edgesE k l = true → ∀ e ∈ l, Region.binds .any e = true → e.on < k
  | [], _, e, h, _ => by cases h
  | x :: r, h, e, he, hb => by
    simp only [edgesE, Bool.and_eq_true, Bool.or_eq_true] at h
    rcases List.mem_cons.1 he with rfl | he
    · rcases h.1 with h1 | h1
      · rw [hb] at h1; cases h1
      · simpa using h1
    · exact edgesE_spec h.2 e he hb
theorem edgesB_spec : ∀ {l : List Oper} {k : Nat}, edgesB k l = true → ∀ i o, l[i]? = some o → ∀ e ∈ o.after, Region.binds .any e = true → e.on < k + i
  | [], _, _, i, o, h, _, _, _ => by simp at h
  | x :: r, k, h, i, o, hi, e, he, hb => by
    simp only [edgesB, Bool.and_eq_true] at h
    cases i with
    | zero =>
      simp at hi; subst hi
      exact edgesE_spec h.1 e (by simpa using he) hb
    | succ i =>
      have := edgesB_spec h.2 i o (by simpa using hi) e he hb
      omega

theorem viaE_of {all : List Oper} {j : Nat} : ∀ (f : Nat) {l : List Edge}, bindsE j l = true → viaE all j f l = true
  | 0, _, h => h
  | f + 1, l, h => by simp only [viaE, h, Bool.true_or]

/-- What is bound ahead is done, where with each done operation all that is bound ahead of it is. -/
theorem viaE_done {all : List Oper} {D : Nat → Prop} {j : Nat} (hd : ∀ k o, D k → all[k]? = some o → ∀ e ∈ o.after, Region.binds .any e = true → D e.on) :
    ∀ (f : Nat) {l : List Edge}, (∀ e ∈ l, Region.binds .any e = true → D e.on) → viaE all j f l = true → D j
  | 0, l, hl, h => by
    obtain ⟨e, he, h1, h2⟩ := bindsE_iff.1 h
    exact h2 ▸ hl e he h1
  | f + 1, l, hl, h => by
    simp only [viaE, Bool.or_eq_true] at h
    rcases h with h | h
    · obtain ⟨e, he, h1, h2⟩ := bindsE_iff.1 h
      exact h2 ▸ hl e he h1
    · obtain ⟨e, he, h1⟩ := List.any_eq_true.1 h
      simp only [Bool.and_eq_true] at h1
      obtain ⟨h1, h2⟩ := h1
      have hD := hl e he h1
      cases hy : all[e.on]? with
      | none => rw [hy] at h2; cases h2
      | some y =>
        rw [hy] at h2
        exact viaE_done hd f (fun e' he' hb' => hd e.on y hD hy e' (by simpa using he') hb') h2

/-- Whatever the order is: the end is the same. -/
theorem any_order (hΓ : ∀ S ∈ Γ, KnownAt P F S) {ops : Array Oper} {base : Nat} {fs : Nat → List Nat × List Nat} {σf : St} {Q : Exit → Act → World → Prop}
    (hedge : ∀ i o, ops.toList[i]? = some o → ∀ e ∈ o.after, Region.binds .any e = true → e.on < i)
    (hpair : ∀ i j x, j < i → ops.toList[i]? = some x → viaE ops.toList j 9 x.after.toList = true ∨ IndepAt ops.toList fs i j)
    (hQ : ∀ a w ι ok N, Sim F ι ok N σf a w → Below N (base + 16 * ops.size) → Q .normal a w) :
    ∀ (fuel : Nat) (listed : Array Bool) (l : List Nat) (σ : St) (a : Act) (w : World) (ι : Nat → Value) (ok : Ok) (N : Nat → Prop), listed.size = ops.size → l.length = fuel → l.Pairwise (· < ·) → (∀ i, i ∈ l ↔ i < ops.size ∧ listed.getD i true = false) →
      (∀ k o, listed.getD k true = true → ops.toList[k]? = some o → ∀ e ∈ o.after, Region.binds .any e = true → listed.getD e.on true = true) →
      Chain P Γ m ops.toList base fs l σ σf → Sim F ι ok N σ a w → (∀ i ∈ l, Fresh N (base + 16 * i)) → Below N (base + 16 * ops.size) → wpAny P .any ops Q fuel listed a w := by
  intro fuel
  have ready0 : ∀ (listed : Array Bool) (l : List Nat), listed.size = ops.size → l.Pairwise (· < ·) → (∀ i, i ∈ l ↔ i < ops.size ∧ listed.getD i true = false) → Region.ready .any ops listed = [] → l = [] := by
    intro listed l hsz hs hl hr
    cases l with
    | nil => rfl
    | cons i r =>
      exfalso
      have hi := (hl i).1 (by simp)
      have : i ∈ Region.ready .any ops listed := by
        rw [mem_ready]
        refine ⟨hi.2, ops[i]'hi.1, by simp [hi.1], fun e he hb => ?_⟩
        have hlt := hedge i (ops[i]'hi.1) (by rw [Array.getElem?_toList]; simp [hi.1]) e he hb
        have hnot : e.on ∉ i :: r := fun hm => by
          rcases List.mem_cons.1 hm with h | h
          · omega
          · have := (List.pairwise_cons.1 hs).1 _ h; omega
        have hlt2 : e.on < listed.size := by omega
        have h2 : ¬ (listed.getD e.on true = false) := fun hh => hnot ((hl e.on).2 ⟨by omega, hh⟩)
        have h3 : listed.getD e.on true = true := by cases hx : listed.getD e.on true <;> simp_all
        simpa [hlt2] using h3
      rw [hr] at this; cases this
  induction fuel with
  | zero =>
    intro listed l σ a w ι ok N hsz hlen hs hl hdn hc h hN hB
    have hl0 : l = [] := List.length_eq_zero_iff.1 hlen
    subst hl0
    refine ⟨?_, hQ a w ι ok N (h.eqv hc) hB⟩
    cases hr : Region.ready .any ops listed with
    | nil => rfl
    | cons i r =>
      have hm : i ∈ Region.ready .any ops listed := by rw [hr]; simp
      obtain ⟨h1, o, h2, _⟩ := mem_ready.1 hm
      have hlt := (Array.getElem?_eq_some_iff.1 h2).1
      have := (hl i).2 ⟨hlt, h1⟩
      cases this
  | succ fuel ih =>
    intro listed l σ a w ι ok N hsz hlen hs hl hdn hc h hN hB
    refine ⟨fun hr => ?_, fun i hi => ?_⟩
    · have := ready0 listed l hsz hs hl hr
      subst this; simp at hlen
    · obtain ⟨h1, o, h2, h3⟩ := mem_ready.1 hi
      have hlt := (Array.getElem?_eq_some_iff.1 h2).1
      have him := (hl i).2 ⟨hlt, h1⟩
      obtain ⟨l1, l2, e⟩ := List.append_of_mem him
      subst e
      have hs' := hs
      rw [List.pairwise_append] at hs
      obtain ⟨p1, p2, p3⟩ := hs
      rw [List.pairwise_cons] at p2
      obtain ⟨τ, s1, s2⟩ := Chain.front hc (fun j hj => by
        have hji := p3 j hj i (by simp)
        rcases hpair i j o hji (by rw [Array.getElem?_toList]; exact h2) with hb | hb
        · exfalso
          have hlisted : listed.getD j true = true := viaE_done (D := fun k => listed.getD k true = true) hdn 9 (fun e he hb1 => by
            have h4 := h3 e (by simpa using he) hb1
            have hlt2 := hedge i o (by rw [Array.getElem?_toList]; exact h2) e (by simpa using he) hb1
            have hjs : e.on < listed.size := by omega
            simpa [hjs] using h4) hb
          have := (hl j).1 (List.mem_append_left _ hj)
          rw [hlisted] at this
          cases this.2
        · exact hb)
      refine s1.sound hΓ h (hN i (by simp)) (fun a' w' ι' ok' N' t1 t2 => ?_)
      refine ih (listed.setIfInBounds i true) (l1 ++ l2) τ a' w' ι' ok' N' (by simpa using hsz) (by simp at hlen ⊢; omega) ?_ (fun k => ?_) (fun k y hk hy e he hb => ?_) s2 t1 (fun k hk j hj1 hj2 hj3 => ?_) (fun j hj => ?_)
      · rw [List.pairwise_append]
        exact ⟨p1, p2.2, fun x hx y hy => p3 x hx y (by simp [hy])⟩
      · have hmem : k ∈ l1 ++ i :: l2 ↔ k ∈ l1 ++ l2 ∨ k = i := by
          simp only [List.mem_append, List.mem_cons]
          constructor
          · rintro (h | h | h)
            · exact .inl (.inl h)
            · exact .inr h
            · exact .inl (.inr h)
          · rintro ((h | h) | h)
            · exact .inl h
            · exact .inr (.inr h)
            · exact .inr (.inl h)
        have hne : k ∈ l1 ++ l2 → k ≠ i := fun hk e => by
          subst e
          rcases List.mem_append.1 hk with hk | hk
          · have := p3 k hk k (by simp); omega
          · have := p2.1 k hk; omega
        have h4 := hl k
        rw [hmem] at h4
        by_cases e : k = i
        · subst e
          constructor
          · intro hk; exact absurd rfl (hne hk)
          · rintro ⟨hk1, hk2⟩
            have : k < listed.size := by omega
            simp [this] at hk2
        · rw [getD_set_ne true (fun h => e h.symm), ← h4]
          simp [e]
      · have hmon : ∀ n, listed.getD n true = true → (listed.setIfInBounds i true).getD n true = true := fun n hn => by
          by_cases e : n = i
          · subst e
            rw [Array.getD_eq_getD_getElem?, Array.getElem?_setIfInBounds]
            split <;> simp_all
          · rw [getD_set_ne true (fun h => e h.symm)]; exact hn
        refine hmon _ ?_
        by_cases ek : k = i
        · subst ek
          have hyo : y = o := by rw [Array.getElem?_toList] at hy; exact Option.some.inj (hy.symm.trans h2)
          subst hyo
          have h4 := h3 e (by simpa using he) hb
          have hlt2 := hedge k y hy e (by simpa using he) hb
          have hjs : e.on < listed.size := by omega
          simpa [hjs] using h4
        · rw [getD_set_ne true (fun h => ek h.symm)] at hk
          exact hdn k y hk hy e he hb
      · have hki : k ≠ i := fun e => by
          subst e
          rcases List.mem_append.1 hk with hk | hk
          · have := p3 k hk k (by simp); omega
          · have := p2.1 k hk; omega
        rcases t2 j hj3 with hh | hh
        · exact hN k (by rcases List.mem_append.1 hk with hk | hk; exact List.mem_append_left _ hk; exact List.mem_append_right _ (List.mem_cons_of_mem _ hk)) j hj1 hj2 hh
        · omega
      · rcases t2 j hj with hh | hh
        · exact hB j hh
        · omega
end
end Go.Abs

/- Abs, part D9: a region in any order, II. -/
namespace Go.Abs
section
variable {P : Program} {R : Type} {F : Fr} {ι : Nat → Value} {ok : Ok} {N : Nat → Prop} {σ τ : St} {a : Act} {w : World} {o : Oper} {r : R} {m : Fu} {Γ : List Summ} {all : List Oper}

theorem disjB_iff : ∀ {a b : List Nat}, disjB a b = true → Disj a b
  | [], b, _ => fun i hi => by cases hi
  | x :: r, b, h => by
    simp only [disjB, Bool.and_eq_true, Bool.not_eq_true'] at h
    intro i hi hb
    rcases List.mem_cons.1 hi with rfl | hi
    · rw [(memB_iff _ _).2 hb] at h; cases h.1
    · exact disjB_iff h.2 i hi hb

theorem apart_indep {x y : Oper} {f g : List Nat × List Nat} (h1 : apartB all x y = true) (h2 : disjB f.2 g.1 = true) (h3 : disjB f.2 g.2 = true) (h4 : disjB g.2 f.1 = true) : Indep all x y f g := by
  refine ⟨fun d hd => ?_, fun d hd => ?_, disjB_iff h2, disjB_iff h3, disjB_iff h4⟩
  · simp only [apartB, hd, Bool.and_eq_true, Bool.not_eq_true'] at h1
    refine ⟨h1.1.1, fun e => ?_⟩
    rw [e] at h1
    simp at h1
  · simp only [apartB, hd, Bool.and_eq_true, Bool.not_eq_true'] at h1
    exact h1.2

/-- What was looked at before. -/
def PrevOk (all : List Oper) (fs : Nat → List Nat × List Nat) (prev : List (Nat × Oper × List Nat × List Nat)) : Prop := ∀ j y rd wr, (j, y, rd, wr) ∈ prev → all[j]? = some y ∧ fs j = (rd, wr)

theorem okPrev_spec {x : Oper} {rd wr : List Nat} : ∀ {prev : List (Nat × Oper × List Nat × List Nat)}, okPrev all x rd wr prev = true → ∀ j y rd' wr', (j, y, rd', wr') ∈ prev → viaE all j 9 x.after.toList = true ∨ Indep all x y (rd, wr) (rd', wr')
  | [], _, _, _, _, _, h => by cases h
  | (j0, y0, rd0, wr0) :: r, h, j, y, rd', wr', hm => by
    simp only [okPrev, Bool.and_eq_true, Bool.or_eq_true] at h
    rcases List.mem_cons.1 hm with e | hm
    · cases e
      rcases h.1 with (h1 | h1) | h1
      · exact .inl (viaE_of 9 h1)
      · exact .inr (apart_indep h1.1.1.1 h1.1.1.2 h1.1.2 h1.2)
      · exact .inl h1
    · exact okPrev_spec h.2 j y rd' wr' hm

theorem aOper_run {nb : Nat} {f : List Nat × List Nat} (hf : foot Γ nb o σ = some f) {K : St → Option R} (hr : aOper P Γ m nb o σ K = some r) :
    ∃ v pre, Fra P Γ m o nb σ f.1 f.2 v pre ∧ (∀ d, o.dst = some d → d < σ.n) ∧ K ((addHp σ pre).put o.dst v) = some r := by
  unfold aOper at hr
  obtain ⟨v, pre, hF⟩ := aOp_fra hr (rd := f.1) (wr := f.2) hf
  rw [hF.go σ (fun _ _ => rfl) (fun _ _ => rfl)] at hr
  refine ⟨v, pre, hF, ?_⟩
  cases hd : o.dst with
  | none => rw [hd] at hr; exact ⟨(fun d h => by cases h), hr⟩
  | some d =>
    rw [hd] at hr
    dsimp only at hr
    cases hb : Nat.blt d σ.n with
    | false => rw [hb] at hr; cases hr
    | true =>
      rw [hb] at hr
      exact ⟨(fun e h => by cases h; simpa using hb), hr⟩

theorem aSkip_run {K : St → Option R} (hr : aSkip o σ K = some r) : (∀ d, o.dst = some d → d < σ.n) ∧ K (σ.put o.dst (.val (.one .skip))) = some r := by
  unfold aSkip at hr
  cases hd : o.dst with
  | none => rw [hd] at hr; exact ⟨(fun d h => by cases h), hr⟩
  | some d =>
    rw [hd] at hr
    dsimp only at hr
    cases hb : Nat.blt d σ.n with
    | false => rw [hb] at hr; cases hr
    | true =>
      rw [hb] at hr
      exact ⟨(fun e h => by cases h; simpa using hb), hr⟩

theorem put_eqv {σ : St} {t : Nat} {x : AV} (h : σ.get t = x) : Eqv (σ.put (some t) x) σ :=
  ⟨fun u => by
    rw [St.get_put]
    split
    · rename_i e; subst e; exact h.symm
    · rfl, fun i => St.ob_put _ _ _ _, rfl⟩

theorem addHp_frm {pre : List (Nat × Option Ob)} (h : NoClean pre) (ds : List Nat) (σ : St) : Frm ds σ (addHp σ pre) :=
  ⟨fun _ _ => rfl, rfl, fun i o ho => by
    unfold addHp at ho
    simp only [look_app] at ho
    cases hl : look pre i with
    | none => rw [hl] at ho; exact ho
    | some x => rw [hl] at ho; cases ho; exact absurd rfl (h _ (look_mem hl) o)⟩

theorem putO_frm {ds : List Nat} {d : Option Nat} (h : ∀ k, d = some k → k ∈ ds) (v : AV) (σ : St) : Frm ds σ (σ.put d v) := by
  cases d with
  | none => exact Frm.refl _ _
  | some d => exact Frm.put (h d rfl) v

/-- One operation of such a region. -/
theorem aStepD {base k : Nat} (h0 : all[k]? = some o) {prev : List (Nat × Oper × List Nat × List Nat)} {K : List Nat × List Nat → St → Option R}
    (hr : (let go (σ : St) := match foot Γ (base + 16 * k) o σ with
        | some (rd, wr) => bif okPrev all o rd wr prev then aOper P Γ m (base + 16 * k) o σ fun σ' => K (rd, wr) σ' else none
        | none => none
      let no (σ : St) := bif okPrev all o [] [] prev then aSkip o σ fun σ' => K ([], []) σ' else none
      match o.guard with
      | none => go σ
      | some (j, want) => match guardTmp all j with
        | some t => match σ.get t with
          | .val (.one (.dat .bool b)) => match want with
            | true => bif b then go (σ.put (some t) (one .bool true)) else no (σ.put (some t) (one .bool false))
            | false => bif b then no (σ.put (some t) (one .bool true)) else go (σ.put (some t) (one .bool false))
          | .val (.one .skip) => no σ
          | _ => none
        | none => none) = some r) :
    ∃ f σ1, StepR P Γ m all base k f σ σ1 ∧ okPrev all o f.1 f.2 prev = true ∧ K f σ1 = some r ∧ Frm (opDsts all) σ σ1 := by
  have hod : ∀ k, o.dst = some k → k ∈ opDsts all := fun k hk => mem_opDsts (List.mem_of_getElem? h0) hk
  have go : ∀ σ' : St, Eqv σ' σ → Frm (opDsts all) σ σ' → wantS all o σ = some true → (match foot Γ (base + 16 * k) o σ' with
        | some (rd, wr) => bif okPrev all o rd wr prev then aOper P Γ m (base + 16 * k) o σ' fun σ' => K (rd, wr) σ' else none
        | none => none) = some r → ∃ f σ1, StepR P Γ m all base k f σ σ1 ∧ okPrev all o f.1 f.2 prev = true ∧ K f σ1 = some r ∧ Frm (opDsts all) σ σ1 := by
    intro σ' he hfr hw hg
    cases hf : foot Γ (base + 16 * k) o σ' with
    | none => rw [hf] at hg; cases hg
    | some f =>
      obtain ⟨rd, wr⟩ := f
      rw [hf] at hg
      dsimp only at hg
      cases hp : okPrev all o rd wr prev with
      | false => rw [hp] at hg; cases hg
      | true =>
        rw [hp] at hg
        simp only [cond_true] at hg
        obtain ⟨v, pre, hF, hd, hK⟩ := aOper_run hf hg
        have hw' : wantS all o σ' = some true := by rw [wantS_same (σ := σ) fun t _ => he.tm t]; exact hw
        exact ⟨(rd, wr), _, StepR.eqv (.go o h0 hw' hf v pre hF hd (Eqv.refl _)) he.symm, hp, hK, hfr.trans' ((addHp_frm hF.nc _ _).trans' (putO_frm hod _ _))⟩
  have no : ∀ σ' : St, Eqv σ' σ → Frm (opDsts all) σ σ' → wantS all o σ = some false → (bif okPrev all o [] [] prev then aSkip o σ' fun σ' => K ([], []) σ' else none) = some r → ∃ f σ1, StepR P Γ m all base k f σ σ1 ∧ okPrev all o f.1 f.2 prev = true ∧ K f σ1 = some r ∧ Frm (opDsts all) σ σ1 := by
    intro σ' he hfr hw hg
    cases hp : okPrev all o [] [] prev with
    | false => rw [hp] at hg; cases hg
    | true =>
      rw [hp] at hg
      simp only [cond_true] at hg
      obtain ⟨hd, hK⟩ := aSkip_run hg
      have hw' : wantS all o σ' = some false := by rw [wantS_same (σ := σ) fun t _ => he.tm t]; exact hw
      exact ⟨([], []), _, StepR.eqv (.no o h0 hw' rfl hd (Eqv.refl _)) he.symm, hp, hK, hfr.trans' (putO_frm hod _ _)⟩
  dsimp only at hr
  cases hg : o.guard with
  | none =>
    rw [hg] at hr
    exact go σ (Eqv.refl _) (Frm.refl _ _) (by simp [wantS, hg]) hr
  | some gw =>
    obtain ⟨j, want⟩ := gw
    rw [hg] at hr
    dsimp only at hr
    cases ht : guardTmp all j with
    | none => rw [ht] at hr; cases hr
    | some t =>
      rw [ht] at hr
      dsimp only at hr
      have htd : ∀ x, Frm (opDsts all) σ (σ.put (some t) x) := fun x => by
        obtain ⟨oj, hoj, hdj⟩ := guardTmp_some ht
        exact Frm.put (mem_opDsts (List.mem_of_getElem? hoj) hdj) x
      split at hr
      · rename_i b hb
        have hw : wantS all o σ = some (b == want) := by simp [wantS, hg, ht, hb]
        cases want with
        | true =>
          dsimp only at hr
          cases b with
          | true => exact go _ (put_eqv hb) (htd _) hw hr
          | false => exact no _ (put_eqv hb) (htd _) hw hr
        | false =>
          dsimp only at hr
          cases b with
          | true => exact no _ (put_eqv hb) (htd _) hw hr
          | false => exact go _ (put_eqv hb) (htd _) hw hr
      · rename_i hb
        exact no σ (Eqv.refl _) (Frm.refl _ _) (by simp [wantS, hg, ht, hb]) hr
      · cases hr

theorem aOpsD_chain {base : Nat} {K : St → Option R} : ∀ {l : List Oper} {k : Nat} {σ : St} {prev : List (Nat × Oper × List Nat × List Nat)}, (∀ j, l[j]? = all[k + j]?) → (∀ j y rd wr, (j, y, rd, wr) ∈ prev → j < k ∧ all[j]? = some y) →
    (∀ j, j < k → ∃ y rd wr, (j, y, rd, wr) ∈ prev) → aOpsD P Γ m all l k (base + 16 * k) σ prev K = some r →
    ∃ fs σf, Chain P Γ m all base fs (List.range' k l.length) σ σf ∧ K σf = some r ∧ Frm (opDsts all) σ σf ∧
      ∀ (fs0 : Nat → List Nat × List Nat), (∀ j y rd wr, (j, y, rd, wr) ∈ prev → fs0 j = (rd, wr)) → ∀ i j x, j < i → k ≤ i → all[i]? = some x → viaE all j 9 x.after.toList = true ∨ IndepAt all (fun n => if n < k then fs0 n else fs n) i j
  | [], k, σ, prev, hl, hp, hall, hr => ⟨fun _ => ([], []), σ, Eqv.refl _, hr, Frm.refl _ _, fun fs0 _ i j x _ hik hx => by
      have := hl (i - k)
      rw [show k + (i - k) = i by omega, hx] at this
      simp at this⟩
  | o :: l, k, σ, prev, hl, hp, hall, hr => by
    have h0 : all[k]? = some o := by have := hl 0; simpa using this.symm
    obtain ⟨f, σ1, s1, s2, s3, s4⟩ := aStepD (K := fun f σ' => aOpsD P Γ m all l (k + 1) (base + 16 * k + 16) σ' ((k, o, f.1, f.2) :: prev) K) h0 hr
    rw [show base + 16 * k + 16 = base + 16 * (k + 1) by omega] at s3
    obtain ⟨fs, σf, c1, c2, c4, c3⟩ := aOpsD_chain (base := base) (l := l) (k := k + 1) (fun j => by have := hl (j + 1); rw [List.getElem?_cons_succ] at this; rw [this]; congr 1; omega)
      (fun j y rd wr hm => by
        rcases List.mem_cons.1 hm with e | hm
        · cases e; exact ⟨by omega, h0⟩
        · obtain ⟨h1, h2⟩ := hp j y rd wr hm; exact ⟨by omega, h2⟩)
      (fun j hj => by
        by_cases e : j = k
        · subst e; exact ⟨o, f.1, f.2, by simp⟩
        · obtain ⟨y, rd, wr, hm⟩ := hall j (by omega); exact ⟨y, rd, wr, by simp [hm]⟩) s3
    refine ⟨fun n => if n = k then f else fs n, σf, ⟨σ1, by simpa using s1, c1.fs_congr (fun i hi => ?_)⟩, c2, s4.trans' c4, fun fs0 hfs i j x hji hik hx => ?_⟩
    · have := List.mem_range'_1.1 hi
      rw [if_neg (by omega)]
    · have e1 : (fun n => if n < k + 1 then (if n < k then fs0 n else f) else fs n) = (fun n => if n < k then fs0 n else if n = k then f else fs n) := by
        funext n
        by_cases h1 : n < k
        · simp [h1, show n < k + 1 by omega]
        · by_cases h2 : n = k
          · subst h2; simp
          · simp [h1, h2, show ¬ n < k + 1 by omega]
      by_cases e : i = k
      · subst e
        have : x = o := Option.some.inj (hx.symm.trans h0)
        subst this
        obtain ⟨y, rd, wr, hm⟩ := hall j hji
        rcases okPrev_spec s2 j y rd wr hm with hb | hb
        · exact .inl hb
        · refine .inr ⟨x, y, h0, (hp j y rd wr hm).2, ?_⟩
          simp only [Nat.lt_irrefl, if_false, if_true, hji]
          rw [hfs j y rd wr hm]
          exact hb
      · have := c3 (fun n => if n < k then fs0 n else f) (fun j y rd wr hm => by
          rcases List.mem_cons.1 hm with e | hm
          · cases e; simp
          · obtain ⟨h1, _⟩ := hp j y rd wr hm
            simp only [h1, if_true]
            exact hfs j y rd wr hm) i j x hji (by omega) hx
        rw [e1] at this
        exact this
end
end Go.Abs

/- Abs, part Z0: results' values; functions that are gone through. -/
namespace Go.Abs
section
variable {P : Program} {R : Type} {F : Fr} {ι : Nat → Value} {ok : Ok} {N : Nat → Prop} {σ σ0 : St} {a : Act} {w : World} {o : Oper} {r : R}

def resF (tmps : Array Value) : ResultVar → Sem Value
  | .tmp t => pure (tmps.getD t undef)
  | .cell c t => do loadVar t (← asAddr (tmps.getD c undef))

theorem resGet_ok (h : Sim F ι ok N σ a w) : ∀ {rs : List ResultVar} {vs : List V1}, resGet P σ rs = some vs → ∃ us : List Value, (rs.mapM (resF a.tmps)).run P w = .ok us w ∧ All2 (RepV1 w ok ι N) vs us
  | [], vs, hg => by cases hg; exact ⟨[], by simp, trivial⟩
  | .tmp t :: r, vs, hg => by
    simp only [resGet] at hg
    split at hg
    · rename_i v l hv hl
      cases hg
      obtain ⟨us, h1, h2⟩ := resGet_ok h hl
      have ht := h.tms t
      rw [hv] at ht
      have hrun : (resF a.tmps (.tmp t)).run P w = .ok (a.tmps.getD t undef) w := by simp only [resF, Sem.run_pure]
      exact ⟨a.tmps.getD t undef :: us, by simp only [List.mapM_cons, Sem.run_bind, hrun, Result.andThen_ok, h1, Sem.run_pure], ⟨ht, h2⟩⟩
    · cases hg
  | .cell c t :: r, vs, hg => by
    simp only [resGet] at hg
    split at hg
    · rename_i v l hv hl
      cases hg
      obtain ⟨us, h1, h2⟩ := resGet_ok h hl
      obtain ⟨av, u, q1, q2, q3⟩ := aLoad_ok (P := P) h (h.tms c) hv
      cases q1
      have hrun : (resF a.tmps (.cell c t)).run P w = .ok u w := by
        unfold Instr.loadAt Instr.sureAddr at q2
        show (do loadVar t (← asAddr (a.tmps.getD c undef)) : Sem Value).run P w = .ok u w
        unfold asAddr
        generalize a.tmps.getD c undef = x at q2 ⊢
        cases x with
        | pointer A => cases A with
          | none => simp [stuck, Sem.run] at q2
          | some A => exact q2
        | _ => simp [stuck, Sem.run] at q2
      exact ⟨u :: us, by simp only [List.mapM_cons, Sem.run_bind, hrun, Result.andThen_ok, h1, Sem.run_pure], ⟨q3, h2⟩⟩
    · cases hg

theorem results_ok (h : Sim F ι ok N σ a w) {fn : Func} {vs : List V1} (hg : resGet P σ fn.results.toList = some vs) : ∃ us : List Value, (results fn a.tmps).run P w = .ok (tupV us) w ∧ All2 (RepV1 w ok ι N) vs us := by
  obtain ⟨us, h1, h2⟩ := resGet_ok h hg
  refine ⟨us, ?_, h2⟩
  have e : results fn a.tmps = (do let vs ← fn.results.mapM (resF a.tmps); pure (if h : vs.size = 1 then vs[0] else .tuple vs)) := by
    unfold results
    congr 1
  rw [e, Array.mapM_eq_mapM_toList, ← bind_pure_comp]
  simp only [Sem.run_bind, h1, Result.andThen_ok, Sem.run_pure]
  congr 1
  cases us with
  | nil => rfl
  | cons u us => cases us with
    | nil => rfl
    | cons _ _ => simp [tupV]
end

structure FrmI (σ σ' : St) : Prop where
  tm : σ'.tm = σ.tm
  n : σ'.n = σ.n
  hp : ∀ id o, look σ'.hp id = some (some ⟨false, o⟩) → look σ.hp id = some (some ⟨false, o⟩)

/-- What going through a function tells, in worlds that keep what was known at the start. -/
def InlAt (P : Program) (F : Fr) (I : Inl) : Prop :=
  ∀ {R : Type} (g : FuncId) (ann : List (Nat × Ann)) (args : List AV) (σ : St) (K : AV → St → Option R) (r : R), I g ann args σ K = some r →
    ∀ (ι : Nat → Value) (ok : Ok) (N : Nat → Prop) (a : Act) (w : World) (vs : List Value), Sim F ι ok N σ a w → Below N σ.nxt → All2 (RepAV w ok ι N) args vs →
    Ends P g vs.toArray w fun v w' => ∃ av σ' ι' ok' N', Sim F ι' ok' N' σ' a w' ∧ Below N' σ'.nxt ∧ RepAV w' ok' ι' N' av v ∧ FrmI σ σ' ∧ K av σ' = some r

/-- What going through a function tells. -/
def InlOk (P : Program) (I : Inl) : Prop := ∀ F : Fr, GOk P F.w0 F.ok0.p → InlAt P F I

theorem noInl_ok {P : Program} : InlOk P noInl := by
  intro F hG R g ann args σ K r h
  cases h

section
variable {P : Program} {R : Type} {F : Fr} {ι : Nat → Value} {ok : Ok} {N : Nat → Prop} {σ σ0 : St} {a : Act} {w : World} {o : Oper} {r : R}

theorem leads_inl {I : Inl} (hI : InlAt P F I) (h : Sim F ι ok N σ a w) (hN : Below N σ.nxt) {c : Call} (ho : o.op = .call c) {f : Operand} (hc : c.callee = .value f) {g : FuncId} {caps : List (Nat × Nat)} (hf : σ.ev f = .val (.one (.fn g caps)))
    {ann : List (Nat × Ann)} {K : AV → St → Option R} (hr : I g ann (app (evs σ c.args.toList) (capAVs caps)) σ K = some r) {next : Act → World → Prop} (Q : Exit → Act → World → Prop)
    (hn : ∀ av σ' v w' ι' ok' N', Sim F ι' ok' N' σ' a w' → Below N' σ'.nxt → RepAV w' ok' ι' N' av v → FrmI σ σ' → K av σ' = some r → next (a.put o.dst v) w') : o.wp P a w next Q := by
  have hfv := h.ev f
  rw [hf] at hfv
  obtain ⟨vsc, hfe, hcaps⟩ := hfv
  have hexec : ∀ w, (execOp a.eval o).run P w = (callFunc g (c.args.toList.map a.eval ++ vsc).toArray).run P w := fun w => by
    have e1 : (c.args.toList.map a.eval ++ vsc).toArray = c.args.map a.eval ++ vsc.toArray := by
      apply Array.ext'; simp
    rw [e1]
    simp [execOp, ho, resolve, hc, hfe, Deferred.ofValue, invoke]
  rw [app_eq] at hr
  have hargs : All2 (RepAV w ok ι N) (evs σ c.args.toList ++ capAVs caps) (c.args.toList.map a.eval ++ vsc) := All2.app (h.evs _) (capAVs_rep hcaps)
  have hE := hI g ann _ σ K r hr ι ok N a w _ h hN hargs
  unfold Oper.wp
  rw [hexec]
  unfold Ends at hE
  generalize (callFunc g (c.args.toList.map a.eval ++ vsc).toArray).run P w = res at hE ⊢
  cases res with
  | halt x w' => exact hE.elim
  | ok n w' =>
    cases n <;> simp only at hE
    case value v =>
      obtain ⟨av, σ', ι', ok', N', h1, h2, h3, h4, h5⟩ := hE
      exact hn av σ' v w' ι' ok' N' h1 h2 h3 h4 h5
    case enter g as =>
      refine Calls.mono hE ?_
      rintro e w'' ⟨v, he, av, σ', ι', ok', N', h1, h2, h3, h4, h5⟩
      subst he
      exact hn av σ' v w'' ι' ok' N' h1 h2 h3 h4 h5

theorem aOpsI_sound {I : Inl} (hI : InlAt P F I) {m : Fu} {Γ : List Summ} (hΓ : ∀ S ∈ Γ, KnownAt P F S) {ops : Array Oper} {rows : List (Nat × List (Nat × Ann))} {Q : Exit → Act → World → Prop} {K : St → Option R} : ∀ {l : List Oper} {k : Nat} {ι : Nat → Value} {ok : Ok} {N : Nat → Prop} {σ : St} {a : Act} {w : World},
    (∀ j, l[j]? = ops.toList[k + j]?) → Sim F ι ok N σ a w → Below N σ.nxt → aOpsI I P Γ m ops.toList rows l k σ K = some r →
    (∀ σ' a' w' ι' ok' N', Sim F ι' ok' N' σ' a' w' → Below N' σ'.nxt → Frm (opDsts ops.toList) σ σ' → K σ' = some r → Q .normal a' w') → wpOps P ops Q (List.range' k l.length) a w
  | [], k, ι, ok, N, σ, a, w, _, h, hN, hr, hQ => hQ σ a w ι ok N h hN (Frm.refl _ _) hr
  | o :: l, k, ι, ok, N, σ, a, w, hl, h, hN, hr, hQ => by
    have h0 : ops[k]? = some o := by have := hl 0; simpa using this.symm
    have hmem : o ∈ ops.toList := by rw [List.mem_iff_getElem?]; exact ⟨k, by rw [Array.getElem?_toList]; exact h0⟩
    have hl' : ∀ j, l[j]? = ops.toList[k + 1 + j]? := fun j => by have := hl (j + 1); rw [List.getElem?_cons_succ] at this; rw [this]; congr 1; omega
    rw [List.length_cons, List.range'_succ, wpOps]
    rw [h0]
    dsimp only
    unfold aOpsI at hr
    split at hr
    · refine aStep_sound hΓ h hN hr hmem Q (fun σ' a' w' ι' ok' N' s1 s2 s3 s4 => ?_)
      have s1' : Sim F ι' ok' N' { σ' with nxt := σ.nxt + 16 } a' w' := ⟨s1.tms, s1.objs, s1.apart, s1.oks, s1.keep, s1.size, s1.defs, s1.pins, s1.pls⟩
      refine aOpsI_sound hI hΓ hl' s1' s2 s4 (fun σ2 a2 w2 ι2 ok2 N2 t1 t2 t3 t4 => ?_)
      exact hQ σ2 a2 w2 ι2 ok2 N2 t1 t2 (s3.trans' ⟨t3.tm, t3.n, t3.hp⟩) t4
    · split at hr
      · cases hr
      · rename_i hg
        split at hr
        · rename_i c hop
          split at hr
          · rename_i f hc
            split at hr
            · rename_i g caps hf
              have hw : Region.wanted o (yielded ops a.tmps) = true := by simp [Region.wanted, hg]
              rw [if_pos hw]
              refine .inl (leads_inl hI h hN hop hc hf hr Q (fun av σ' v w' ι' ok' N' h1 h2 h3 h4 h5 => ?_))
              cases hd : o.dst with
              | none =>
                rw [hd] at h5
                refine aOpsI_sound hI hΓ hl' (σ := σ') (a := a.put none v) h1 h2 h5 (fun σ2 a2 w2 ι2 ok2 N2 t1 t2 t3 t4 => hQ σ2 a2 w2 ι2 ok2 N2 t1 t2 ?_ t4)
                exact ⟨fun t ht => (t3.tm t ht).trans (by simp [St.get, h4.tm]), t3.n.trans h4.n, fun i o ho => h4.hp i o (t3.hp i o ho)⟩
              | some d =>
                rw [hd] at h5
                dsimp only at h5
                cases hb : Nat.blt d σ.n with
                | false => simp [hb] at h5
                | true =>
                  simp only [hb, cond_true] at h5
                  have hdn : d < σ'.n := by rw [h4.n]; simpa using hb
                  have h1' := h1.put h3 hdn
                  refine aOpsI_sound hI hΓ hl' (σ := σ'.put (some d) av) (a := a.put (some d) v) h1' h2 h5 (fun σ2 a2 w2 ι2 ok2 N2 t1 t2 t3 t4 => hQ σ2 a2 w2 ι2 ok2 N2 t1 t2 ?_ t4)
                  refine ⟨fun t ht => (t3.tm t ht).trans ?_, t3.n.trans h4.n, fun i o ho => h4.hp i o (t3.hp i o ho)⟩
                  rw [St.get_put, if_neg (fun e : d = t => ht (by subst e; exact mem_opDsts hmem hd))]
                  simp [St.get, h4.tm]
            · cases hr
          · cases hr
        · cases hr
end
end Go.Abs

/- Abs, part Za: code. -/
namespace Go.Abs

def exitOf : AX → Exit
  | .normal => .normal
  | .exit i => .exit i
  | .ret => .ret

/-- A run tells what the code does. -/
def RunOk (P : Program) (c : Code) (ds : List Nat) (run : Run) : Prop :=
  ∀ {R : Type} (F : Fr) (ι : Nat → Value) (ok : Ok) (N : Nat → Prop) (σ : St) (a : Act) (w : World) (K : AX → St → Option R) (r : R), GOk P F.w0 F.ok0.p → Sim F ι ok N σ a w → Below N σ.nxt → run σ K = some r →
    ∀ Q : Exit → Act → World → Prop, (∀ e σ' a' w' ι' ok' N', Sim F ι' ok' N' σ' a' w' → Below N' σ'.nxt → Frm ds σ σ' → K e σ' = some r → Q (exitOf e) a' w') → c.wp P Q a w

section
variable {P : Program} {R : Type} {F : Fr} {ι : Nat → Value} {ok : Ok} {N : Nat → Prop} {σ σ0 : St} {a : Act} {w : World} {o : Oper} {r : R}

theorem RunOk.use {c : Code} {ds : List Nat} {run : Run} (hrun : RunOk P c ds run) {K : AX → St → Option R} (hG : GOk P F.w0 F.ok0.p) (h : Sim F ι ok N σ a w) (hN : Below N σ.nxt) (hr : run σ K = some r) (Q : Exit → Act → World → Prop)
    (hQ : ∀ e σ' a' w' ι' ok' N', Sim F ι' ok' N' σ' a' w' → Below N' σ'.nxt → Frm ds σ σ' → K e σ' = some r → Q (exitOf e) a' w') : c.wp P Q a w := hrun F ι ok N σ a w K r hG h hN hr Q hQ

theorem look_clean : ∀ (l : List (Nat × Option Ob)) (i : Nat), look (cleanHp l) i = (look l i).map fun x => x.map fun b => ⟨false, b.o⟩
  | [], _ => rfl
  | (j, some ⟨d, o⟩) :: r, i => by
    simp only [cleanHp, look_cons, look_clean r i]
    split <;> rfl
  | (j, none) :: r, i => by
    simp only [cleanHp, look_cons, look_clean r i]
    split <;> rfl

theorem St.ob_clean (σ : St) (i : Nat) : σ.clean.ob i = σ.ob i := by
  unfold St.ob St.clean
  simp only [look_clean]
  cases look σ.hp i with
  | none => rfl
  | some x => cases x <;> rfl

theorem Sim.clean (h : Sim F ι ok N σ a w) : Sim F ι ok N σ.clean a w where
  tms t := h.tms t
  objs id o ho := h.objs id o (by rw [St.ob_clean] at ho; exact ho)
  apart i j o p b hi hj := h.apart i j o p b (by rw [St.ob_clean] at hi; exact hi) (by rw [St.ob_clean] at hj; exact hj)
  oks := h.oks
  keep := h.keep
  size := h.size
  defs := h.defs
  pins := h.pins
  pls := h.pls

theorem AX.same_eq : ∀ {a b : AX}, a.same b = true → a = b
  | .normal, .normal, _ => rfl
  | .exit i, .exit j, h => by rw [Nat.eq_of_beq_eq_true h]
  | .ret, .ret, _ => rfl
  | .normal, .exit _, h => by cases h
  | .normal, .ret, h => by cases h
  | .exit _, .normal, h => by cases h
  | .exit _, .ret, h => by cases h
  | .ret, .normal, h => by cases h
  | .ret, .exit _, h => by cases h

theorem exIn_ok {e : AX} {dead : List Nat} : ∀ {l : List (AX × Spec)} {x : exT l}, exIn σ0 l e σ = some x → ∃ sp p, (e, sp) ∈ l ∧ sp.take σ0 σ = some p ∧ ∀ {R : Type} (K : AX → St → Option R), exOut σ0 dead l x K = K e (sp.mk' σ0 dead p)
  | [], x, h => by cases h
  | [(e', sp)], x, h => by
    simp only [exIn] at h
    cases hb : e'.same e with
    | false => rw [hb] at h; cases h
    | true =>
      rw [hb] at h
      cases AX.same_eq hb
      exact ⟨sp, x, by simp, h, fun K => rfl⟩
  | (e', sp) :: y :: r, x, h => by
    simp only [exIn] at h
    cases hb : e'.same e with
    | true =>
      rw [hb] at h
      simp only [cond_true] at h
      cases AX.same_eq hb
      split at h
      · rename_i p hp
        cases h
        exact ⟨sp, p, by simp, hp, fun K => rfl⟩
      · cases h
    | false =>
      rw [hb] at h
      simp only [cond_false] at h
      split at h
      · rename_i q hq
        cases h
        obtain ⟨sp', p, h1, h2, h3⟩ := exIn_ok (l := y :: r) hq
        exact ⟨sp', p, List.mem_cons_of_mem _ h1, h2, fun K => h3 K⟩
      · cases h

theorem subB_iff : ∀ {a b : List Nat}, subB a b = true ↔ ∀ x ∈ a, x ∈ b
  | [], b => by simp [subB]
  | x :: r, b => by simp [subB, memB_iff, subB_iff (a := r)]

theorem exDs_mem {ds : List Nat} : ∀ {l : List (AX × Spec)}, exDs ds l = true → ∀ e sp, (e, sp) ∈ l → ∀ t ∈ fsts sp.tms, t ∈ ds
  | [], _, _, _, h => by cases h
  | (e', sp') :: r, h, e, sp, hm => by
    simp only [exDs, Bool.and_eq_true] at h
    rcases List.mem_cons.1 hm with e1 | hm
    · cases e1; exact subB_iff.1 h.1
    · exact exDs_mem h.2 e sp hm
theorem exSkip_mem {ds : List Nat} : ∀ {l : List (AX × Spec)}, exSkip ds l = true → ∀ e sp, (e, sp) ∈ l → ∀ t ∈ ds, t ∈ sp.skip
  | [], _, _, _, h => by cases h
  | (e', sp') :: r, h, e, sp, hm => by
    simp only [exSkip, Bool.and_eq_true] at h
    rcases List.mem_cons.1 hm with e1 | hm
    · cases e1; exact subB_iff.1 h.1
    · exact exSkip_mem h.2 e sp hm

theorem putT_none : ∀ {tms : List (Nat × Bool × List CK)} {cs : List Cell} {t : Nat}, t ∉ fsts tms → look (putT tms cs) t = none
  | [], _, _, _ => rfl
  | (i, ag, ks) :: r, cs, t, h => by
    simp only [fsts, List.mem_cons, not_or] at h
    simp only [putT, look_cons]
    rw [if_neg (fun e => h.1 e.symm)]
    exact putT_none h.2
theorem putB_none : ∀ {bxs : List (Nat × List CK)} {cs : List Cell} {t : Nat}, t ∉ fsts bxs → look (putB bxs cs) t = none
  | [], _, _, _ => rfl
  | (i, ks) :: r, cs, t, h => by
    simp only [fsts, List.mem_cons, not_or] at h
    simp only [putB, look_cons]
    rw [if_neg (fun e => h.1 e.symm)]
    exact putB_none h.2
theorem plantObs_none : ∀ {ks : List CK} {p : (tupT (pay ks)).den} {i : Nat}, i ∉ tgts ks → look (plantObs ks p) i = none
  | [], _, _, _ => rfl
  | .cst _ :: ks, p, i, h => plantObs_none (ks := ks) h
  | .dat _ :: ks, p, i, h => plantObs_none (ks := ks) h
  | .own t g mu :: ks, p, i, h => by
    simp only [tgts, List.mem_cons, not_or] at h
    simp only [plantObs, look_cons]
    rw [if_neg (fun e => h.1 e.symm)]
    exact plantObs_none h.2
theorem putB_dirty : ∀ {bxs : List (Nat × List CK)} {cs : List Cell} {i : Nat} {b : Option Ob}, look (putB bxs cs) i = some b → ∃ o, b = some ⟨true, o⟩
  | [], _, _, _, h => by cases h
  | (j, ks) :: r, cs, i, b, h => by
    simp only [putB, look_cons] at h
    split at h
    · cases h; exact ⟨_, rfl⟩
    · exact putB_dirty h
theorem plantObs_dirty : ∀ {ks : List CK} {p : (tupT (pay ks)).den} {i : Nat} {b : Option Ob}, look (plantObs ks p) i = some b → ∃ o, b = some ⟨true, o⟩
  | [], _, _, _, h => by cases h
  | .cst _ :: ks, p, i, b, h => plantObs_dirty (ks := ks) h
  | .dat _ :: ks, p, i, b, h => plantObs_dirty (ks := ks) h
  | .own t g mu :: ks, p, i, b, h => by
    simp only [plantObs, look_cons] at h
    split at h
    · cases h; exact ⟨_, rfl⟩
    · exact plantObs_dirty h

theorem mk_frm {sp : Spec} {ds : List Nat} (hd : ∀ t ∈ fsts sp.tms, t ∈ ds) (p : sp.ty.den) : Frm ds σ0 (sp.mk' σ0 ds p) := by
  refine ⟨fun t ht => ?_, rfl, fun id o h => ?_⟩
  · simp only [St.get, Spec.mk', look_app, putT_none (fun h => ht (hd t h)), look_anys, if_neg ht]
  · simp only [Spec.mk', look_app] at h
    split at h
    · rename_i v hv
      obtain ⟨o', rfl⟩ := putB_dirty hv
      cases h
    · split at h
      · rename_i v hv
        obtain ⟨o', rfl⟩ := plantObs_dirty hv
        cases h
      · rw [look_nones] at h
        split at h
        · cases h
        · exact h

theorem mk_ob {sp : Spec} {ds : List Nat} {p : sp.ty.den} {id : Nat} {o : AO} (h : (sp.mk' σ0 ds p).ob id = some o) (hs : id ∉ sp.skip) (ht : id ∉ tgts sp.cks) : σ0.ob id = some o := by
  simp only [Spec.skip, List.mem_append, not_or] at hs
  obtain ⟨d, h⟩ := ob_look h
  simp only [Spec.mk', look_app, putB_none hs.2.1, plantObs_none ht, look_nones, if_neg hs.1] at h
  simp [St.ob, h]

theorem cksA_tgts : ∀ (ars : List (Nat × Ty × MK)), tgts (cksA ars) = fsts ars
  | [] => rfl
  | (id, t, mu) :: r => by simp [cksA, tgts, fsts, cksA_tgts r]

theorem take_tgts {sp : Spec} {p : sp.ty.den} (h : sp.take σ0 σ = some p) {id : Nat} (hlt : id < σ0.nxt) (hs : id ∉ sp.skip) : id ∉ tgts sp.cks := by
  unfold Spec.take at h
  split at h
  · cases h
  · rename_i cs hcs
    simp only at h
    cases hb : nodupB (srcs sp.cks cs) && nodupB (tgts (cksT sp.tms ++ cksB sp.bxs) ++ (fsts sp.ars ++ fsts sp.bxs)) && allGe σ0.nxt (tgts (cksT sp.tms ++ cksB sp.bxs)) && allLt sp.nxt (tgts (cksT sp.tms ++ cksB sp.bxs)) && Nat.ble σ0.nxt sp.nxt &&
        allLt σ0.nxt (fsts sp.ars ++ fsts sp.bxs) && cstOk σ0.nxt sp.cks && allLt σ0.n (fsts sp.tms) && keptOk σ0 (freezeCk σ sp.cks cs) sp.skip (srcs sp.cks cs) σ0.hp with
    | false => rw [hb] at h; cases h
    | true =>
      simp only [Bool.and_eq_true] at hb
      obtain ⟨⟨⟨⟨⟨⟨⟨⟨b1, b2⟩, b3⟩, b4⟩, b5⟩, b6⟩, b7⟩, b8⟩, b9⟩ := hb
      have b3 := (allGe_iff _ _).1 b3
      intro hm
      have e : tgts sp.cks = tgts (cksT sp.tms ++ cksB sp.bxs) ++ fsts sp.ars := by
        show tgts (cksT sp.tms ++ (cksB sp.bxs ++ cksA sp.ars)) = _
        rw [← List.append_assoc, tgts_app, cksA_tgts]
      rw [e] at hm
      rcases List.mem_append.1 hm with hm | hm
      · exact absurd (b3 _ hm) (Nat.not_le.2 hlt)
      · exact hs (List.mem_append_right _ (List.mem_append_right _ hm))

theorem Sim.ids (h : Sim F ι ok N σ a w) (hN : Below N σ.nxt) : (∀ t, (σ.get t).idsIn (· < σ.nxt)) ∧ ∀ id o, σ.ob id = some o → id < σ.nxt ∧ o.idsIn (· < σ.nxt) := by
  have hc : ∀ c : Cell, c.idsIn N → c.idsIn (· < σ.nxt) := fun c hc => by
    cases c <;> first | trivial | exact hN _ hc | exact fun c h => hN _ (hc c h)
  have hv : ∀ x : V1, x.idsIn N → x.idsIn (· < σ.nxt) := fun x hx => by
    cases x with
    | one c => exact hc c hx
    | agg cs => exact fun c h => hc c (hx c h)
  refine ⟨fun t => ?_, fun id o ho => ?_⟩
  · have := (h.tms t).ids
    cases hx : σ.get t with
    | val x => rw [hx] at this; exact hv x this
    | tup l => rw [hx] at this; exact fun x h => hv x (this x h)
  · obtain ⟨g1, g2, _⟩ := h.objs id o ho
    have := g2.ids
    refine ⟨hN id g1, ?_⟩
    cases o with
    | box cs => exact fun c h => hc c (this c h)
    | arr t xs mu => trivial

theorem sealed_ok {c : Code} {ds : List Nat} {exits : List (AX × Spec)} {run : Run} (hrun : RunOk P c ds run) : RunOk P c ds (sealed ds exits run) := by
  intro R F ι ok N σ a w K r hG h hN hr Q hQ
  unfold sealed at hr
  cases hd : exDs ds exits with
  | false => rw [hd] at hr; cases hr
  | true =>
    rw [hd] at hr
    simp only [Bool.not_true, cond_false] at hr
    cases hx : run (R := exT exits) σ.clean (exIn σ exits) with
    | none => rw [hx] at hr; cases hr
    | some x =>
      rw [hx] at hr
      simp only [Option.bind_some] at hr
      obtain ⟨i1, i2⟩ := h.ids hN
      have hpin : ∀ x ∈ F.pin, x.1 < σ.nxt := fun x hx => hN _ (h.pins x hx).1
      refine hrun F ι ok N σ.clean a w (exIn σ exits) x hG h.clean hN hx Q (fun e σ' a' w' ι' ok' N' s1 s2 s3 s4 => ?_)
      obtain ⟨sp, p, m1, m2, m3⟩ := exIn_ok (dead := ds) s4
      obtain ⟨ι2, ok2, N2, t1, t2, t3⟩ := take_ok (σ0 := σ) (dead := ds) s1 hpin s3.n (fun t _ => i1 t) i2 (fun t ht => s3.tm t ht) (fun id o ho _ _ => by
        have := s3.hp id o ho
        rw [← St.ob_clean]; simp [St.ob, this]) m2
      exact hQ e _ a' w' ι2 ok2 N2 t1 t2 (mk_frm (exDs_mem hd e sp m1) p) (by rw [← m3 K]; exact hr)

theorem wrap_ok {ann : List (Nat × Ann)} {p : Nat} {c : Code} {ds : List Nat} {run : Run} (hrun : RunOk P c ds run) : RunOk P c ds (wrap ann p ds run) := by
  unfold wrap
  split
  · exact sealed_ok hrun
  · exact hrun

theorem least {J : Nat → Prop} (h : ∃ n, J n) : ∃ n, J n ∧ ∀ m, J m → n ≤ m := by
  obtain ⟨n, hn⟩ := h
  induction n using Nat.strongRecOn with
  | _ n ih =>
    by_cases hm : ∃ m, m < n ∧ J m
    · obtain ⟨m, h1, h2⟩ := hm; exact ih m h1 h2
    · exact ⟨n, hn, fun m hj => Nat.le_of_not_lt fun hlt => hm ⟨m, hlt, hj⟩⟩

/-- A loop whose rounds are counted down. -/
theorem wp_count {c : Code} {Q : Exit → Act → World → Prop} (J : Nat → Act → World → Prop) {n : Nat} {a : Act} {w : World} (h : J n a w)
    (round : ∀ n a w, J n a w → c.wp P (Exit.then (fun a' w' => ∃ m, m < n ∧ J m a' w') Q) a w) : (Code.loop c).wp P Q a w := by
  classical
  let μ : Act → World → Nat := fun a w => if h : ∃ n, J n a w then (least h).choose else 0
  have hμ : ∀ a w, (∃ n, J n a w) → J (μ a w) a w ∧ ∀ m, J m a w → μ a w ≤ m := fun a w h => by
    have e : μ a w = (least h).choose := dif_pos h
    rw [e]; exact (least h).choose_spec
  refine wp_loop (fun a w => ∃ n, J n a w) μ ⟨n, h⟩ (fun a w hI => ?_)
  refine wp_mono (round (μ a w) a w (hμ a w hI).1) (fun e a' w' hq => ?_)
  cases e with
  | normal =>
    obtain ⟨m, h1, h2⟩ := hq
    exact ⟨⟨m, h2⟩, Nat.lt_of_le_of_lt ((hμ a' w' ⟨m, h2⟩).2 m h2) h1⟩
  | _ => exact hq

theorem iter_some {A B : Type} {m : Fu} {f : A → Option (Step A B)} {x : A} {y : B} (h : iter m f x = some y) : ∃ n, iterN f n x = some y := by
  cases m with
  | some n => exact ⟨n, h⟩
  | none =>
    have h : iterW f x = some y := h
    unfold iterW at h
    by_cases hh : ∃ r n, iterN f n x = some r
    · rw [dif_pos hh] at h
      injection h with h
      rw [← h]; exact hh.choose_spec
    · rw [dif_neg hh] at h; cases h

theorem exec_ok {I : Inl} (hI : InlOk P I) {m : Fu} {Γ : List Summ} (hΓ : ∀ S ∈ Γ, Sound P S) (hmix : P.follows .mixedOrders = true) {ann : List (Nat × Ann)} : ∀ (c : Code) (p : Nat), RunOk P c (dsts c) (exec I P Γ m ann c p) := by
  intro c
  induction c with
  | skip =>
    intro p R F ι ok N σ a w K r hG h hN hr Q hQ
    exact wp_skip (hQ .normal σ a w ι ok N h hN (Frm.refl _ _) hr)
  | label l =>
    intro p R F ι ok N σ a w K r hG h hN hr Q hQ
    exact wp_label (hQ .normal σ a w ι ok N h hN (Frm.refl _ _) hr)
  | exit i =>
    intro p R F ι ok N σ a w K r hG h hN hr Q hQ
    exact wp_exit (hQ (.exit i) σ a w ι ok N h hN (Frm.refl _ _) hr)
  | ret =>
    intro p R F ι ok N σ a w K r hG h hN hr Q hQ
    exact wp_ret (hQ .ret σ a w ι ok N h hN (Frm.refl _ _) hr)
  | region id ops draw =>
    intro p
    refine wrap_ok (c := .region id ops draw) (ds := opDsts ops.toList) ?_
    intro R F ι ok N σ a w K r hG h hN hr Q hQ
    dsimp only at hr
    split at hr
    · rename_i rows _
      cases draw with
      | true => cases hr
      | false =>
        simp only [cond_false] at hr
        refine wp_region ?_
        have := aOpsI_sound (l := ops.toList) (k := 0) (Q := Q) (hI F hG) (fun S hS => (hΓ S hS).at hG) (fun j => by simp) h hN hr (fun σ' a' w' ι' ok' N' s1 s2 s3 s4 => hQ .normal σ' a' w' ι' ok' N' s1 s2 s3 s4)
        rw [List.range_eq_range']; simpa using this
    cases draw with
    | false =>
      refine wp_region ?_
      have := aOps_sound (l := ops.toList) (k := 0) (nb := σ.nxt) (Q := Q) (fun S hS => (hΓ S hS).at hG) (fun j => by simp) h hN hr (fun σ' a' w' ι' ok' N' s1 s2 s3 s4 => ?_)
      · rw [List.range_eq_range']; simpa using this
      · exact hQ .normal { σ' with nxt := σ.nxt + 16 * ops.toList.length } a' w' ι' ok' N' ⟨s1.tms, s1.objs, s1.apart, s1.oks, s1.keep, s1.size, s1.defs, s1.pins, s1.pls⟩ s2 ⟨s3.tm, s3.n, s3.hp⟩ s4
    | true =>
      dsimp only at hr
      cases he : edgesB 0 ops.toList with
      | false => rw [he] at hr; cases hr
      | true =>
        rw [he] at hr
        simp only [cond_true] at hr
        obtain ⟨fs, σf, c1, c2, c4, c3⟩ := aOpsD_chain (base := σ.nxt) (l := ops.toList) (k := 0) (prev := []) (fun j => by simp) (fun j y rd wr hm => by cases hm) (fun j hj => by omega) hr
        refine wp_region_any hmix (any_order (base := σ.nxt) (fs := fs) (σf := σf) (fun S hS => (hΓ S hS).at hG) (fun i o hi e hm hb => by have := edgesB_spec he i o hi e hm hb; omega) (fun i j x hji hx => ?_) (fun a' w' ι' ok' N' s1 s2 => ?_) ops.size _ (List.range' 0 ops.toList.length) σ a _ ι ok N (by simp) (by simp) ?_ (fun i => ?_) (fun k y hk hy e he hb => ?_) c1 h.drew (fun i _ => hN.fresh (by omega)) (fun i hi => by have := hN i hi; omega))
        · have := c3 (fun _ => ([], [])) (fun _ _ _ _ hm => by cases hm) i j x hji (Nat.zero_le _) hx
          simpa using this
        · exact hQ .normal { σf with nxt := σ.nxt + 16 * ops.toList.length } a' w' ι' ok' N' ⟨s1.tms, s1.objs, s1.apart, s1.oks, s1.keep, s1.size, s1.defs, s1.pins, s1.pls⟩ (by simpa using s2) ⟨c4.tm, c4.n, c4.hp⟩ c2
        · exact List.pairwise_lt_range'
        · rw [List.mem_range'_1]
          simp
          intro hi
          simp [hi]
        · exfalso
          have hks : k < ops.size := by rw [Array.getElem?_toList] at hy; exact (Array.getElem?_eq_some_iff.1 hy).1
          simp [hks] at hk
  | seq x y ihx ihy =>
    intro p
    refine wrap_ok (c := .seq x y) (ds := app (dsts x) (dsts y)) ?_
    intro R F ι ok N σ a w K r hG h hN hr Q hQ
    refine wp_seq (ihx (2 * p) F ι ok N σ a w _ r hG h hN hr _ (fun e σ' a' w' ι' ok' N' s1 s2 s3 s4 => ?_))
    have hfrm : ∀ e, K e σ' = some r → Q (exitOf e) a' w' := fun e he => hQ e σ' a' w' ι' ok' N' s1 s2 (by
      refine ⟨fun t ht => s3.tm t (fun hh => ht (by rw [app_eq]; exact List.mem_append_left _ hh)), s3.n, s3.hp⟩) he
    cases e with
    | normal =>
      exact ihy (2 * p + 1) F ι' ok' N' σ' a' w' K r hG s1 s2 s4 Q (fun e2 σ2 a2 w2 ι2 ok2 N2 t1 t2 t3 t4 => hQ e2 σ2 a2 w2 ι2 ok2 N2 t1 t2 (s3.trans t3) t4)
    | exit i => exact hfrm (.exit i) s4
    | ret => exact hfrm .ret s4
  | cond c x y ihx ihy =>
    intro p
    refine wrap_ok (c := .cond c x y) (ds := app (dsts x) (dsts y)) ?_
    intro R F ι ok N σ a w K r hG h hN hr Q hQ
    have hc := h.ev c
    dsimp only at hr
    split at hr
    · rename_i t ht
      rw [ht] at hc
      have hv : a.eval c = .bool t := by have : [a.eval c] = [.bool t] := hc; simpa using this
      refine wp_cond hv ?_
      cases t with
      | true =>
        exact ihx (2 * p) F ι ok N σ a w K r hG h hN hr Q (fun e σ' a' w' ι' ok' N' s1 s2 s3 s4 => hQ e σ' a' w' ι' ok' N' s1 s2 ⟨fun t ht => s3.tm t (fun hh => ht (by rw [app_eq]; exact List.mem_append_left _ hh)), s3.n, s3.hp⟩ s4)
      | false =>
        exact ihy (2 * p + 1) F ι ok N σ a w K r hG h hN hr Q (fun e σ' a' w' ι' ok' N' s1 s2 s3 s4 => hQ e σ' a' w' ι' ok' N' s1 s2 ⟨fun t ht => s3.tm t (fun hh => ht (by rw [app_eq]; exact List.mem_append_right _ hh)), s3.n, s3.hp⟩ s4)
    · cases hr
  | scope b ih =>
    intro p
    refine wrap_ok (c := .scope b) (ds := dsts b) ?_
    intro R F ι ok N σ a w K r hG h hN hr Q hQ
    refine wp_scope_straight (ih (2 * p) F ι ok N σ a w _ r hG h hN hr _ (fun e σ' a' w' ι' ok' N' s1 s2 s3 s4 => ?_))
    cases e with
    | normal => exact hQ .normal σ' a' w' ι' ok' N' s1 s2 s3 s4
    | ret => exact hQ .ret σ' a' w' ι' ok' N' s1 s2 s3 s4
    | exit i => exact hQ (.exit i) σ' a' w' ι' ok' N' s1 s2 s3 s4
  | block id b ih =>
    intro p
    refine wrap_ok (c := .block id b) (ds := dsts b) ?_
    intro R F ι ok N σ a w K r hG h hN hr Q hQ
    refine wp_block (ih (2 * p) F ι ok N σ a w _ r hG h hN hr _ (fun e σ' a' w' ι' ok' N' s1 s2 s3 s4 => ?_))
    cases e with
    | normal => exact hQ .normal σ' a' w' ι' ok' N' s1 s2 s3 s4
    | ret => exact hQ .ret σ' a' w' ι' ok' N' s1 s2 s3 s4
    | exit i =>
      show Exit.inBlock id Q (.exit i) a' w'
      simp only [Exit.inBlock]
      dsimp only at s4
      cases hb : Nat.beq i id with
      | true =>
        rw [hb] at s4
        rw [if_pos (Nat.eq_of_beq_eq_true hb)]
        exact hQ .normal σ' a' w' ι' ok' N' s1 s2 s3 s4
      | false =>
        rw [hb] at s4
        rw [if_neg (fun e => by subst e; simp at hb)]
        exact hQ (.exit i) σ' a' w' ι' ok' N' s1 s2 s3 s4
  | loop b ih =>
    intro p R F ι ok N σ a w K r hG h hN hr Q hQ
    unfold exec at hr
    split at hr
    case h_2 => cases hr
    rename_i head exits _
    cases hc : exDs (dsts b) exits && subB (fsts head.tms) (dsts b) && exSkip head.skip exits with
    | false => rw [hc] at hr; cases hr
    | true =>
      rw [hc] at hr
      simp only [Bool.not_true, cond_false] at hr
      simp only [Bool.and_eq_true] at hc
      obtain ⟨⟨c1, c2⟩, c3⟩ := hc
      have c2 := subB_iff.1 c2
      split at hr
      case h_2 => cases hr
      rename_i p0 hp0
      obtain ⟨i1, i2⟩ := h.ids hN
      have hpin : ∀ x ∈ F.pin, x.1 < σ.nxt := fun x hx => hN _ (h.pins x hx).1
      cases hx : iter m (loopRound σ head exits (dsts b) (exec I P Γ m ann b (2 * p))) p0 with
      | none => rw [hx] at hr; cases hr
      | some x =>
        rw [hx] at hr
        simp only [Option.bind_some] at hr
        obtain ⟨n, hn⟩ := iter_some hx
        obtain ⟨ι0, ok0, N0, t1, t2, t3⟩ := take_ok (σ0 := σ) (dead := dsts b) h.clean hpin rfl (fun t _ => i1 t) i2 (fun t _ => rfl) (fun id o ho _ _ => by
          rw [← St.ob_clean]; simp [St.ob, ho]) hp0
        refine wp_count (fun n a w => ∃ q ι ok N, iterN (loopRound σ head exits (dsts b) (exec I P Γ m ann b (2 * p))) n q = some x ∧ Sim F ι ok N (head.mk' σ (dsts b) q).clean a w ∧ Below N head.nxt) (n := n) ⟨p0, ι0, ok0, N0, hn, t1.clean, t2⟩ ?_
        rintro n a1 w1 ⟨q, ι1, ok1, N1, j1, j2, j3⟩
        cases n with
        | zero => cases j1
        | succ n =>
          simp only [iterN] at j1
          have hcl : ∀ {σ' : St} {sp : Spec}, Frm (dsts b) (head.mk' σ (dsts b) q).clean σ' → (∀ t ∈ head.skip, t ∈ sp.skip) → ∀ id o, look σ'.hp id = some (some ⟨false, o⟩) → id < σ.nxt → id ∉ sp.skip → σ.ob id = some o := fun s3 hsk id o ho hlt hns => by
            have h1 := s3.hp id o ho
            have h2 : (head.mk' σ (dsts b) q).ob id = some o := by rw [← St.ob_clean]; simp [St.ob, h1]
            have hns' : id ∉ head.skip := fun hh => hns (hsk id hh)
            exact mk_ob h2 hns' (take_tgts hp0 hlt hns')
          have htm : ∀ {σ' : St}, Frm (dsts b) (head.mk' σ (dsts b) q).clean σ' → ∀ t, t ∉ dsts b → σ'.get t = σ.get t := fun s3 t ht => (s3.tm t ht).trans ((mk_frm c2 q).tm t ht)
          split at j1
          · rename_i q' hq'
            refine RunOk.use (ih (2 * p)) (r := Step.next q') hG j2 j3 hq' _ (fun e σ' a' w' ι' ok' N' s1 s2 s3 s4 => ?_)
            cases e with
            | normal =>
              dsimp only at s4
              split at s4
              · rename_i q2 hq2
                cases s4
                obtain ⟨ι2, ok2, N2, u1, u2, u3⟩ := take_ok (σ0 := σ) (dead := dsts b) s1 hpin s3.n (fun t _ => i1 t) i2 (htm s3) (hcl s3 (fun _ h => h)) hq2
                exact ⟨n, by omega, q', ι2, ok2, N2, j1, u1.clean, u2⟩
              · cases s4
            | exit i => dsimp only at s4; split at s4 <;> cases s4
            | ret => dsimp only at s4; split at s4 <;> cases s4
          · rename_i x' hx'
            cases j1
            refine RunOk.use (ih (2 * p)) (r := Step.fin x) hG j2 j3 hx' _ (fun e σ' a' w' ι' ok' N' s1 s2 s3 s4 => ?_)
            have fin : e ≠ .normal → (match exIn σ exits e σ' with | some x => some (Step.fin (A := head.ty.den) x) | none => none) = some (.fin x) → Q (exitOf e) a' w' := fun _ s4 => by
              split at s4
              · rename_i x2 hx2
                cases s4
                obtain ⟨sp, pp, m1, m2, m3⟩ := exIn_ok (dead := dsts b) hx2
                obtain ⟨ι2, ok2, N2, u1, u2, u3⟩ := take_ok (σ0 := σ) (dead := dsts b) s1 hpin s3.n (fun t _ => i1 t) i2 (htm s3) (hcl s3 (exSkip_mem c3 e sp m1)) m2
                exact hQ e _ a' w' ι2 ok2 N2 u1 u2 (mk_frm (exDs_mem c1 e sp m1) pp) (by rw [← m3 K]; exact hr)
              · cases s4
            cases e with
            | normal => dsimp only at s4; split at s4 <;> cases s4
            | exit i => exact fin (by simp) s4
            | ret => exact fin (by simp) s4
          · cases j1
  | _ => intro p R F ι ok N σ a w K r hG h hN hr Q hQ; cases hr
end
end Go.Abs

/- Abs, part Z1: going through a function's own text is what a call does. -/
namespace Go.Abs
section
variable {P : Program} {R : Type} {F : Fr} {ι : Nat → Value} {ok : Ok} {N : Nat → Prop} {σ σ0 : St} {a : Act} {w : World} {o : Oper} {r : R}

theorem enum_get : ∀ (l : List AV) (i t : Nat), look (enum i l) t = if i ≤ t then l[t - i]? else none
  | [], i, t => by simp [enum, look]
  | x :: r, i, t => by
    simp only [enum, look_cons]
    rw [enum_get r (i + 1) t]
    by_cases h : i = t
    · subst h; simp
    · rw [if_neg h]
      by_cases h1 : i + 1 ≤ t
      · rw [if_pos h1, if_pos (by omega), show t - i = (t - (i + 1)) + 1 from by omega]; rfl
      · rw [if_neg h1, if_neg (by omega)]

theorem All2.getOpt {α β : Type} {Q : α → β → Prop} : ∀ {l : List α} {m : List β} {j : Nat} {x : α}, All2 Q l m → l[j]? = some x → ∃ y, m[j]? = some y ∧ Q x y
  | [], _, _, _, _, h => by simp at h
  | _ :: _, [], _, _, h, _ => h.elim
  | _ :: _, b :: _, 0, _, h, hx => by cases hx; exact ⟨b, rfl, h.1⟩
  | _ :: l, _ :: m, j + 1, _, h, hx => by
    obtain ⟨y, h1, h2⟩ := All2.getOpt (l := l) (m := m) (j := j) h.2 (by simpa using hx)
    exact ⟨y, by simpa using h1, h2⟩

/-- The blocks of all objects. -/
def allBs (ι : Nat → Value) (σ : St) : List (Nat × Option Ob) → List Nat
  | [] => []
  | (i, _) :: r => (match σ.ob i with | some _ => (blk (ι i)).toList | none => []) ++ allBs ι σ r

theorem allBs_in (ι : Nat → Value) (σ : St) {i : Nat} {o : AO} (ho : σ.ob i = some o) {b : Nat} (hb : blk (ι i) = some b) : ∀ {l : List (Nat × Option Ob)} {x : Option Ob}, look l i = some x → b ∈ allBs ι σ l
  | [], _, h => by cases h
  | (j, y) :: l, x, h => by
    rw [look_cons] at h
    simp only [allBs, List.mem_append]
    by_cases e : j = i
    · subst e; left; rw [ho]; simp [hb]
    · rw [if_neg e] at h; right; exact allBs_in ι σ ho hb h

theorem allBs_of (ι : Nat → Value) (σ : St) {b : Nat} : ∀ {l : List (Nat × Option Ob)}, b ∈ allBs ι σ l → ∃ i o, σ.ob i = some o ∧ blk (ι i) = some b
  | [], h => by cases h
  | (j, y) :: l, h => by
    simp only [allBs, List.mem_append] at h
    rcases h with h | h
    · cases ho : σ.ob j with
      | none => rw [ho] at h; cases h
      | some o => rw [ho] at h; exact ⟨j, o, ho, by simpa using h⟩
    · exact allBs_of ι σ h

open Classical in
noncomputable def pinsOf (ι : Nat → Value) (N : Nat → Prop) (n : Nat) : List (Nat × Value) := ((List.range n).filter fun i => decide (N i)).map fun i => (i, ι i)

theorem inlOf_ok {m : Fu} {Γ : List Summ} (hΓ : ∀ S ∈ Γ, Sound P S) (hmix : P.follows .mixedOrders = true) : ∀ l : Nat, InlOk P (inlOf P Γ m l)
  | 0 => noInl_ok
  | l + 1 => by
    intro F hG R g ann args σ K r hr ι ok N a w vs h hN hargs
    simp only [inlOf] at hr
    split at hr
    · cases hr
    · rename_i fn hf
      split at hr
      · cases hr
      · rename_i c hbody
        cases hc : !(Nat.ble args.length fn.ntmps) || (fn.name == "runtime.NumGoroutine") with
        | true => simp [hc] at hr
        | false =>
          simp only [hc, cond_false] at hr
          rw [Bool.or_eq_false_iff, Bool.not_eq_false'] at hc
          have c1 := Nat.le_of_ble_eq_true hc.1
          have hlen : vs.length = args.length := hargs.len.symm
          have hrun : (callFunc g vs.toArray).run P w = .ok (.enter g vs.toArray) w := by
            have hn : ¬ fn.name = "runtime.NumGoroutine" := by simpa using hc.2
            simp [callFunc, hf, hn, hbody]
          unfold Ends
          dsimp only
          rw [hrun]
          dsimp only
          refine calls_of_wp hf hbody ?_
          let a0 : Act := { tmps := vs.toArray ++ Array.replicate (fn.ntmps - vs.toArray.size) undef, defers := [] }
          let cd : List Nat := (List.range w.heap.size).filter fun b => @decide (∃ j, ok.c b j ∨ ok.d b j) (Classical.propDecidable _)
          have hcd : ∀ b j, ok.c b j ∨ ok.d b j → b ∈ cd := fun b j hk => List.mem_filter.2 ⟨List.mem_range.2 (h.oks b j (.inr hk)), by simp; exact ⟨j, hk⟩⟩
          have hcd2 : ∀ b, b ∈ cd → F.w0.heap.size ≤ b ∨ b ∈ F.S := fun b hb => by
            have := (List.mem_filter.1 hb).2
            simp at this
            obtain ⟨j, hk⟩ := this
            exact (h.pls.cs b j hk).2.1
          let F' : Fr := ⟨w, allBs ι σ σ.hp ++ cd, ok, pinsOf ι N σ.nxt⟩
          have hpin : ∀ i v, (i, v) ∈ pinsOf ι N σ.nxt ↔ (i < σ.nxt ∧ N i ∧ v = ι i) := fun i v => by
            simp only [pinsOf, List.mem_map, List.mem_filter, List.mem_range, decide_eq_true_eq, Prod.mk.injEq]
            constructor
            · rintro ⟨j, ⟨h1, h2⟩, rfl, rfl⟩; exact ⟨h1, h2, rfl⟩
            · rintro ⟨h1, h2, rfl⟩; exact ⟨i, ⟨h1, h2⟩, rfl, rfl⟩
          have h0 : Sim F' ι ok N ⟨enum 0 args, σ.hp, σ.nxt, fn.ntmps⟩ a0 w := by
            refine ⟨fun t => ?_, fun id o ho => ?_, h.apart, h.oks, ⟨Nat.le_refl _, fun _ _ _ => rfl, rfl, rfl, rfl, fun b o hk => ⟨hk, rfl⟩, fun b o hk => .inl hk⟩, ?_, rfl, fun x hx => ?_, ⟨fun b j hk => ⟨(h.pls.cs b j hk).1, .inr (List.mem_append_right _ (hcd b j hk)), (h.pls.cs b j hk).2.2⟩, h.pls.ds, fun b j hk => ⟨hk, rfl⟩, fun b j hk => hk⟩⟩
            · show RepAV w ok ι N ((look (enum 0 args) t).getD (.val (.one .any))) (a0.tmps.getD t undef)
              rw [enum_get, if_pos (Nat.zero_le _), Nat.sub_zero]
              cases hx : args[t]? with
              | none => trivial
              | some x =>
                obtain ⟨v, hv, hq⟩ := All2.getOpt hargs hx
                have : a0.tmps.getD t undef = v := by
                  rw [Array.getD_eq_getD_getElem?]
                  show ((vs.toArray ++ Array.replicate (fn.ntmps - vs.toArray.size) undef)[t]?).getD undef = v
                  have hlt : t < vs.length := by
                    rcases Nat.lt_or_ge t vs.length with q | q
                    · exact q
                    · rw [List.getElem?_eq_none q] at hv; cases hv
                  rw [Array.getElem?_append_left (by simpa using hlt)]
                  simp [hv]
                rw [this]; exact hq
            · obtain ⟨g1, g2, g3⟩ := h.objs id o ho
              refine ⟨g1, g2, fun b hb => .inr ?_⟩
              have hl : ∃ x, look σ.hp id = some x := by
                have ho' : σ.ob id = some o := ho
                unfold St.ob at ho'
                cases hx : look σ.hp id with
                | none => rw [hx] at ho'; cases ho'
                | some x => exact ⟨x, rfl⟩
              obtain ⟨x, hx⟩ := hl
              exact List.mem_append_left _ (allBs_in ι σ ho hb hx)
            · show a0.tmps.size = fn.ntmps
              simp [a0]; omega
            · obtain ⟨i, v⟩ := x
              obtain ⟨h1, h2, h3⟩ := (hpin i v).1 hx
              exact ⟨h2, h3.symm⟩
          have hS : ∀ b ∈ allBs ι σ σ.hp ++ cd, F.w0.heap.size ≤ b ∨ b ∈ F.S := fun b hb => by
            rcases List.mem_append.1 hb with hb | hb
            rotate_left
            · exact hcd2 b hb
            obtain ⟨i, o, ho, hb⟩ := allBs_of ι σ hb
            exact (h.objs i o ho).2.2 b hb
          have back : ∀ (σ' : St) (a' : Act) (w' : World) (ι' : Nat → Value) (ok' : Ok) (N' : Nat → Prop), Sim F' ι' ok' N' σ' a' w' → Sim F ι' ok' N' ⟨σ.tm, σ'.hp, σ'.nxt, σ.n⟩ a w' := fun σ' a' w' ι' ok' N' s => by
            obtain ⟨m1, m2, m3, m4, m5, m6, m7⟩ := s.keep
            have hx : Ext w ok w' ok' := ⟨fun b j hk => m6 b j hk, fun b j hk => s.pls.kc b j hk, fun b j hk => s.pls.kd b j hk⟩
            have hNι : ∀ i, N i → N' i ∧ ι' i = ι i := fun i hi => s.pins (i, ι i) ((hpin i _).2 ⟨hN i hi, hi, rfl⟩)
            refine ⟨fun t => RepAV.mono hx (fun i hi => (hNι i hi).2) (fun i hi => (hNι i hi).1) (h.tms t), fun id o ho => ?_, s.apart, s.oks, ?_, h.size, h.defs, fun x hx => ?_, ⟨fun b j hk => ⟨(s.pls.cs b j hk).1, ?_, (s.pls.cs b j hk).2.2⟩, s.pls.ds, fun b j hk => ⟨(s.pls.kc b j (h.pls.kc b j hk).1).1, (s.pls.kc b j (h.pls.kc b j hk).1).2.trans (h.pls.kc b j hk).2⟩, fun b j hk => s.pls.kd b j (h.pls.kd b j hk)⟩⟩
            rotate_right
            · rcases (s.pls.cs b j hk).2.1 with q | q
              · exact .inl (Nat.le_trans h.keep.size q)
              · exact hS b q
            · obtain ⟨g1, g2, g3⟩ := s.objs id o ho
              refine ⟨g1, g2, fun b hb => ?_⟩
              rcases g3 b hb with g | g
              · exact .inl (Nat.le_trans h.keep.size g)
              · exact hS b g
            · obtain ⟨k1, k2, k3, k4, k5, k6, k7⟩ := h.keep
              refine ⟨Nat.le_trans k1 m1, fun b hb hs => ?_, m3.trans k3, m4.trans k4, m5.trans k5, fun b j hj => ⟨(m6 b j (k6 b j hj).1).1, ((m6 b j (k6 b j hj).1).2).trans (k6 b j hj).2⟩, fun b j hj => ?_⟩
              · rw [m2 b (Nat.lt_of_lt_of_le hb k1) (fun hm => by
                  rcases hS b hm with q | q
                  · exact absurd hb (Nat.not_lt.2 q)
                  · exact hs q)]
                exact k2 b hb hs
              · rcases m7 b j hj with q | q | q
                · exact k7 b j q
                · exact .inr (.inl (Nat.le_trans k1 q))
                · exact .inr (hS b q)
            · obtain ⟨p1, p2⟩ := h.pins x hx
              exact ⟨(hNι _ p1).1, (hNι _ p1).2.trans p2⟩
          have fin : ∀ (σ' : St) (a' : Act) (w' : World) (ι' : Nat → Value) (ok' : Ok) (N' : Nat → Prop), Sim F' ι' ok' N' σ' a' w' → Below N' σ'.nxt → Frm (dsts c) ⟨enum 0 args, σ.hp, σ.nxt, fn.ntmps⟩ σ' →
              (match resGet P σ' fn.results.toList with | some vs => K (resAV vs) ⟨σ.tm, σ'.hp, σ'.nxt, σ.n⟩ | none => none) = some r →
              ∃ v, (results fn a'.tmps).run P w' = .ok v w' ∧ ∃ av σ2 ι2 ok2 N2, Sim F ι2 ok2 N2 σ2 a w' ∧ Below N2 σ2.nxt ∧ RepAV w' ok2 ι2 N2 av v ∧ FrmI σ σ2 ∧ K av σ2 = some r := fun σ' a' w' ι' ok' N' s1 s2 s3 s4 => by
            split at s4
            · rename_i vs1 hvs1
              obtain ⟨us, e1, e2⟩ := results_ok (fn := fn) s1 hvs1
              exact ⟨tupV us, e1, resAV vs1, _, ι', ok', N', back σ' a' w' ι' ok' N' s1, s2, resAV_rep e2, ⟨rfl, rfl, s3.hp⟩, s4⟩
            · cases s4
          refine exec_ok (inlOf_ok hΓ hmix l) hΓ hmix c 1 F' ι ok N _ a0 w _ r (hG.mono h.keep.kept) h0 hN hr _ (fun e σ' a' w' ι' ok' N' t1 t2 t3 t4 => ?_)
          cases e with
          | exit i => cases t4
          | normal =>
            obtain ⟨v, hv, hA⟩ := fin σ' a' w' ι' ok' N' t1 t2 t3 t4
            exact ⟨t1.defs, v, hv, v, rfl, hA⟩
          | ret =>
            obtain ⟨v, hv, hA⟩ := fin σ' a' w' ι' ok' N' t1 t2 t3 t4
            exact ⟨t1.defs, v, hv, v, rfl, hA⟩
end
end Go.Abs

/- Abs, part Zb: the begin and the end of a function. -/
namespace Go.Abs
section
variable {P : Program} {R : Type} {F : Fr} {ι : Nat → Value} {ok : Ok} {N : Nat → Prop} {σ σ0 : St} {a : Act} {w : World} {o : Oper} {r : R}

theorem Sim.congr (h : Sim F ι ok N σ a w) {σ' : St} (hg : ∀ t, σ'.get t = σ.get t) (ho : ∀ i, σ'.ob i = σ.ob i) (hn : σ'.n = σ.n) : Sim F ι ok N σ' a w where
  tms t := by rw [hg]; exact h.tms t
  objs id o hi := h.objs id o (by rw [← ho]; exact hi)
  apart i j o p b hi hj := h.apart i j o p b (by rw [← ho]; exact hi) (by rw [← ho]; exact hj)
  oks := h.oks
  keep := h.keep
  size := by rw [hn]; exact h.size
  defs := h.defs
  pins := h.pins
  pls := h.pls

theorem addHp_one (σ : St) (id : Nat) (d : Bool) (o : AO) (i : Nat) : (addHp σ [(id, some ⟨d, o⟩)]).ob i = (σ.set id o).ob i := by
  rw [St.ob_set]
  unfold addHp St.ob
  simp only [app, look_cons]
  by_cases e : id = i
  · simp [e]
  · simp [e]

theorem addHp_cons (σ : St) (x : Nat × Option Ob) (l : List (Nat × Option Ob)) : addHp σ (x :: l) = addHp (addHp σ l) [x] := rfl

/-- What may stand in new blocks. -/
def NewBs (F : Fr) (ι : Nat → Value) (σ : St) (bs : List Nat) : Prop := ∀ b ∈ bs, (F.w0.heap.size ≤ b ∨ b ∈ F.S) ∧ ∀ i p, σ.ob i = some p → blk (ι i) ≠ some b

/-- More objects. -/
structure More (F : Fr) (ι : Nat → Value) (ok : Ok) (N : Nat → Prop) (a : Act) (w : World) (σ : St) (nb k : Nat) (bs : List Nat) (ι' : Nat → Value) (N' : Nat → Prop) (σ' : St) : Prop where
  sim : Sim F ι' ok N' σ' a w
  old : ∀ i, N i → N' i ∧ ι' i = ι i
  ge : ∀ i, N' i → N i ∨ (nb ≤ i ∧ i < nb + k)
  bb : ∀ i p, σ'.ob i = some p → σ.ob i = some p ∨ ∀ b, blk (ι' i) = some b → b ∈ bs

theorem More.one (h : Sim F ι ok N σ a w) {id : Nat} (hid : ¬N id) {o : AO} {V : Value} (hV : ObjRep w ok (upd ι id V) (plus N id) o V) (hb : NewBs F ι σ (blk V).toList) (d : Bool) :
    More F ι ok N a w σ id 1 (blk V).toList (upd ι id V) (plus N id) (addHp σ [(id, some ⟨d, o⟩)]) := by
  have hnew := h.newOb hid hV (fun b hb' => hb b (by simp [hb']))
  refine ⟨hnew.congr (fun _ => rfl) (addHp_one σ id d o) rfl, fun i hi => ⟨le_plus _ hi, upd_other _ _ _ (fun e => hid (by rw [← e]; exact hi))⟩, fun i hi => hi.imp (fun h => h) (fun e => by subst e; exact ⟨Nat.le_refl _, by omega⟩), fun i p hp => ?_⟩
  rw [addHp_one, St.ob_set] at hp
  split at hp
  · rename_i e; subst e; right; intro b hb'; rw [upd_same] at hb'; simp [hb']
  · exact .inl hp

theorem NewBs.next {k : Nat} {nb : Nat} {b1 b2 : List Nat} {ι' : Nat → Value} {N' : Nat → Prop} {σ' : St} (h0 : Sim F ι ok N σ a w) (h : More F ι ok N a w σ nb k b1 ι' N' σ') (hn : (b1 ++ b2).Nodup) (hb : NewBs F ι σ (b1 ++ b2)) : NewBs F ι' σ' b2 := fun b hm => by
  rw [List.nodup_append] at hn
  refine ⟨(hb b (List.mem_append_right _ hm)).1, fun i p hp hbi => ?_⟩
  rcases h.bb i p hp with hh | hh
  · rw [(h.old i (h0.objs i p hh).1).2] at hbi
    exact (hb b (List.mem_append_right _ hm)).2 i p hh hbi
  · exact hn.2.2 b (hh b hbi) b hm rfl

def capPins (j : Nat) : List Value → List (Nat × Value)
  | [] => []
  | u :: us => (j, u) :: capPins (j + 1) us
def pinsFor (i : Nat) : List PK → List Value → List (Nat × Value)
  | .box _ :: r, v :: vs => (16 * i, v) :: pinsFor (i + 1) r vs
  | .fn _ _ :: r, .func _ _ us :: vs => capPins (16 * i) us.toList ++ pinsFor (i + 1) r vs
  | _ :: r, _ :: vs => pinsFor (i + 1) r vs
  | _, _ => []

theorem caps_in : ∀ {caps : List (List Ty)} {j : Nat} {x : (tupT (concatT caps)).den} {vs : List Value} {bs : List Nat} {σ : St} {ι : Nat → Value} {N : Nat → Prop}, Sim F ι ok N σ a w → (∀ i, j ≤ i → ¬N i) → CapsRep w ok caps x vs bs → bs.Nodup → NewBs F ι σ bs →
    ∃ ι' N', More F ι ok N a w σ j caps.length bs ι' N' (addHp σ (entryPar.obs j caps x)) ∧ All2 (ptrAt ι' N') (entryPar.ids j caps) vs ∧ ∀ x ∈ capPins j vs, N' x.1 ∧ ι' x.1 = x.2
  | [], j, x, vs, bs, σ, ι, N, h, _, ⟨e1, e2⟩, _, _ => by
    subst e1; subst e2
    exact ⟨ι, N, ⟨h, fun i hi => ⟨hi, rfl⟩, fun i hi => .inl hi, fun i p hp => .inl hp⟩, trivial, fun x hx => by cases hx⟩
  | ts :: r, j, x, vs, bs, σ, ι, N, h, hN, ⟨v, vs', B, bs', e1, e2, hb, hr⟩, hn, hnew => by
    subst e1; subst e2
    have hn' : ([B] ++ bs').Nodup := hn
    obtain ⟨ι1, N1, m1, q1, q2⟩ := caps_in (caps := r) (j := j + 1) h (fun i hi => hN i (by omega)) hr (List.nodup_append.1 hn').2.1 (fun b hb' => hnew b (List.mem_cons_of_mem _ hb'))
    have hnj : ¬N1 j := fun hh => by
      rcases m1.ge j hh with h2 | h2
      · exact hN j (Nat.le_refl _) h2
      · omega
    have hbv : blk v = some B := by rw [hb.1]; rfl
    have hnb : NewBs F ι1 (addHp σ (entryPar.obs (j + 1) r (tsnd ts (concatT r) x))) (blk v).toList := fun b hm => by
      have hbB : b = B := by rw [hbv] at hm; simpa using hm
      subst hbB
      refine ⟨(hnew b (by simp)).1, fun i p hp hbi => ?_⟩
      rcases m1.bb i p hp with hh | hh
      · rw [(m1.old i (h.objs i p hh).1).2] at hbi
        exact (hnew b (by simp)).2 i p hh hbi
      · rw [List.nodup_append] at hn'
        exact hn'.2.2 b (by simp) b (hh b hbi) rfl
    have m2 := More.one m1.sim hnj (hb.obj (ι := upd ι1 j v) (N := plus N1 j)) hnb false
    refine ⟨upd ι1 j v, plus N1 j, ⟨m2.sim, fun i hi => ⟨le_plus _ (m1.old i hi).1, by rw [(m2.old i (m1.old i hi).1).2]; exact (m1.old i hi).2⟩, fun i hi => ?_, fun i p hp => ?_⟩, ⟨⟨plus_self, B, by rw [upd_same]; exact hb.1, hb.1⟩, ?_⟩, fun x hx => ?_⟩
    · rcases m2.ge i hi with hh | hh
      · rcases m1.ge i hh with h2 | h2
        · exact .inl h2
        · exact .inr ⟨by omega, by simp only [List.length_cons]; omega⟩
      · exact .inr ⟨by omega, by simp only [List.length_cons]; omega⟩
    · rcases m2.bb i p hp with hh | hh
      · rcases m1.bb i p hh with h2 | h2
        · exact .inl h2
        · refine .inr fun b hb' => ?_
          rw [(m2.old i (m1.sim.objs i p hh).1).2] at hb'
          exact List.mem_cons_of_mem _ (h2 b hb')
      · refine .inr fun b hb' => ?_
        have := hh b hb'
        rw [hbv] at this
        have : b = B := by simpa using this
        subst this; simp
    · exact All2.mono (fun _ _ hc => ptrAt.mono (fun i hi => (m2.old i hi).2) (fun i hi => (m2.old i hi).1) hc) q1
    · rcases List.mem_cons.1 hx with rfl | hx
      · exact ⟨plus_self, upd_same _ _ _⟩
      · obtain ⟨k1, k2⟩ := q2 x hx
        exact ⟨le_plus _ k1, by rw [(m2.old _ k1).2]; exact k2⟩

/-- One parameter. -/
theorem par_in {k : PK} {i : Nat} {x : (tupT (pkTs k)).den} {v : Value} {bs : List Nat} (h : Sim F ι ok N σ a w) (hN : Below N (16 * i)) (hv : ArgRep w ok k x v bs) (hn : bs.Nodup) (hnew : NewBs F ι σ bs) (hcap : ∀ f caps, k = .fn f caps → caps.length ≤ 16) :
    ∃ ι' N', More F ι ok N a w σ (16 * i) 16 bs ι' N' (addHp σ (entryPar i k x).2) ∧ RepAV w ok ι' N' (entryPar i k x).1 v ∧ ∀ y ∈ pinsFor i [k] [v], N' y.1 ∧ ι' y.1 = y.2 := by
  have hfr : ∀ j, 16 * i ≤ j → ¬N j := fun j hj hh => by have := hN j hh; omega
  have none : bs = [] → More F ι ok N a w σ (16 * i) 16 bs ι N (addHp σ []) := fun e => by
    subst e; exact ⟨h, fun i hi => ⟨hi, rfl⟩, fun i hi => .inl hi, fun i p hp => .inl hp⟩
  cases k with
  | val ag ts =>
    cases ag with
    | false =>
      obtain ⟨e, hr⟩ := hv
      refine ⟨ι, N, ?_, ?_, fun y hy => by cases hy⟩
      · exact none e
      · have hc := datCells_rep (ι := ι) (N := N) hr
        show RepAV w ok ι N (match datCells ts x with | [c] => .val (.one c) | _ => .val (.one .any)) v
        cases hd : datCells ts x with
        | nil => rw [hd] at hc; exact hc.elim
        | cons c l => cases l with
          | nil => rw [hd] at hc; exact hc.1
          | cons _ _ => rw [hd] at hc; exact hc.2.elim
    | true =>
      obtain ⟨e, us, hu, hr⟩ := hv
      exact ⟨ι, N, none e, ⟨us, hu, datCells_rep hr⟩, fun y hy => by cases hy⟩
  | own t =>
    obtain ⟨e, hr⟩ := hv
    subst e
    have m := More.one h (hfr _ (Nat.le_refl _)) (o := .arr t x .fr) hr hnew false
    refine ⟨upd ι (16 * i) v, plus N (16 * i), ⟨m.sim, m.old, fun j hj => (m.ge j hj).imp (fun h => h) (fun h => ⟨h.1, by omega⟩), m.bb⟩, ⟨plus_self, (upd_same _ _ _).symm, ?_⟩, fun y hy => by cases hy⟩
    obtain ⟨A, cap, e, _⟩ := hr
    exact .inl ⟨_, _, _, e⟩
  | ow t =>
    obtain ⟨e, hr⟩ := hv
    subst e
    have m := More.one h (hfr _ (Nat.le_refl _)) (o := .arr t x .wr) hr hnew false
    refine ⟨upd ι (16 * i) v, plus N (16 * i), ⟨m.sim, m.old, fun j hj => (m.ge j hj).imp (fun h => h) (fun h => ⟨h.1, by omega⟩), m.bb⟩, ⟨plus_self, (upd_same _ _ _).symm, ?_⟩, fun y hy => by cases hy⟩
    obtain ⟨A, cap, e, _⟩ := hr
    exact .inl ⟨_, _, _, e⟩
  | box ts =>
    obtain ⟨B, e, hr⟩ := hv
    subst e
    have hbv : (blk v).toList = [B] := by rw [hr.1]; rfl
    have m := More.one h (hfr _ (Nat.le_refl _)) (hr.obj (ι := upd ι (16 * i) v) (N := plus N (16 * i))) (by rw [hbv]; exact hnew) false
    rw [hbv] at m
    refine ⟨upd ι (16 * i) v, plus N (16 * i), ⟨m.sim, m.old, fun j hj => (m.ge j hj).imp (fun h => h) (fun h => ⟨h.1, by omega⟩), m.bb⟩, ⟨plus_self, B, by rw [upd_same]; exact hr.1, hr.1⟩, fun y hy => ?_⟩
    simp [pinsFor] at hy
    subst hy
    exact ⟨plus_self, upd_same _ _ _⟩
  | fn f caps =>
    obtain ⟨us, e, hr⟩ := hv
    subst e
    obtain ⟨ι', N', m, q1, q2⟩ := caps_in (j := 16 * i) h hfr hr hn hnew
    have hc := hcap f caps rfl
    refine ⟨ι', N', ⟨m.sim, m.old, fun j hj => (m.ge j hj).imp (fun h => h) (fun h => ⟨h.1, by omega⟩), m.bb⟩, ⟨us, rfl, q1⟩, fun y hy => ?_⟩
    simp [pinsFor] at hy
    exact q2 y hy
end
end Go.Abs

/- Abs, part Zc: functions. -/
namespace Go.Abs
section
variable {P : Program} {R : Type} {F : Fr} {ι : Nat → Value} {ok : Ok} {N : Nat → Prop} {σ σ0 : St} {a : Act} {w : World} {o : Oper} {r : R}

theorem entry_ok : ∀ {ks : List PK} {i : Nat} {p : (tupT (insL ks)).den} {vs : List Value} {bs : List Nat} {σ : St} {ι : Nat → Value} {N : Nat → Prop}, Sim F ι ok N σ a w → Below N (16 * i) → σ.nxt = 16 * i → ArgsRep w ok ks p vs bs → bs.Nodup → NewBs F ι σ bs → capsOk ks = true →
    (∀ j v, vs[j]? = some v → a.tmps.getD (i + j) undef = v) →
    ∃ ι' N', Sim F ι' ok N' (entry σ i ks p) a w ∧ Below N' (entry σ i ks p).nxt ∧ (∀ j, N j → N' j ∧ ι' j = ι j) ∧ ∀ y ∈ pinsFor i ks vs, N' y.1 ∧ ι' y.1 = y.2
  | [], i, p, vs, bs, σ, ι, N, h, hN, hx, ⟨e1, e2⟩, _, _, _, _ => by
    subst e1
    refine ⟨ι, N, h, ?_, fun j hj => ⟨hj, rfl⟩, fun y hy => by cases hy⟩
    show Below N σ.nxt
    rw [hx]; exact hN
  | k :: r, i, p, vs, bs, σ, ι, N, h, hN, hx, ⟨v, vs', b1, b2, e1, e2, hk, hr⟩, hn, hnew, hc, ht => by
    subst e1; subst e2
    have hcap : ∀ f caps, k = .fn f caps → caps.length ≤ 16 := fun f caps e => by
      subst e
      simp only [capsOk, Bool.and_eq_true] at hc
      exact Nat.le_of_ble_eq_true hc.1
    have hc2 : capsOk r = true := by cases k <;> simp_all [capsOk]
    obtain ⟨ι1, N1, m, q1, q2⟩ := par_in h hN hk (List.nodup_append.1 hn).1 (fun b hb => hnew b (List.mem_append_left _ hb)) hcap
    have hnext := NewBs.next h m hn hnew
    have hv0 : a.tmps.getD i undef = v := ht 0 v (by simp)
    let σ1 : St := { tm := (i, (entryPar i k (tfst (pkTs k) (insL r) p)).1) :: σ.tm, hp := app (entryPar i k (tfst (pkTs k) (insL r) p)).2 σ.hp, nxt := 16 * (i + 1), n := σ.n }
    have hs1 : Sim F ι1 ok N1 σ1 a w := (m.sim.refine (x := (entryPar i k (tfst (pkTs k) (insL r) p)).1) (d := i) (by rw [hv0]; exact q1)).congr (fun t => rfl) (fun t => rfl) rfl
    have hb1 : Below N1 (16 * (i + 1)) := fun j hj => by
      rcases m.ge j hj with hh | hh
      · have := hN j hh; omega
      · omega
    obtain ⟨ι2, N2, s1, s2, s3, s4⟩ := entry_ok (ks := r) (i := i + 1) (σ := σ1) hs1 hb1 rfl hr (List.nodup_append.1 hn).2.1 hnext hc2 (fun j u hj => by
      have := ht (j + 1) u (by simpa using hj)
      rw [← this]; congr 1; omega)
    refine ⟨ι2, N2, s1, s2, fun j hj => ⟨(s3 j (m.old j hj).1).1, by rw [(s3 j (m.old j hj).1).2]; exact (m.old j hj).2⟩, fun y hy => ?_⟩
    have hsplit : y ∈ pinsFor i [k] [v] ∨ y ∈ pinsFor (i + 1) r vs' := by
      cases k with
      | val ag ts => exact .inr (by simpa [pinsFor] using hy)
      | own t => exact .inr (by simpa [pinsFor] using hy)
      | ow t => exact .inr (by simpa [pinsFor] using hy)
      | box ts => simp [pinsFor] at hy ⊢; exact hy
      | fn f caps =>
        obtain ⟨us, e, _⟩ := hk
        subst e
        simp [pinsFor] at hy ⊢
        exact hy
    rcases hsplit with hy | hy
    · obtain ⟨k1, k2⟩ := q2 y hy
      exact ⟨(s3 _ k1).1, by rw [(s3 _ k1).2]; exact k2⟩
    · exact s4 y hy

/-! ### The results -/

end
end Go.Abs

/- Abs, part Zt: what is told as our own is told no more. -/
namespace Go.Abs
section
variable {P : Program} {R : Type} {F : Fr} {ι : Nat → Value} {ok : Ok} {N : Nat → Prop} {σ σ0 : St} {a : Act} {w : World} {o : Oper} {r : R}

theorem all_heq {A B β : Type} (e : B = A) {x : List A} {y : List B} (hy : HEq y x) {Q : A → β → Prop} {Q' : B → β → Prop} (hQ : ∀ x y v, HEq y x → Q x v → Q' y v) {vs : List β} (h : All2 Q x vs) : All2 Q' y vs := by
  subst e
  cases eq_of_heq hy
  exact All2.mono (fun x v hx => hQ x x v HEq.rfl hx) h
theorem cp_heq {A B : Type} (e : B = A) {x : List A} {y : List B} (hy : HEq y x) {z : A} {z' : B} (hz : HEq z' z) (n : Nat) : HEq (y ++ List.replicate n z') (x ++ List.replicate n z) := by
  subst e
  cases eq_of_heq hy
  cases eq_of_heq hz
  exact HEq.rfl
theorem pair_heq {A B C D : Type} (e : C = A) (f : D = B) {a : A} {b : B} {c : C} {d : D} (h : HEq c a) (k : HEq d b) : HEq (c, d) (a, b) := by
  subst e; subst f
  cases eq_of_heq h
  cases eq_of_heq k
  exact HEq.rfl
theorem nil_heq {A B : Type} (e : B = A) : HEq ([] : List B) ([] : List A) := by subst e; exact HEq.rfl
theorem zero_heq : ∀ t : Ty, HEq t.wild.zero t.zero
  | .int _ => HEq.rfl
  | .bool => HEq.rfl
  | .str => HEq.rfl
  | .sl e => nil_heq (Ty.wild_den e)
  | .pr a b => pair_heq (Ty.wild_den a) (Ty.wild_den b) (zero_heq a) (zero_heq b)
  | .un => HEq.rfl
  | .pl _ => HEq.rfl
theorem wildL_heq (t : Ty) (xs : List t.den) : HEq (wildL t xs) xs := cast_heq _ _
theorem wildL_len (t : Ty) (xs : List t.den) : (wildL t xs).length = xs.length :=
  (list_heq (Ty.wild_den t) (xs := xs) (ys := wildL t xs) (wildL_heq t xs) (Q := fun _ _ => True) (Q' := fun _ _ => True) (fun _ _ _ _ h => h)).1

theorem Ok.thaw_any {b o : Nat} : ok.thaw.any b o ↔ ok.any b o := by
  constructor
  · rintro (h | h | h | h)
    · exact .inl h
    · exact h.elim
    · exact .inr (.inl h)
    · exact .inr (.inr h)
  · rintro (h | h | h)
    · exact .inl h
    · exact .inr (.inr (.inl h))
    · exact .inr (.inr (.inr h))

theorem RepC.thaw {c : Cell} {v : Value} (h : RepC w ok ι N c v) : RepC w ok.thaw ι N c.thaw v := by
  cases c with
  | dat t x => exact RepD.thaw h
  | vptr t x off =>
    obtain ⟨b, o, us, e, h1, h2, h3⟩ := h
    exact ⟨b, o, us, e, RepD.thaw h1, h2, h3⟩
  | own t id => exact h
  | eptr t id i off =>
    obtain ⟨h1, b, o, n, cap, h2, h3⟩ := h
    exact ⟨h1, b, o, n, cap, h2, by rw [Ty.wild_sz]; exact h3⟩
  | win t id lo n =>
    obtain ⟨h1, b, o, len, cap, c', h2, h3⟩ := h
    exact ⟨h1, b, o, len, cap, c', h2, by rw [Ty.wild_sz]; exact h3⟩
  | wptr => obtain ⟨b, o, e, h⟩ := h; exact ⟨b, o, e, .inr h⟩
  | _ => exact h
theorem RepCs.thaw : ∀ {cs : List Cell} {vs : List Value}, All2 (RepC w ok ι N) cs vs → All2 (RepC w ok.thaw ι N) (cs.map Cell.thaw) vs
  | [], [], _ => trivial
  | _ :: _, [], h => h.elim
  | [], _ :: _, h => h.elim
  | _ :: _, _ :: _, ⟨h1, h2⟩ => ⟨RepC.thaw h1, RepCs.thaw h2⟩
theorem RepV1.thaw {x : V1} {v : Value} (h : RepV1 w ok ι N x v) : RepV1 w ok.thaw ι N x.thaw v := by
  cases x with
  | one c => exact RepC.thaw h
  | agg cs => obtain ⟨vs, e, h⟩ := h; exact ⟨vs, e, RepCs.thaw h⟩
theorem RepV1s.thaw : ∀ {cs : List V1} {vs : List Value}, All2 (RepV1 w ok ι N) cs vs → All2 (RepV1 w ok.thaw ι N) (cs.map V1.thaw) vs
  | [], [], _ => trivial
  | _ :: _, [], h => h.elim
  | [], _ :: _, h => h.elim
  | _ :: _, _ :: _, ⟨h1, h2⟩ => ⟨RepV1.thaw h1, RepV1s.thaw h2⟩
theorem RepAV.thaw {x : AV} {v : Value} (h : RepAV w ok ι N x v) : RepAV w ok.thaw ι N x.thaw v := by
  cases x with
  | val x => exact RepV1.thaw h
  | tup l => obtain ⟨vs, e, h⟩ := h; exact ⟨vs, e, RepV1s.thaw h⟩

theorem wild_flat : ∀ {t : Ty}, hasSl t = false → t.wild = t
  | .int _, _ => rfl
  | .bool, _ => rfl
  | .str, _ => rfl
  | .sl _, h => by cases h
  | .pr a b, h => by
    simp only [hasSl, Bool.or_eq_false_iff] at h
    show Ty.pr a.wild b.wild = _
    rw [wild_flat h.1, wild_flat h.2]
  | .un, _ => rfl
  | .pl _, h => by cases h

theorem RepE.thaw {ag : Bool} {t : Ty} (ht : hasSl t = false) {x : t.den} {y : t.wild.den} (hy : HEq y x) {v : Value} (h : RepE w ok ag t x v) : RepE w ok.thaw ag t.wild y v := by
  have e := wild_flat ht
  revert y
  rw [e]
  intro y hy
  cases eq_of_heq hy
  cases ag with
  | false => exact RepD.flat ht h
  | true => obtain ⟨vs, e, h⟩ := h; exact ⟨vs, e, RepD.flat ht h⟩

theorem hasSl_wild : ∀ {t : Ty}, hasSl t = false → hasSl t.wild = false := fun h => by rw [wild_flat h]; exact h

theorem EntRep.thaw {ka va : Bool} : ∀ {t : Ty} {x : t.den} {y : t.wild.den}, HEq y x → ∀ {e : MapEntry}, EntRep w ok ka va t x e → EntRep w ok.thaw ka va t.wild y e
  | .pr k v, x, y, hy, e, ⟨h1, h2, h3, h4⟩ => by
    obtain ⟨y1, y2⟩ := prod_heq (Ty.wild_den k) (Ty.wild_den v) (x := x) (y := y) hy
    exact ⟨hasSl_wild h1, hasSl_wild h2, h3.thaw h1 y1, h4.thaw h2 y2⟩
  | .int _, _, _, _, _, h => h.elim
  | .bool, _, _, _, _, h => h.elim
  | .str, _, _, _, _, h => h.elim
  | .sl _, _, _, _, _, h => h.elim
  | .un, _, _, _, _, h => h.elim
  | .pl _, _, _, _, _, h => h.elim

theorem ArrAt.thaw {t : Ty} {xs : List t.den} {mu : MK} {b o cap : Nat} {ys : List t.wild.den} (hy : HEq ys xs) (h : ArrAt w ok t xs mu b o cap) : ArrAt w ok.thaw t.wild ys mu b o cap := by
  obtain ⟨c, T, fz, h1, h2, h3, ⟨us, h4, h5⟩, h6, h7⟩ := h
  obtain ⟨l1, l2, l3⟩ := list_heq (Ty.wild_den t) (xs := xs) (ys := ys) hy (Q := fun x us => RepD w ok t x us) (Q' := fun y us => RepD w ok.thaw t.wild y us) (fun x y hxy us hr => RepD.thawH hxy hr)
  refine ⟨c, T, fz, h1, by rw [Ty.wild_sz]; exact h2, by rw [Ty.wild_sz]; exact h3, ⟨us, l3 us h4, h5⟩, fun hm j hj => h6 hm j (Ok.thaw_any.1 hj), fun hm => ⟨fun j hj => ?_, fun j hj => (h7 hm).2 j (by rw [Ty.wild_sz, l1] at hj; exact hj)⟩⟩
  obtain ⟨q1, q2, q3⟩ := (h7 hm).1 j (Ok.thaw_any.1 hj)
  exact ⟨by rw [Ty.wild_sz, l1]; exact q1, fun k => k, fun k => k.elim q2 q3⟩

theorem SlRep.thaw {t : Ty} {xs : List t.den} {mu : MK} {V : Value} (h : SlRep w ok t xs mu V) : SlRep w ok.thaw t.wild (wildL t xs) mu V := by
  obtain ⟨A, cap, e, h1, h2, h3⟩ := h
  refine ⟨A, cap, by rw [wildL_len]; exact e, by rw [wildL_len]; exact h1, by rw [wildL_len]; exact h2, ?_⟩
  rcases h3 with ⟨rfl, rfl, rfl⟩ | ⟨b, o, rfl, h⟩
  · exact .inl ⟨rfl, List.length_eq_zero_iff.1 (wildL_len t []), rfl⟩
  · exact .inr ⟨b, o, rfl, h.thaw (wildL_heq t xs)⟩

theorem ObjRep.thaw {o : AO} {V : Value} (h : ObjRep w ok ι N o V) : ObjRep w ok.thaw ι N o.thaw V := by
  cases o with
  | box cs =>
    obtain ⟨B, c, T, e, h1, h2, h3⟩ := h
    exact ⟨B, c, T, e, h1, RepCs.thaw h2, fun j hj => h3 j (Ok.thaw_any.1 hj)⟩
  | arr t xs mu =>
    cases mu with
    | fr => exact SlRep.thaw h
    | wr => exact SlRep.thaw h
    | mp ka va =>
      obtain ⟨b, es, clock, e, h1, h2, h3, h4⟩ := h
      exact ⟨b, es, clock, e, h1, all_heq (Ty.wild_den t) (wildL_heq t xs) (Q := EntRep w ok ka va t) (Q' := EntRep w ok.thaw ka va t.wild) (fun x y v hxy hx => EntRep.thaw hxy hx) h2, fun j hj => h3 j (Ok.thaw_any.1 hj), by rw [wildL_len]; exact h4⟩
    | cp c =>
      obtain ⟨b, o, e, h1, h2, h3⟩ := h
      refine ⟨b, o, by rw [wildL_len]; exact e, by rw [wildL_len]; exact h1, h2, ?_⟩
      rw [wildL_len]
      exact h3.thaw (cp_heq (Ty.wild_den t) (wildL_heq t xs) (zero_heq t) _)

theorem look_mapv {α β : Type} (f : α → β) : ∀ (l : List (Nat × α)) (i : Nat), look (l.map fun x => (x.1, f x.2)) i = (look l i).map f
  | [], _ => rfl
  | (j, x) :: r, i => by
    simp only [List.map_cons, look_cons, look_mapv f r i]
    split <;> rfl

theorem St.get_thaw (σ : St) (t : Nat) : σ.thaw.get t = (σ.get t).thaw := by
  show (look (σ.tm.map fun x => (x.1, x.2.thaw)) t).getD (.val (.one .any)) = ((look σ.tm t).getD (.val (.one .any))).thaw
  rw [look_mapv AV.thaw]
  cases look σ.tm t <;> rfl
theorem St.thaw_hp (σ : St) : σ.thaw.hp = σ.hp.map fun x => (x.1, x.2.map fun b => (⟨true, b.o.thaw⟩ : Ob)) := by
  refine List.map_congr_left fun x _ => ?_
  obtain ⟨i, x⟩ := x
  cases x <;> rfl
theorem St.ob_thaw (σ : St) (i : Nat) : σ.thaw.ob i = (σ.ob i).map AO.thaw := by
  unfold St.ob
  rw [St.thaw_hp, look_mapv]
  cases look σ.hp i with
  | none => rfl
  | some x => cases x <;> rfl

theorem Sim.thaw (h : Sim F ι ok N σ a w) (h0 : ∀ b o, ¬F.ok0.c b o) : Sim F ι ok.thaw N σ.thaw a w where
  tms t := by rw [St.get_thaw]; exact (h.tms t).thaw
  objs id o ho := by
    rw [St.ob_thaw] at ho
    cases hp : σ.ob id with
    | none => rw [hp] at ho; cases ho
    | some p =>
      rw [hp] at ho
      cases ho
      obtain ⟨g1, g2, g3⟩ := h.objs id p hp
      exact ⟨g1, g2.thaw, g3⟩
  apart i j o p b hi hj := by
    rw [St.ob_thaw] at hi hj
    cases hp : σ.ob i with
    | none => rw [hp] at hi; cases hi
    | some p' => cases hq : σ.ob j with
      | none => rw [hq] at hj; cases hj
      | some q' => exact h.apart i j p' q' b hp hq
  oks b o hk := h.oks b o (Ok.thaw_any.1 hk)
  keep := ⟨h.keep.size, h.keep.old, h.keep.os, h.keep.tape, h.keep.output, h.keep.kept, fun b o hk => h.keep.new b o (Ok.thaw_any.1 hk)⟩
  size := h.size
  defs := h.defs
  pins := h.pins
  pls := ⟨fun b o hk => h.pls.cs b o (hk.elim (fun hk => hk.elim) (fun hk => hk)), fun b o _ k => k, fun b o hk => absurd hk (h0 b o), fun b o hk => .inr (h.pls.kd b o hk)⟩

/-- The way of a function. -/
theorem execTop_ok {I : Inl} (hI : InlOk P I) {m : Fu} {Γ : List Summ} (hΓ : ∀ S ∈ Γ, Sound P S) (hmix : P.follows .mixedOrders = true) {ann : List (Nat × Ann)} : ∀ (k : Nat) (c : Code) (p : Nat) {R : Type} (F : Fr) (ι : Nat → Value) (ok : Ok) (N : Nat → Prop) (σ : St) (a : Act) (w : World) (K : AX → St → Option R) (r : R), GOk P F.w0 F.ok0.p →
    (∀ b o, ¬F.ok0.c b o) → Sim F ι ok N σ a w → Below N σ.nxt → execTop I P Γ m ann k c p σ K = some r →
    ∀ Q : Exit → Act → World → Prop, (∀ e σ' a' w' ι' ok' N', Sim F ι' ok' N' σ' a' w' → Below N' σ'.nxt → K e σ' = some r → Q (exitOf e) a' w') → c.wp P Q a w := by
  intro k
  induction k with
  | zero =>
    intro c p R F ι ok N σ a w K r hG h0 h hN hr Q hQ
    have hr : exec I P Γ m ann c p σ.thaw K = some r := by cases c <;> exact hr
    exact exec_ok hI hΓ hmix c p F ι ok.thaw N σ.thaw a w K r hG (h.thaw h0) hN hr Q (fun e σ' a' w' ι' ok' N' t1 t2 t3 t4 => hQ e σ' a' w' ι' ok' N' t1 t2 t4)
  | succ k ih =>
    intro c p R F ι ok N σ a w K r hG h0 h hN hr Q hQ
    cases c with
    | seq x y =>
      simp only [execTop] at hr
      refine wp_seq (exec_ok hI hΓ hmix x (2 * p) F ι ok N σ a w _ r hG h hN hr _ (fun e σ' a' w' ι' ok' N' s1 s2 s3 s4 => ?_))
      cases e with
      | normal => exact ih y (2 * p + 1) F ι' ok' N' σ' a' w' K r hG h0 s1 s2 s4 Q hQ
      | exit i => exact hQ (.exit i) σ' a' w' ι' ok' N' s1 s2 s4
      | ret => exact hQ .ret σ' a' w' ι' ok' N' s1 s2 s4
    | _ => cases hr

theorem execFn_ok {I : Inl} (hI : InlOk P I) {m : Fu} {Γ : List Summ} (hΓ : ∀ S ∈ Γ, Sound P S) (hmix : P.follows .mixedOrders = true) {ann : List (Nat × Ann)} (c : Code) {R : Type} (F : Fr) (ι : Nat → Value) (ok : Ok) (N : Nat → Prop) (σ : St) (a : Act) (w : World) (K : AX → St → Option R) (r : R) (hG : GOk P F.w0 F.ok0.p)
    (h0 : ∀ k, look ann 0 = some (.thaw k) → ∀ b o, ¬F.ok0.c b o) (h : Sim F ι ok N σ a w) (hN : Below N σ.nxt) (hr : execFn I P Γ m ann c σ K = some r)
    (Q : Exit → Act → World → Prop) (hQ : ∀ e σ' a' w' ι' ok' N', Sim F ι' ok' N' σ' a' w' → Below N' σ'.nxt → K e σ' = some r → Q (exitOf e) a' w') : c.wp P Q a w := by
  have hex : ∀ hr : exec I P Γ m ann c 1 σ K = some r, c.wp P Q a w := fun hr => exec_ok hI hΓ hmix c 1 F ι ok N σ a w K r hG h hN hr Q (fun e σ' a' w' ι' ok' N' t1 t2 t3 t4 => hQ e σ' a' w' ι' ok' N' t1 t2 t4)
  unfold execFn at hr
  cases hl : look ann 0 with
  | none => rw [hl] at hr; exact hex hr
  | some x =>
    rw [hl] at hr
    cases x with
    | thaw k => exact execTop_ok hI hΓ hmix k c 1 F ι ok N σ a w K r hG (h0 k hl) h hN hr Q hQ
    | _ => exact hex hr
end
end Go.Abs

/- Abs, part Zd: the end of a function; functions. -/
namespace Go.Abs
section
variable {P : Program} {R : Type} {F : Fr} {ι : Nat → Value} {ok : Ok} {N : Nat → Prop} {σ σ0 : St} {a : Act} {w : World} {o : Oper} {r : R}

def Rvs : List (Bool × List CK) → List Value → List Value → Prop
  | [], [], flat => flat = []
  | (false, ks) :: r, u :: us, flat => ks.length = 1 ∧ ∃ f, flat = u :: f ∧ Rvs r us f
  | (true, ks) :: r, u :: us, flat => ∃ (c f : List Value), flat = c ++ f ∧ c.length = ks.length ∧ u = .agg c.toArray ∧ Rvs r us f
  | _, _, _ => False

theorem resCells_ok : ∀ {l : List (Bool × List CK)} {vs : List V1} {cs : List Cell} {us : List Value}, resCells l vs = some cs → All2 (RepV1 w ok ι N) vs us → ∃ flat, All2 (RepC w ok ι N) cs flat ∧ Rvs l us flat
  | [], [], cs, [], h, _ => by cases h; exact ⟨[], trivial, rfl⟩
  | [], [], _, _ :: _, _, hv => hv.elim
  | [], _ :: _, cs, _, h, _ => by simp [resCells] at h
  | _ :: _, [], cs, _, h, _ => by simp [resCells] at h
  | _ :: _, _ :: _, _, [], _, hv => hv.elim
  | (ag, ks) :: r, v :: vs, cs, u :: us, h, hv => by
    simp only [resCells] at h
    split at h
    · cases h
    · rename_i cs' hcs
      obtain ⟨flat, h1, h2⟩ := resCells_ok hcs hv.2
      have hu := hv.1
      split at h
      · rename_i c
        cases hb : Nat.beq ks.length 1 with
        | false => simp [hb] at h
        | true =>
          simp only [hb, cond_true] at h
          cases h
          exact ⟨u :: flat, ⟨hu, h1⟩, Nat.eq_of_beq_eq_true hb, flat, rfl, h2⟩
      · rename_i ds
        cases hb : Nat.beq ks.length ds.length with
        | false => simp [hb] at h
        | true =>
          simp only [hb, cond_true] at h
          cases h
          obtain ⟨c, e, hc⟩ := hu
          rw [app_eq]
          exact ⟨c ++ flat, All2.app hc h1, c, flat, rfl, by rw [← hc.len]; exact (Nat.eq_of_beq_eq_true hb).symm, e, h2⟩
      · cases h

theorem grab_cks (h : Sim F ι ok N σ a w) : ∀ {ks : List CK} {cs : List Cell} {vs : List Value} {p : (tupT (pay ks)).den}, grab σ ks cs = some p → All2 (RepC w ok ι N) cs vs → cstB ks = true →
    CksRep w ok ks p vs (bsOf ι (srcs ks cs)) ∧ ∀ id ∈ srcs ks cs, ∃ e ys m, σ.ob id = some (.arr e ys m)
  | [], [], [], _, _, _, _ => ⟨⟨rfl, rfl⟩, fun id hi => by cases hi⟩
  | [], [], _ :: _, _, _, hv, _ => hv.elim
  | [], _ :: _, _, _, hg, _, _ => by simp [grab] at hg
  | .cst c :: ks, [], _, _, hg, _, _ => by simp [grab] at hg
  | .dat t :: ks, [], _, _, hg, _, _ => by simp [grab] at hg
  | .own t g mu :: ks, [], _, _, hg, _, _ => by simp [grab] at hg
  | _ :: _, _ :: _, [], _, _, hv, _ => hv.elim
  | .cst c :: ks, d :: cs, v :: vs, p, hg, hv, hc => by
    simp only [grab] at hg
    have es : srcs (.cst c :: ks) (d :: cs) = srcs ks cs := by cases d <;> rfl
    rw [es]
    cases hb : c.same d with
    | false => simp [hb] at hg
    | true =>
      simp only [hb, cond_true] at hg
      have hc2 : cstB ks = true := by
        cases c with
        | fn f caps => cases caps <;> simp_all [cstB]
        | _ => simp_all [cstB]
      obtain ⟨q1, q2⟩ := grab_cks h (ks := ks) hg hv.2 hc2
      refine ⟨⟨v, vs, rfl, ?_, q1⟩, q2⟩
      cases c with
      | any => trivial
      | skip => cases d <;> simp [Cell.same] at hb; exact hv.1
      | nils => cases d <;> simp [Cell.same] at hb; exact hv.1
      | nilp => cases d <;> simp [Cell.same] at hb; exact hv.1
      | fn f caps =>
        cases caps with
        | cons _ _ => simp [cstB] at hc
        | nil =>
          cases d with
          | fn g ds =>
            simp [Cell.same] at hb
            obtain ⟨e1, e2⟩ := hb
            have e1 : f = g := e1
            subst e1
            subst e2
            obtain ⟨us, e, h1⟩ := hv.1
            cases us with
            | nil => exact ⟨[], e, trivial⟩
            | cons _ _ => exact h1.elim
          | _ => simp [Cell.same] at hb
      | _ => simp [cstB] at hc
  | .dat t :: ks, d :: cs, v :: vs, p, hg, hv, hc => by
    simp only [grab] at hg
    have es : srcs (.dat t :: ks) (d :: cs) = srcs ks cs := by cases d <;> rfl
    rw [es]
    split at hg
    · rename_i x hx
      split at hg
      · rename_i y hy
        cases hg
        obtain ⟨q1, q2⟩ := grab_cks h (ks := ks) hy hv.2 (by simpa [cstB] using hc)
        exact ⟨⟨v, vs, rfl, by rw [thd_tcons]; exact h.toDatS hx hv.1, by rw [ttl_tcons]; exact q1⟩, q2⟩
      · cases hg
    · cases hg
  | .own t g mu :: ks, d :: cs, v :: vs, p, hg, hv, hc => by
    simp only [grab] at hg
    split at hg
    · rename_i x hx
      split at hg
      · rename_i y hy
        cases hg
        obtain ⟨q1, q2⟩ := grab_cks h (ks := ks) hy hv.2 (by simpa [cstB] using hc)
        obtain ⟨g1, g2⟩ := toOwn_obj h hx hv.1
        rcases g2 with ⟨e, id, rfl, e2, e3, e4⟩ | ⟨rfl, e2, e3, e5⟩
        · refine ⟨⟨v, vs, bsOf ι (srcs ks cs), rfl, ?_, ?_, by rw [ttl_tcons]; exact q1⟩, fun i hi => ?_⟩
          · show bsOf ι (id :: srcs ks cs) = _
            rw [e2]; rfl
          · rw [thd_tcons]; exact e4.arr
          · rcases List.mem_cons.1 (show i ∈ id :: srcs ks cs from hi) with rfl | hi
            · exact e3
            · exact q2 i hi
        · refine ⟨⟨v, vs, bsOf ι (srcs ks cs), rfl, by rw [e2]; rfl, ?_, by rw [ttl_tcons]; exact q1⟩, fun i hi => q2 i hi⟩
          rw [thd_tcons, e3]
          exact ObjRep.of_sl e5 ⟨none, 0, e2, Nat.le_refl _, Nat.zero_le _, .inl ⟨rfl, rfl, rfl⟩⟩
      · cases hg
    · cases hg

theorem srcs_cut : ∀ (ks more : List CK) (cs : List Cell), ks.length ≤ cs.length → srcs (ks ++ more) cs = srcs ks (cs.take ks.length) ++ srcs more (cs.drop ks.length)
  | [], more, cs, _ => by simp [srcs]
  | .cst c :: ks, more, [], h => by simp at h
  | .dat t :: ks, more, [], h => by simp at h
  | .own t g mu :: ks, more, [], h => by simp at h
  | .cst c :: ks, more, d :: cs, h => by
    have ih := srcs_cut ks more cs (by simpa using h)
    cases d <;> simp [srcs, ih]
  | .dat t :: ks, more, d :: cs, h => by
    have ih := srcs_cut ks more cs (by simpa using h)
    cases d <;> simp [srcs, ih]
  | .own t g mu :: ks, more, d :: cs, h => by
    have ih := srcs_cut ks more cs (by simpa using h)
    cases d <;> simp [srcs, ih]

theorem grabRes_ok (h : Sim F ι ok N σ a w) : ∀ {l : List (Bool × List CK)} {cs : List Cell} {us flat : List Value} {x : (tupT (resTs l)).den}, grabRes σ l cs = some x → All2 (RepC w ok ι N) cs flat → Rvs l us flat → resCst l = true →
    ResRep w ok l x us (bsOf ι (srcs (resCks l) cs)) ∧ ∀ id ∈ srcs (resCks l) cs, ∃ e ys m, σ.ob id = some (.arr e ys m)
  | [], [], us, flat, x, hg, hv, hr, hc => by
    cases us with
    | nil => exact ⟨⟨rfl, rfl⟩, fun id hi => by cases hi⟩
    | cons _ _ => exact hr.elim
  | [], _ :: _, us, flat, x, hg, _, _, _ => by simp [grabRes] at hg
  | (ag, ks) :: r, cs, us, flat, x, hg, hv, hr, hc => by
    simp only [grabRes] at hg
    simp only [resCst, Bool.and_eq_true] at hc
    split at hg
    · rename_i y hy
      split at hg
      · rename_i z hz
        cases hg
        have hl := grab_len hy
        have hle : ks.length ≤ cs.length := by rw [List.length_take] at hl; omega
        have es : srcs (resCks ((ag, ks) :: r)) cs = srcs ks (cs.take ks.length) ++ srcs (resCks r) (cs.drop ks.length) := by
          rw [resCks, app_eq, srcs_cut _ _ _ hle]
        rw [es]
        have hv1 := hv.take ks.length
        have hv2 := hv.drop ks.length
        cases us with
        | nil => cases ag <;> exact hr.elim
        | cons u us =>
          have key : ∃ c f, flat.take ks.length = c ∧ flat.drop ks.length = f ∧ Rvs r us f ∧ ∀ bs, CksRep w ok ks y c bs → V1Rep w ok ag ks y u bs := by
            cases ag with
            | false =>
              obtain ⟨hk, f, rfl, h2⟩ := hr
              refine ⟨[u], f, by rw [hk]; rfl, by rw [hk]; rfl, h2, fun bs hb => ⟨hk, hb⟩⟩
            | true =>
              obtain ⟨c, f, rfl, hk, e, h2⟩ := hr
              refine ⟨c, f, by rw [← hk, List.take_left' rfl], by rw [← hk, List.drop_left' rfl], h2, fun bs hb => ⟨c, e, hb⟩⟩
          obtain ⟨c, f, e1, e2, e3, e4⟩ := key
          rw [e1] at hv1
          rw [e2] at hv2
          obtain ⟨q1, q2⟩ := grab_cks h hy hv1 hc.1
          obtain ⟨q3, q4⟩ := grabRes_ok h (l := r) hz hv2 e3 hc.2
          refine ⟨⟨u, us, bsOf ι (srcs ks (cs.take ks.length)), bsOf ι (srcs (resCks r) (cs.drop ks.length)), rfl, by simp [bsOf], by rw [tfst_tapp]; exact e4 _ q1, by rw [tsnd_tapp]; exact q3⟩, fun id hi => ?_⟩
          rcases List.mem_append.1 hi with hi | hi
          · exact q2 id hi
          · exact q4 id hi
      · cases hg
    · cases hg

/-! ### The boxes -/
theorem box_out (h : Sim F ι ok N σ a w) {j : Nat} {v : Value} (hj : ι j = v) {cs : List Cell} {ts : List Ty} {x : (tupT ts).den} (hc : boxCells σ j = some cs) (hg : grabTs σ ts cs = some x) : ∃ B, BoxRep w ok ts x v B ∧ blk v = some B ∧ ∃ id ds, σ.ob id = some (.box ds) ∧ blk (ι id) = some B := by
  obtain ⟨B, hB, hr⟩ := boxRep h hc hg
  rw [hj] at hr
  exact ⟨B, hr, by rw [← hj]; exact hB, j, cs, boxCells_some hc, hB⟩

theorem caps_out (h : Sim F ι ok N σ a w) : ∀ {caps : List (List Ty)} {j : Nat} {x : (tupT (concatT caps)).den} {us : List Value}, grabCaps σ caps (entryPar.ids j caps) = some x → us.length = caps.length → (∀ y ∈ capPins j us, ι y.1 = y.2) →
    CapsOut w ok caps x us ∧ ∀ v ∈ us, ∀ b, blk v = some b → ∃ id ds, σ.ob id = some (.box ds) ∧ blk (ι id) = some b
  | [], j, x, us, hg, hl, _ => by
    have : us = [] := List.length_eq_zero_iff.1 hl
    subst this
    exact ⟨rfl, fun v hv => by cases hv⟩
  | ts :: r, j, x, [], hg, hl, _ => by simp at hl
  | ts :: r, j, x, u :: us, hg, hl, hp => by
    simp only [entryPar.ids, grabCaps] at hg
    simp only [show Nat.beq 0 0 = true from rfl, cond_true] at hg
    split at hg
    · rename_i cs hcs
      split at hg
      · rename_i y hy
        split at hg
        · rename_i z hz
          cases hg
          obtain ⟨q1, q2⟩ := caps_out h (caps := r) hz (by simpa using hl) (fun y hy => hp y (by simp [capPins, hy]))
          obtain ⟨B, k1, k2, k3⟩ := box_out h (hp (j, u) (by simp [capPins])) hcs hy
          refine ⟨⟨u, us, B, rfl, by rw [tfst_tapp]; exact k1, by rw [tsnd_tapp]; exact q1⟩, fun v hv b hb => ?_⟩
          rcases List.mem_cons.1 hv with rfl | hv
          · rw [k2] at hb; cases hb; exact k3
          · exact q2 v hv b hb
        · cases hg
      · cases hg
    · cases hg

theorem CapsRep.len {w : World} {ok : Ok} : ∀ {caps : List (List Ty)} {x : (tupT (concatT caps)).den} {us : List Value} {bs : List Nat}, CapsRep w ok caps x us bs → us.length = caps.length
  | [], _, _, _, ⟨e, _⟩ => by rw [e]; rfl
  | ts :: r, _, _, _, ⟨v, vs', B, bs', e, _, _, h⟩ => by rw [e, List.length_cons, List.length_cons, CapsRep.len h]

theorem outs_ok (h : Sim F ι ok N σ a w) {w0 : World} {ok0 : Ok} : ∀ {ks : List PK} {i : Nat} {y : (tupT (outsP ks)).den} {p : (tupT (insL ks)).den} {vs : List Value} {bs : List Nat}, outsGet σ i ks = some y → ArgsRep w0 ok0 ks p vs bs → (∀ x ∈ pinsFor i ks vs, ι x.1 = x.2) →
    OutsRep w ok ks y vs ∧ ∀ b ∈ boxBs ks vs, ∃ id ds, σ.ob id = some (.box ds) ∧ blk (ι id) = some b
  | [], i, y, p, vs, bs, hg, ⟨e, _⟩, hp => by subst e; exact ⟨rfl, fun b hb => by cases hb⟩
  | .val ag ts :: r, i, y, p, vs, bs, hg, ⟨v, vs', b1, b2, e, _, _, hr⟩, hp => by
    subst e
    obtain ⟨q1, q2⟩ := outs_ok h (ks := r) (i := i + 1) hg hr (fun x hx => hp x (by simpa [pinsFor] using hx))
    exact ⟨⟨v, vs', rfl, q1⟩, fun b hb => q2 b (by simpa [boxBs] using hb)⟩
  | .own t :: r, i, y, p, vs, bs, hg, ⟨v, vs', b1, b2, e, _, _, hr⟩, hp => by
    subst e
    obtain ⟨q1, q2⟩ := outs_ok h (ks := r) (i := i + 1) hg hr (fun x hx => hp x (by simpa [pinsFor] using hx))
    exact ⟨⟨v, vs', rfl, q1⟩, fun b hb => q2 b (by simpa [boxBs] using hb)⟩
  | .ow t :: r, i, y, p, vs, bs, hg, ⟨v, vs', b1, b2, e, _, _, hr⟩, hp => by
    subst e
    obtain ⟨q1, q2⟩ := outs_ok h (ks := r) (i := i + 1) hg hr (fun x hx => hp x (by simpa [pinsFor] using hx))
    exact ⟨⟨v, vs', rfl, q1⟩, fun b hb => q2 b (by simpa [boxBs] using hb)⟩
  | .box ts :: r, i, y, p, vs, bs, hg, ⟨v, vs', b1, b2, e, _, _, hr⟩, hp => by
    subst e
    simp only [outsGet] at hg
    split at hg
    · rename_i cs hcs
      split at hg
      · rename_i x hx
        split at hg
        · rename_i z hz
          cases hg
          obtain ⟨q1, q2⟩ := outs_ok h (ks := r) (i := i + 1) hz hr (fun x hx => hp x (by simp [pinsFor, hx]))
          obtain ⟨B, k1, k2, k3⟩ := box_out h (hp (16 * i, v) (by simp [pinsFor])) hcs hx
          refine ⟨⟨v, vs', B, rfl, by rw [tfst_tapp]; exact k1, by rw [tsnd_tapp]; exact q1⟩, fun b hb => ?_⟩
          simp only [boxBs, k2, Option.toList_some, List.singleton_append, List.mem_cons] at hb
          rcases hb with rfl | hb
          · exact k3
          · exact q2 b hb
        · cases hg
      · cases hg
    · cases hg
  | .fn f caps :: r, i, y, p, vs, bs, hg, ⟨v, vs', b1, b2, e, _, ⟨us, ev, hc⟩, hr⟩, hp => by
    subst e
    subst ev
    simp only [outsGet] at hg
    split at hg
    · rename_i x hx
      split at hg
      · rename_i z hz
        cases hg
        obtain ⟨q1, q2⟩ := outs_ok h (ks := r) (i := i + 1) hz hr (fun x hx => hp x (by simp [pinsFor, hx]))
        obtain ⟨k1, k2⟩ := caps_out h hx hc.len (fun x hx => hp x (by simp [pinsFor, hx]))
        refine ⟨⟨us, vs', _, rfl, rfl, by rw [tfst_tapp]; exact k1, by rw [tsnd_tapp]; exact q1⟩, fun b hb => ?_⟩
        simp only [boxBs, List.mem_append, List.mem_flatMap] at hb
        rcases hb with ⟨v, hv, hb⟩ | hb
        · exact k2 v (by simpa using hv) b (by simpa using hb)
        · exact q2 b hb
      · cases hg
    · cases hg

theorem finish_ok {w0 : World} {bs : List Nat} {ok0 : Ok} {sig : Sig} {p : sig.ins.den} {args : List Value} {bs' : List Nat} (hargs : ArgsRep w0 ok0 sig.pars p args bs') (h : Sim ⟨w0, bs, ok0, pinsFor 0 sig.pars args⟩ ι ok N σ a w) {fn : Func} {rr : sig.outs.den}
    (hf : finish P sig fn.results.toList σ = some rr) (hcst : resCst sig.res = true) : ∃ v, (results fn a.tmps).run P w = .ok v w ∧ ∃ ok' vs rbs, After w0 bs ok0 sig args rr v w ok' vs rbs := by
  unfold finish at hf
  split at hf
  · cases hf
  · rename_i vs hvs
    obtain ⟨us, r1, r2⟩ := results_ok h hvs
    split at hf
    · cases hf
    · rename_i cs hcs
      obtain ⟨flat, c1, c2⟩ := resCells_ok hcs r2
      obtain ⟨ok1, h1, l1⟩ := h.freezeCk (resCks sig.res) cs
      obtain ⟨ok2, h2, l2⟩ := Sim.freeze (lentCells σ 0 sig.pars) h1
      simp only at hf
      cases hb : nodupB (srcs (resCks sig.res) cs) with
      | false => rw [hb] at hf; cases hf
      | true =>
        rw [hb] at hf
        simp only [cond_true] at hf
        have hb := (nodupB_iff _).1 hb
        split at hf
        · rename_i x y hx hy
          cases hf
          have c1 : All2 (RepC w ok2 ι N) cs flat := All2.mono (fun _ _ hc => RepC.mono (ext_ok (l1.trans l2)) (fun _ _ => rfl) (fun _ h => h) hc) c1
          obtain ⟨g1, g2⟩ := grabRes_ok h2 hx c1 c2 hcst
          obtain ⟨o1, o2⟩ := outs_ok h2 hy hargs (fun x hx => (h2.pins x hx).2)
          refine ⟨_, r1, ok2, us, bsOf ι (srcs (resCks sig.res) cs), rfl, ⟨h2.keep.size, h2.keep.old, h2.keep.os, h2.keep.tape, h2.keep.output, h2.keep.kept, h2.keep.new⟩, h2.oks, by rw [tfst_tapp]; exact g1, by rw [tsnd_tapp]; exact o1,
            h2.nodup hb (fun id hi => by obtain ⟨e, ys, m, hh⟩ := g2 id hi; exact ⟨_, hh⟩), ⟨h2.pls.cs, h2.pls.ds, h2.pls.kc, h2.pls.kd⟩, fun b hbm => ?_⟩
          simp only [bsOf, List.mem_flatMap] at hbm
          obtain ⟨id, hid, hbi⟩ := hbm
          have hbi : blk (ι id) = some b := by simpa using hbi
          obtain ⟨e, ys, m, hh⟩ := g2 id hid
          refine ⟨(h2.objs id _ hh).2.2 b hbi, fun hbx => ?_⟩
          obtain ⟨id2, ds, hh2, hb2⟩ := o2 b hbx
          refine h2.apart id id2 _ _ b hh hh2 (fun e => ?_) hbi hb2
          subst e
          rw [hh] at hh2; cases hh2
        · cases hf

theorem ArgsRep.len {w : World} {ok : Ok} : ∀ {ks : List PK} {x : (tupT (insL ks)).den} {vs : List Value} {bs : List Nat}, ArgsRep w ok ks x vs bs → vs.length = ks.length
  | [], _, _, _, ⟨e, _⟩ => by rw [e]; rfl
  | k :: r, _, _, _, ⟨v, vs', b1, b2, e, _, _, h⟩ => by rw [e, List.length_cons, List.length_cons, ArgsRep.len h]

/-- A function's summary is sound. -/
theorem absF_soundF {Γ : List Summ} (hΓ : ∀ S ∈ Γ, Sound P S) (hmix : P.follows .mixedOrders = true) {ann : List (Nat × Ann)} {sig : Sig} {f : FuncId} {fn : Func} {g : Fu → sig.ins.den → Option sig.outs.den}
    (hf : P.funcs[f]? = some fn) (hname : (fn.name == "runtime.NumGoroutine") = false) (heq : ∀ m p, absF P Γ ann sig fn m p = g m p) : SoundF P ⟨f, sig, g⟩ := by
  intro m p rr hg w ok args bs cs hG hargs hnd hoks hpls hnc
  have hg : absF P Γ ann sig fn m p = some rr := by rw [heq]; exact hg
  unfold absF at hg
  split at hg
  · cases hg
  · rename_i c hbody
    cases hc : Nat.ble sig.pars.length fn.ntmps && capsOk sig.pars && resCst sig.res && thawOk ann sig.pars with
    | false => rw [hc] at hg; cases hg
    | true =>
      rw [hc] at hg
      simp only [Bool.not_true, cond_false] at hg
      simp only [Bool.and_eq_true] at hc
      obtain ⟨⟨⟨c1, c2⟩, c3⟩, c4⟩ := hc
      have c1 := Nat.le_of_ble_eq_true c1
      have hlen : args.length = sig.pars.length := hargs.len
      have hrun : (callFunc f args.toArray).run P w = .ok (.enter f args.toArray) w := by
        have hn : ¬ fn.name = "runtime.NumGoroutine" := by simpa using hname
        simp [callFunc, hf, hn, hbody]
      unfold Ends
      dsimp only
      rw [hrun]
      dsimp only
      refine calls_of_wp hf hbody ?_
      let a0 : Act := { tmps := args.toArray ++ Array.replicate (fn.ntmps - args.toArray.size) undef, defers := [] }
      have h0 : Sim ⟨w, bs ++ cs, ok, []⟩ noι ok noN (⟨[], [], 0, fn.ntmps⟩ : St) a0 w := by
        refine ⟨fun t => trivial, (fun id o ho => by cases ho), (fun i j o p b hi => by cases hi), hoks, ⟨Nat.le_refl _, fun _ _ _ => rfl, rfl, rfl, rfl, fun b o hk => ⟨hk, rfl⟩, fun b o hk => .inl hk⟩, ?_, rfl, (fun x hx => by cases hx), hpls⟩
        simp [a0]; omega
      obtain ⟨ι1, N1, s1, s2, s3, s4⟩ := entry_ok (ks := sig.pars) (i := 0) (p := p) h0 (fun i hi => hi.elim) rfl hargs hnd (fun b hb => ⟨.inr (List.mem_append_left _ hb), fun i q hq => by cases hq⟩) c2 (fun j v hj => by
        rw [Nat.zero_add, Array.getD_eq_getD_getElem?]
        show ((args.toArray ++ Array.replicate (fn.ntmps - args.toArray.size) undef)[j]?).getD undef = v
        have hlt : j < args.length := by
          rcases Nat.lt_or_ge j args.length with h | h
          · exact h
          · rw [List.getElem?_eq_none h] at hj; cases hj
        rw [Array.getElem?_append_left (by simpa using hlt)]
        simp [hj])
      have s1' : Sim ⟨w, bs ++ cs, ok, pinsFor 0 sig.pars args⟩ ι1 ok N1 (entry ⟨[], [], 0, fn.ntmps⟩ 0 sig.pars p) a0 w :=
        ⟨s1.tms, s1.objs, s1.apart, s1.oks, ⟨s1.keep.size, s1.keep.old, s1.keep.os, s1.keep.tape, s1.keep.output, s1.keep.kept, s1.keep.new⟩, s1.size, s1.defs, s4, ⟨s1.pls.cs, s1.pls.ds, s1.pls.kc, s1.pls.kd⟩⟩
      refine execFn_ok (inlOf_ok hΓ hmix 6) hΓ hmix c _ ι1 ok N1 _ a0 w _ rr hG (fun k hk => hnc (by unfold thawOk at c4; rw [hk] at c4; exact c4)) s1' s2 hg _ (fun e σ' a' w' ι' ok' N' t1 t2 t4 => ?_)
      cases e with
      | exit i => cases t4
      | normal =>
        obtain ⟨v, hv, hA⟩ := finish_ok hargs t1 t4 c3
        exact ⟨t1.defs, v, hv, v, rfl, hA⟩
      | ret =>
        obtain ⟨v, hv, hA⟩ := finish_ok hargs t1 t4 c3
        exact ⟨t1.defs, v, hv, v, rfl, hA⟩

theorem absF_sound {Γ : List Summ} (hΓ : ∀ S ∈ Γ, Sound P S) (hmix : P.follows .mixedOrders = true) {ann : List (Nat × Ann)} {sig : Sig} {f : FuncId} {fn : Func} {g : Fu → sig.ins.den → Option sig.outs.den}
    (hf : P.funcs[f]? = some fn) (hname : (fn.name == "runtime.NumGoroutine") = false) (heq : ∀ m p, absF P Γ ann sig fn m p = g m p) : Sound P ⟨f, sig, g⟩ := by
  have h := absF_soundF hΓ hmix hf hname heq
  unfold Sound
  split
  · rename_i x hx
    have hno : ∀ m p, absF P Γ ann sig fn m p = none := fun m p => by
      have hres : resCst sig.res = false := by
        unfold winFn at hx
        split at hx
        · rename_i he
          cases he
          rfl
        · rename_i he
          cases he
          rfl
        · cases hx
      unfold absF
      split
      · rfl
      · rw [hres]; simp
    unfold winFn at hx
    split at hx
    · rename_i he
      cases he
      cases hx
      intro m xs n q hq
      have h1 : some q = none := hq.symm.trans ((heq m (xs, n)).symm.trans (hno m (xs, n)))
      cases h1
    · rename_i he
      cases he
      cases hx
      intro m y n z hz
      have h1 : some z = none := hz.symm.trans ((heq m (y, n)).symm.trans (hno m (y, n)))
      cases h1
    · cases hx
  · exact h

theorem mark_sound : Sound P markS := by
  show SoundF P markS
  intro m p r h
  cases h
end
end Go.Abs

/- Abs, part La: what is handed in reads as data: from the form's reading to ours; a law whose function answers true. -/
namespace Go.Abs

/-! ## Types that are read -/
def fldTy (rd : TypeId → Option Ty) (co : TypeId → Nat) : Nat → List Field → Option Ty
  | _, [] => some .un
  | off, [f] => match rd f.type with
    | some u => bif Nat.beq f.offset off && Nat.beq (co f.type) u.sz then some u else none
    | none => none
  | off, f :: g :: r => match rd f.type with
    | some u => bif Nat.beq f.offset off && Nat.beq (co f.type) u.sz then match fldTy rd co (off + u.sz) (g :: r) with
        | some v => some (.pr u v)
        | none => none
      else none
    | none => none

def rdTy (P : Program) : Nat → TypeId → Option Ty
  | 0, _ => none
  | n + 1, t => match P.underlying t with
    | some (.int k) => some (.int k)
    | some .bool => some .bool
    | some .string => some .str
    | some (.slice e) => match rdTy P n e with
      | some u => bif Nat.beq (P.cellsOf e) u.sz && Nat.blt 0 u.sz && Nat.blt 0 (P.bytesOf e) then some (.sl u) else none
      | none => none
    | some (.struct fs) => match fldTy (rdTy P n) P.cellsOf 0 fs.toList with
      | some u => bif Nat.beq (P.cellsOf t) u.sz then some u else none
      | none => none
    | _ => none

def flat : Ty → List Ty
  | .pr a b => flat a ++ flat b
  | .un => []
  | t => [t]

def tysBeq : List Ty → List Ty → Bool
  | [], [] => true
  | a :: r, b :: s => a.beq b && tysBeq r s
  | _, _ => false
theorem tysBeq_eq : ∀ {a b : List Ty}, tysBeq a b = true → a = b
  | [], [], _ => rfl
  | a :: r, b :: s, h => by
    simp only [tysBeq, Bool.and_eq_true] at h
    rw [Ty.eq_of_beq h.1, tysBeq_eq h.2]
  | [], _ :: _, h => by cases h
  | _ :: _, [], h => by cases h

/-! ## Well-formed data -/
def Ty.wf : (t : Ty) → t.den → Prop
  | .int k, n => k.wrap n = n
  | .bool, _ => True
  | .str, l => (∀ c ∈ (l : List Int), 0 ≤ c ∧ c < 256) ∧ List.length (α := Int) l ≤ big
  | .sl e, xs => (∀ x ∈ (xs : List e.den), e.wf x) ∧ List.length (α := e.den) xs ≤ big
  | .pr a b, x => a.wf x.1 ∧ b.wf x.2
  | .un, _ => True
  | .pl _, xs => List.length (α := Int) xs ≤ big

theorem bytesOf_range (s : ByteArray) : ∀ c ∈ bytesOf s, 0 ≤ c ∧ c < 256 := by
  intro c hc
  simp only [bytesOf, List.mem_map] at hc
  obtain ⟨b, _, rfl⟩ := hc
  have := b.toNat_lt
  omega

theorem Reps.all {α : Type} {R : α → List Value → Prop} {Q : α → Prop} (h : ∀ x us, R x us → Q x) : ∀ {xs : List α} {us : List Value}, Reps R xs us → ∀ x ∈ xs, Q x
  | [], _, _, x, hx => by cases hx
  | y :: r, us, ⟨v1, v2, _, h1, h2⟩, x, hx => by
    rcases List.mem_cons.1 hx with rfl | hx
    · exact h _ _ h1
    · exact Reps.all h h2 x hx

theorem RepD.wf {w : World} {ok : Ok} : ∀ {t : Ty} {x : t.den} {vs : List Value}, RepD w ok t x vs → t.wf x := by
  intro t
  induction t with
  | int k => intro x vs h; exact h.2
  | bool => intro x vs h; trivial
  | str => intro x vs h; obtain ⟨s, _, rfl, h2⟩ := h; exact ⟨bytesOf_range s, h2⟩
  | sl e ih =>
    intro x vs h
    obtain ⟨a, c, _, _, h2, h3⟩ := h
    refine ⟨fun y hy => ?_, h2⟩
    rcases h3 with rfl | ⟨b, o, _, us, hr, _⟩
    · cases hy
    · exact Reps.all (fun _ _ h => ih h) hr y hy
  | pr a b iha ihb => intro x vs h; obtain ⟨v1, v2, _, h1, h2⟩ := h; exact ⟨iha h1, ihb h2⟩
  | un => intro x vs h; trivial
  | pl z =>
    intro x vs h
    cases z with
    | false => obtain ⟨a, c, _, _, h2, _⟩ := h; exact h2
    | true => obtain ⟨a, c, _, _, h2, _⟩ := h; exact h2

def wfTs : (ts : List Ty) → (tupT ts).den → Prop
  | [], _ => True
  | t :: r, x => t.wf (thd t r x) ∧ wfTs r (ttl t r x)
theorem RepTs.wf {w : World} {ok : Ok} : ∀ {ts : List Ty} {x : (tupT ts).den} {vs : List Value}, RepTs w ok ts x vs → wfTs ts x
  | [], _, _, _ => trivial
  | _ :: _, _, _, ⟨_, _, _, h1, h2⟩ => ⟨h1.wf, h2.wf⟩

def wfIns : (ks : List PK) → (tupT (insL ks)).den → Prop
  | [], _ => True
  | k :: r, x => wfTs (pkTs k) (tfst (pkTs k) (insL r) x) ∧ wfIns r (tsnd (pkTs k) (insL r) x)

/-! ## Reading -/
section
variable {H : Type} {enc : TypeId × Value → H} {P : Program} {W : World} {sp : Nat → Bool} {held : Bool}

/-- All old memory may be read. -/
def oldOk (W : World) : Nat → Nat → Prop := fun b _ => b < W.heap.size

def Light (P : Program) (t : TypeId) (d : DataW H) : Prop := ∀ n ∈ d.weights P t, n ≤ reachBytes

theorem light_all {e : TypeId} : ∀ {l : List (DataW H)}, (∀ n ∈ DataW.weightsAll P e l, n ≤ reachBytes) → ∀ d ∈ l, Light P e d
  | [], _, d, hd => by cases hd
  | x :: r, h, d, hd => by
    rcases List.mem_cons.1 hd with rfl | hd
    · exact fun n hn => h n (by simp [DataW.weightsAll, hn])
    · exact light_all (fun n hn => h n (by simp [DataW.weightsAll, hn])) d hd

theorem light_each : ∀ {ts : List TypeId} {l : List (DataW H)}, (∀ n ∈ DataW.weightsEach P ts l, n ≤ reachBytes) → ∀ (i : Nat) (t : TypeId) (d : DataW H), ts[i]? = some t → l[i]? = some d → Light P t d
  | [], _, _, i, t, d, ht, _ => by simp at ht
  | _ :: _, [], _, i, t, d, _, hd => by simp at hd
  | u :: us, x :: r, h, i, t, d, ht, hd => by
    cases i with
    | zero => cases ht; cases hd; exact fun n hn => h n (by simp [DataW.weightsEach, hn])
    | succ j => exact light_each (ts := us) (l := r) (fun n hn => h n (by simp [DataW.weightsEach, hn])) j t d (by simpa using ht) (by simpa using hd)

theorem add_block (a : Addr) (k : Nat) : (a.add k).block = a.block := by unfold Addr.add; split <;> rfl
theorem add_off (a : Addr) (k : Nat) : (a.add k).off = a.off + k := by
  unfold Addr.add
  split
  · rename_i h; have : k = 0 := by simpa using h
    subst this; rfl
  · rfl
theorem add_zero (a : Addr) : a.add 0 = a := by simp [Addr.add]
theorem add_spot {a : Addr} (h : a.spot = none) (k : Nat) : (a.add k).spot = none := by unfold Addr.add; split <;> first | exact h | rfl
theorem add_eq {a : Addr} (h : a.spot = none) (k : Nat) : a.add k = ⟨a.block, a.off + k, none⟩ := by
  have h1 := add_block a k
  have h2 := add_off a k
  have h3 := add_spot h k
  cases hh : a.add k
  rw [hh] at h1 h2 h3
  simp_all

theorem cells_at {a : Addr} {n : Nat} {cs : List Value} (h : W.cells? 0 a n = some cs) (hn : 0 < n) : a.spot = none ∧ At W a.block a.off cs ∧ a.block < W.heap.size ∧ cs.length = n := by
  obtain ⟨_, hl, hc⟩ := World.cells?_some h
  have h0 := hc 0 hn
  obtain ⟨c0, hc0⟩ : ∃ c0, cs[0]? = some c0 := by
    cases cs with
    | nil => simp at hl; omega
    | cons c _ => exact ⟨c, rfl⟩
  have hs : a.spot = none := by
    rw [hc0] at h0
    cases hsp : a.spot with
    | none => rfl
    | some x =>
      exfalso
      rw [add_zero] at h0
      unfold World.cell? at h0
      rw [hsp] at h0
      split at h0 <;> simp at h0
  refine ⟨hs, fun j v hv => ?_, World.cells?_block h hn, hl⟩
  have hj : j < n := by
    rcases Nat.lt_or_ge j cs.length with g | g
    · omega
    · rw [List.getElem?_eq_none g] at hv; cases hv
  have := hc j hj
  rw [hv] at this
  rw [add_eq hs] at this
  exact this

def Pieces (P : Program) (W : World) (_ : Nat) (t : TypeId) (u : Ty) : Prop :=
  ∀ (fuel : Nat) (cs : List Value) (x : DataW H × List MemPlace), DataW.trod enc P W 0 sp held fuel t cs = some x → Light P t x.1 → ∃ d, RepD W (oldOk W) u d cs

theorem fld_rep {rd : TypeId → Option Ty} (hrd : ∀ t u, rd t = some u → ∀ (fuel : Nat) (cs : List Value) (x : DataW H × List MemPlace), DataW.trod enc P W 0 sp held fuel t cs = some x → Light P t x.1 → ∃ d, RepD W (oldOk W) u d cs) :
    ∀ {fs : List Field} {off : Nat} {u : Ty} {cs : List Value} {xs : List (DataW H × List MemPlace)} {n : Nat}, fldTy rd P.cellsOf off fs = some u → cs.length = off + u.sz →
      (∀ (i : Nat) (f : Field), fs[i]? = some f → DataW.trod enc P W 0 sp held n f.type ((cs.drop f.offset).take (P.cellsOf f.type)) = xs[i]?) → xs.length = fs.length →
      (∀ (i : Nat) (t : TypeId) (d : DataW H), (fs.map (·.type))[i]? = some t → (xs.map (·.1))[i]? = some d → Light P t d) → ∃ d, RepD W (oldOk W) u d (cs.drop off) := by
  intro fs
  induction fs with
  | nil =>
    intro off u cs xs n h hl _ _ _
    cases h
    exact ⟨(), by simp only [RepD]; exact List.drop_eq_nil_of_le (by simp [Ty.sz] at hl; omega)⟩
  | cons f r ih =>
    intro off u cs xs n h hl hp hx hw
    cases xs with
    | nil => simp at hx
    | cons y ys =>
      have h0 := hp 0 f rfl
      simp only [List.getElem?_cons_zero] at h0
      cases r with
      | nil =>
        simp only [fldTy] at h
        split at h
        · rename_i v hv
          cases hb : Nat.beq f.offset off && Nat.beq (P.cellsOf f.type) v.sz with
          | false => simp [hb] at h
          | true =>
            simp only [hb, cond_true] at h
            cases h
            rw [Bool.and_eq_true] at hb
            have e1 := Nat.eq_of_beq_eq_true hb.1
            have e2 := Nat.eq_of_beq_eq_true hb.2
            rw [e1, e2, List.take_of_length_le (by simp; omega)] at h0
            exact hrd _ _ hv _ _ _ h0 (hw 0 _ _ rfl rfl)
        · cases h
      | cons g r =>
        simp only [fldTy] at h
        split at h
        · rename_i v hv
          cases hb : Nat.beq f.offset off && Nat.beq (P.cellsOf f.type) v.sz with
          | false => simp [hb] at h
          | true =>
            simp only [hb, cond_true] at h
            split at h
            · rename_i v2 hv2
              cases h
              rw [Bool.and_eq_true] at hb
              have e1 := Nat.eq_of_beq_eq_true hb.1
              have e2 := Nat.eq_of_beq_eq_true hb.2
              rw [e1, e2] at h0
              obtain ⟨d1, g1⟩ := hrd _ _ hv _ _ _ h0 (hw 0 _ _ rfl rfl)
              have hl2 : cs.length = off + v.sz + v2.sz := by simp only [Ty.sz] at hl; omega
              obtain ⟨d2, g2⟩ := ih (off := off + v.sz) (xs := ys) hv2 hl2 (fun i f' hf => by simpa using hp (i + 1) f' (by simpa using hf)) (by simpa using hx)
                (fun i t d ht hd => hw (i + 1) t d (by simpa using ht) (by simpa using hd))
              refine ⟨(d1, d2), (cs.drop off).take v.sz, cs.drop (off + v.sz), ?_, g1, g2⟩
              rw [← List.drop_drop]
              exact (List.take_append_drop _ _).symm
            · cases h
        · cases h

theorem els_rep {e : TypeId} {u : Ty} {n : Nat} {a : Addr} (hsz : P.cellsOf e = u.sz) (hpos : 0 < u.sz)
    (hrd : ∀ (cs : List Value) (x : DataW H × List MemPlace), DataW.trod enc P W 0 sp held n e cs = some x → Light P e x.1 → ∃ d, RepD W (oldOk W) u d cs) :
    ∀ (l : List (DataW H × List MemPlace)) (k : Nat), (∀ i, i < l.length → (W.cells? 0 (a.add ((k + i) * P.cellsOf e)) (P.cellsOf e)).bind (DataW.trod enc P W 0 sp held n e) = l[i]?) → (∀ d ∈ l.map (·.1), Light P e d) →
      ∃ (xs : List u.den) (us : List Value), xs.length = l.length ∧ Reps (fun x us => RepD W (oldOk W) u x us) xs us ∧ At W a.block (a.off + k * u.sz) us ∧ (k = 0 → l ≠ [] → a.spot = none ∧ a.block < W.heap.size) := by
  intro l
  induction l with
  | nil => intro k _ _; exact ⟨[], [], rfl, rfl, (fun j v hv => by simp at hv), fun _ h => absurd rfl h⟩
  | cons y ys ih =>
    intro k hel hw
    have h0 := hel 0 (by simp)
    simp only [Nat.add_zero, List.getElem?_cons_zero] at h0
    obtain ⟨cs, hc, ht⟩ := Option.bind_eq_some_iff.1 h0
    obtain ⟨c1, c2, c3, c4⟩ := cells_at hc (by omega)
    obtain ⟨d, hd⟩ := hrd _ _ ht (hw _ (by simp))
    obtain ⟨xs, us, g1, g2, g3, g4⟩ := ih (k + 1) (fun i hi => by
      have := hel (i + 1) (by simpa using hi)
      rw [show k + 1 + i = k + (i + 1) from by omega]
      simpa using this) (fun d hd => hw d (by simp [hd]))
    refine ⟨d :: xs, cs ++ us, by simp [g1], ⟨cs, us, rfl, hd, g2⟩, ?_, fun k0 _ => ⟨by subst k0; rw [Nat.zero_mul, add_zero] at c1; exact c1, by rw [add_block] at c3; exact c3⟩⟩
    intro j v hv
    rcases Nat.lt_or_ge j cs.length with hj | hj
    · rw [List.getElem?_append_left hj] at hv
      have := c2 j v hv
      rw [add_block, add_off, hsz] at this
      exact this
    · rw [List.getElem?_append_right hj] at hv
      have := g3 _ v hv
      rw [show a.off + k * u.sz + j = a.off + (k + 1) * u.sz + (j - cs.length) from by rw [c4, hsz] at hj ⊢; rw [Nat.add_mul]; omega]
      exact this

theorem trod_rep : ∀ {n : Nat} {t : TypeId} {u : Ty}, rdTy P n t = some u → ∀ (fuel : Nat) (cs : List Value) (x : DataW H × List MemPlace), DataW.trod enc P W 0 sp held fuel t cs = some x → Light P t x.1 → ∃ d, RepD W (oldOk W) u d cs := by
  intro n
  induction n with
  | zero => intro t u h; cases h
  | succ n ih =>
    intro t u h fuel cs x hx hl
    simp only [rdTy] at h
    split at h
    · rename_i k hu
      cases h
      obtain ⟨m, rfl, _, hw⟩ := DataW.trod_int hu hx
      refine ⟨m, rfl, ?_⟩
      simp only [Lit.wf, Bool.and_eq_true, decide_eq_true_eq] at hw
      exact (in_iff k m).2 hw
    · rename_i hu
      cases h
      obtain ⟨b, rfl, _⟩ := DataW.trod_bool hu hx
      exact ⟨b, rfl⟩
    · rename_i hu
      cases h
      obtain ⟨s, rfl, rfl, hs⟩ := DataW.trod_string hu hx
      refine ⟨bytesOf s, s, rfl, rfl, ?_⟩
      have := hl s.data.toList.length (by simp [DataW.weights])
      have e : (bytesOf s).length = s.data.toList.length := by simp [bytesOf]
      rw [e]
      unfold big; unfold reachBytes at this; omega
    · rename_i e hu
      split at h
      · rename_i v hv
        cases hb : Nat.beq (P.cellsOf e) v.sz && Nat.blt 0 v.sz && Nat.blt 0 (P.bytesOf e) with
        | false => simp [hb] at h
        | true =>
          simp only [hb, cond_true] at h
          cases h
          simp only [Bool.and_eq_true] at hb
          obtain ⟨⟨hb1, hb2⟩, hb3⟩ := hb
          have e1 := Nat.eq_of_beq_eq_true hb1
          have e2 := Nat.le_of_ble_eq_true hb2
          have e3 := Nat.le_of_ble_eq_true hb3
          rcases DataW.trod_slice hu hx with ⟨rfl, rfl⟩ | ⟨a, len, cap, elems, rest, m, rfl, rfl, rfl, _, hle, _, hlen, hel, _, _⟩
          · exact ⟨[], none, 0, rfl, Nat.zero_le _, by simp, .inl rfl⟩
          · have hw1 : (elems.length + rest.length) * P.bytesOf e ≤ reachBytes := by
              have := hl ((elems.length + rest.length) * P.bytesOf e) (by simp [DataW.weights, hu])
              simpa using this
            have hw2 : ∀ d ∈ elems.map (·.1), Light P e d := light_all (fun k hk => hl k (by simp [DataW.weights, hu, hk]))
            obtain ⟨xs, us, g1, g2, g3, g4⟩ := els_rep (a := a) e1 e2 (fun cs x hx hw => ih hv m cs x hx hw) elems 0 (fun i hi => by rw [Nat.zero_add]; exact hel i (by omega)) hw2
            have hbig : xs.length ≤ big := by
              have : elems.length ≤ (elems.length + rest.length) * P.bytesOf e := by
                calc elems.length ≤ elems.length + rest.length := by omega
                  _ = (elems.length + rest.length) * 1 := by omega
                  _ ≤ _ := Nat.mul_le_mul_left _ e3
              unfold big; unfold reachBytes at hw1; omega
            refine ⟨xs, some a, cap, by rw [g1, hlen], by rw [g1, hlen]; exact hle, hbig, ?_⟩
            by_cases he : elems = []
            · subst he; left; exact List.length_eq_zero_iff.1 g1
            · right
              obtain ⟨q1, q2⟩ := g4 rfl he
              refine ⟨a.block, a.off, by cases a; simp_all, us, g2, by simpa using g3, fun j _ => q2⟩
      · cases h
    · rename_i fs hu
      split at h
      · rename_i v hv
        cases hb : Nat.beq (P.cellsOf t) v.sz with
        | false => simp [hb] at h
        | true =>
          simp only [hb, cond_true] at h
          cases h
          have e1 := Nat.eq_of_beq_eq_true hb
          obtain ⟨xs, m, rfl, rfl, hlen, hxs, hf⟩ := DataW.trod_struct hu hx
          have := fld_rep (P := P) (W := W) (sp := sp) (held := held) (enc := enc) (rd := rdTy P n) (fun t u h => ih h) (off := 0) (xs := xs) (n := m) hv (by rw [hlen, e1]; omega)
            (fun i f hi => hf i f (by simpa using hi)) (by simpa using hxs) (light_each (fun k hk => hl k (by simpa [DataW.weights, hu] using hk)))
          simpa using this
      · cases h
    · cases h

theorem flat_rep : ∀ {u : Ty} {d : u.den} {cs : List Value} {ts : List Ty} {ok : Ok} {y : (tupT ts).den} {cs' : List Value}, RepD W ok u d cs → RepTs W ok ts y cs' → ∀ L, L = flat u ++ ts → ∃ x, RepTs W ok L x (cs ++ cs') := by
  intro u
  have one : ∀ {u : Ty} {d : u.den} {cs : List Value} {ts : List Ty} {ok : Ok} {y : (tupT ts).den} {cs' : List Value}, cs.length = 1 → RepD W ok u d cs → RepTs W ok ts y cs' → ∀ L, L = u :: ts → ∃ x, RepTs W ok L x (cs ++ cs') := by
    rintro u d cs ts ok y cs' h1 h h' L rfl
    match cs, h1 with
    | [c], _ => exact ⟨tcons u ts d y, c, cs', rfl, by rw [thd_tcons]; exact h, by rw [ttl_tcons]; exact h'⟩
  induction u with
  | pr a b iha ihb =>
    intro d cs ts ok y cs' h h' L hL
    obtain ⟨v1, v2, rfl, h1, h2⟩ := h
    obtain ⟨x2, g2⟩ := ihb h2 h' _ rfl
    obtain ⟨x1, g1⟩ := iha h1 g2 L (by rw [hL]; simp [flat])
    exact ⟨x1, by rw [List.append_assoc]; exact g1⟩
  | un =>
    intro d cs ts ok y cs' h h' L hL
    cases (show cs = [] from h)
    subst hL
    exact ⟨y, h'⟩
  | int k => intro d cs ts ok y cs' h h' L hL; exact one (by rw [h.1]; rfl) h h' L hL
  | bool => intro d cs ts ok y cs' h h' L hL; exact one (by rw [show cs = _ from h]; rfl) h h' L hL
  | str => intro d cs ts ok y cs' h h' L hL; exact one (by obtain ⟨s, rfl, _⟩ := h; rfl) h h' L hL
  | sl e _ => intro d cs ts ok y cs' h h' L hL; exact one (by obtain ⟨a, c, rfl, _⟩ := h; rfl) h h' L hL
  | pl z => intro d cs ts ok y cs' h h' L hL; exact one (RepD.len h) h h' L hL

/-! ## Arguments -/
def argOk (P : Program) : List TypeId → List PK → Bool
  | [], [] => true
  | t :: ts, .val ag us :: ks => (match rdTy P tyD t with
      | some u => tysBeq (flat u) us && (match P.underlying t with
        | some (.struct _) => ag
        | some (.int _) | some .bool | some .string | some (.slice _) => !ag
        | _ => false)
      | none => false) && argOk P ts ks
  | _, _ => false

theorem arg_rep {t : TypeId} {v : Value} {d : DataW H} {p : List MemPlace} {u : Ty} {ag : Bool} (hu : rdTy P tyD t = some u)
    (hag : (match P.underlying t with
        | some (.struct _) => ag
        | some (.int _) | some .bool | some .string | some (.slice _) => !ag
        | _ => false) = true)
    (h : DataW.Trod enc P W 0 sp held t v d p) {base : Nat} (hv : Value.okWide P W .any base t v) (hl : Light P t d) : ∃ x, ArgRep W (oldOk W) (.val ag (flat u)) x v [] := by
  obtain ⟨fuel, hf⟩ := h
  obtain ⟨y, hy⟩ := trod_rep hu _ _ _ hf hl
  obtain ⟨x, hx⟩ := flat_rep (ts := []) (y := ()) (cs' := []) hy (show RepTs W (oldOk W) [] () [] from rfl) (flat u) (List.append_nil _).symm
  rw [List.append_nil] at hx
  unfold Value.okWide at hv
  have fin : ag = false → v.cells = #[v] → ∃ x, ArgRep W (oldOk W) (.val ag (flat u)) x v [] := fun e1 e2 => by
    subst e1
    rw [e2] at hx
    exact ⟨x, rfl, hx⟩
  split at hag
  · rename_i fs hs
    simp only [hs] at hv
    obtain ⟨cs, rfl, _⟩ := hv
    subst hag
    exact ⟨x, rfl, cs.toList, by simp, hx⟩
  all_goals first
    | (rename_i hs; simp only [hs] at hv; exact fin (by simpa using hag) (by cases v <;> first | rfl | simp [Cell.okWide, Cell.ok, hs] at hv))
    | cases hag

theorem args_rep : ∀ {ts : List TypeId} {ks : List PK} {vs : List Value} {ds : List (DataW H)} {p : List MemPlace} {base : Nat}, argOk P ts ks = true → DataW.TrodAll enc P W 0 sp held ts vs ds p →
    (∀ (j : Nat) t v, ts[j]? = some t → vs[j]? = some v → Value.okWide P W .any base t v) → (∀ n ∈ DataW.weightsEach P ts ds, n ≤ reachBytes) → ∃ x, ArgsRep W (oldOk W) ks x vs []
  | [], [], vs, ds, p, base, _, h, _, _ => by
    cases vs with
    | nil => exact ⟨(), rfl, rfl⟩
    | cons _ _ => cases ds <;> exact h.elim
  | [], _ :: _, _, _, _, _, h, _, _, _ => by cases h
  | _ :: _, [], _, _, _, _, h, _, _, _ => by simp [argOk] at h
  | t :: ts, k :: ks, vs, ds, p, base, hk, h, hv, hl => by
    cases vs with
    | nil => cases ds <;> exact h.elim
    | cons v vs =>
      cases ds with
      | nil => exact h.elim
      | cons d ds =>
        obtain ⟨p1, q1, h1, h2, _⟩ := h
        cases k with
        | val ag us =>
          simp only [argOk, Bool.and_eq_true] at hk
          obtain ⟨hk1, hk2⟩ := hk
          split at hk1
          · rename_i u hu
            rw [Bool.and_eq_true] at hk1
            have e := tysBeq_eq hk1.1
            subst e
            obtain ⟨x, hx⟩ := arg_rep hu hk1.2 h1 (hv 0 t v rfl rfl) (fun n hn => hl n (by simp [DataW.weightsEach, hn]))
            obtain ⟨y, hy⟩ := args_rep (base := base) hk2 h2 (fun j t' v' ht hv' => hv (j + 1) t' v' (by simpa using ht) (by simpa using hv')) (fun n hn => hl n (by simp [DataW.weightsEach, hn]))
            refine ⟨tapp (flat u) (insL ks) x y, v, vs, [], [], rfl, rfl, ?_, ?_⟩
            · show ArgRep W (oldOk W) (.val ag (flat u)) (tfst (flat u) (insL ks) (tapp (flat u) (insL ks) x y)) v []
              rw [tfst_tapp]; exact hx
            · show ArgsRep W (oldOk W) ks (tsnd (flat u) (insL ks) (tapp (flat u) (insL ks) x y)) vs []
              rw [tsnd_tapp]; exact hy
          · cases hk1
        | own t => simp [argOk] at hk
        | ow t => simp [argOk] at hk
        | box ts => simp [argOk] at hk
        | fn f c => simp [argOk] at hk

theorem ArgsRep.wf {w : World} {ok : Ok} : ∀ {ks : List PK} {ts : List TypeId}, argOk P ts ks = true → ∀ {x : (tupT (insL ks)).den} {vs : List Value} {bs : List Nat}, ArgsRep w ok ks x vs bs → wfIns ks x
  | [], _, _, _, _, _, _ => trivial
  | .val ag us :: ks, [], h, _, _, _, _ => by cases h
  | .val ag us :: ks, t :: ts, h, x, vs, bs, ⟨v, vs', b1, b2, _, _, h1, h2⟩ => by
    simp only [argOk, Bool.and_eq_true] at h
    refine ⟨?_, ArgsRep.wf (ts := ts) h.2 h2⟩
    cases ag with
    | false => exact h1.2.wf
    | true => obtain ⟨_, vs, _, h1⟩ := h1; exact h1.wf
  | .own _ :: _, ts, h, _, _, _, _ => by cases ts <;> simp [argOk] at h
  | .ow _ :: _, ts, h, _, _, _, _ => by cases ts <;> simp [argOk] at h
  | .box _ :: _, ts, h, _, _, _, _ => by cases ts <;> simp [argOk] at h
  | .fn _ _ :: _, ts, h, _, _, _, _ => by cases ts <;> simp [argOk] at h
end
end Go.Abs

/- Abs, part Lb: a law whose function answers true, as the form says it. -/
namespace Go.Abs
open Go.ChangeShapes Go.WideShapes Go.ChangeAt Go.RowKit
section
variable {H : Type} {enc : TypeId × Value → H} {P : Program}

theorem all_nil : ∀ S ∈ ([] : List Summ), Sound P S := fun S h => by cases h
theorem all_cons {S : Summ} {l : List Summ} (h : Sound P S) (t : ∀ S ∈ l, Sound P S) : ∀ T ∈ S :: l, Sound P T := fun T hT => by
  rcases List.mem_cons.1 hT with rfl | hT
  · exact h
  · exact t T hT

def rowsOk (P : Program) : List TypeId → Bool
  | [] => true
  | t :: r => P.readableRec t && Nat.blt t P.types.size && rowsOk P r

theorem trodAll_below (hl : laidOutB P = true) {W W' : World} (hb : Go.RowKit.Below W.heap.size W W') : ∀ {ts : List TypeId} {vs : List Value} {ds : List (DataW H)} {p : List MemPlace}, rowsOk P ts = true →
    DataW.TrodAll enc P W 0 (fun _ => true) true ts vs ds p → DataW.TrodAll enc P W' 0 (fun b => decide (b < W.heap.size)) true ts vs ds p
  | [], [], [], _, _, h => h
  | [], _ :: _, _, _, _, h => by cases ‹List (DataW H)› <;> exact h.elim
  | [], [], _ :: _, _, _, h => h.elim
  | _ :: _, [], _, _, _, h => by cases ‹List (DataW H)› <;> exact h.elim
  | _ :: _, _ :: _, [], _, _, h => h.elim
  | t :: ts, v :: vs, d :: ds, p, hr, ⟨p1, q1, h1, h2, e⟩ => by
    simp only [rowsOk, Bool.and_eq_true] at hr
    have lt : ∀ x ∈ p1, x.block < W.heap.size := by obtain ⟨m, hm⟩ := h1; exact DataW.trod_lt m _ _ _ hm
    exact ⟨p1, q1, Go.RowKit.Below.trod hl hr.1.1 (Nat.le_of_ble_eq_true hr.1.2) h1 hb lt, trodAll_below hl hb hr.2 h2, e⟩

theorem trodAll_len {W : World} {b : Nat} {sp : Nat → Bool} {hd : Bool} : ∀ {ts : List TypeId} {vs : List Value} {ds : List (DataW H)} {p : List MemPlace}, DataW.TrodAll enc P W b sp hd ts vs ds p → ds.length = ts.length
  | [], [], [], _, _ => rfl
  | [], _ :: _, _, _, h => by cases ‹List (DataW H)› <;> exact h.elim
  | [], [], _ :: _, _, h => h.elim
  | _ :: _, [], _, _, h => by cases ‹List (DataW H)› <;> exact h.elim
  | _ :: _, _ :: _, [], _, h => h.elim
  | t :: ts, v :: vs, d :: ds, p, ⟨p1, q1, h1, h2, e⟩ => by simp [trodAll_len h2]

theorem weightsEach_app : ∀ {ts : List TypeId} {ds : List (DataW H)} {us : List TypeId} {es : List (DataW H)}, ds.length = ts.length → DataW.weightsEach P (ts ++ us) (ds ++ es) = DataW.weightsEach P ts ds ++ DataW.weightsEach P us es
  | [], [], us, es, _ => by simp [DataW.weightsEach]
  | t :: ts, d :: ds, us, es, h => by
    have := weightsEach_app (ts := ts) (ds := ds) (us := us) (es := es) (by simpa using h)
    simp [DataW.weightsEach, this]
  | [], _ :: _, _, _, h => by simp at h
  | _ :: _, [], _, _, h => by simp at h

/-- What a call of a law does, where what is known of package-level variables holds. -/
theorem law_calls {C : Checked} {f : FuncId} {fn : Func} {s : ChangeSpec} {pars : List PK} {tb : TypeId}
    {F : Fu → (tupT (insL pars)).den → Option (tupT (app [Ty.bool] (outsP pars))).den}
    (hfn : C.prog.funcs[f]? = some fn) (hbody : fn.body.isSome = true) (hname : (fn.name == "runtime.NumGoroutine") = false)
    (laidOut : laidOutB C.prog = true) (hrows : rowsOk C.prog fn.params.toList = true) (hargs : argOk C.prog fn.params.toList pars = true)
    (hres : fn.resultTypes = #[tb]) (hb : C.prog.underlying tb = some .bool) (hvars : s.vars = [])
    (hs : ∀ (H : Type) (ds : List (DataW H)), ds.length = fn.params.toList.length → s.fn H ds = { results := [.lit (.bool true)], args := ds })
    (hS : Sound C.prog ⟨f, ⟨pars, [(false, [.dat .bool])]⟩, F⟩)
    (hF : ∀ p, wfIns pars p → ∃ m r, F m p = some r ∧ tfst [Ty.bool] (outsP pars) r = true)
    {W : World} {base : Nat} {args : Array Value} {ds gs : List (DataW H)} {before : List MemPlace} (hG : GOk C.prog W (oldOk W))
    (hval : ∀ (j : Nat) t v, fn.params[j]? = some t → args[j]? = some v → Value.okWide C.prog W .any base t v)
    (hW : DataW.Whole enc C.prog fn.params.toList s.vars false W args.toList ds gs before)
    (hsz : (DataW.weightsEach C.prog (fn.params.toList ++ s.plain.varTypes C.prog) (ds ++ gs)).all (· ≤ reachBytes) = true) :
    Calls C.prog f args W fun e W' => ∃ v, e = .returned v ∧ s.post enc C.prog fn false true false false W args v W' := by
  obtain ⟨body, hbody⟩ := Option.isSome_iff_exists.1 hbody
  have hW' := hW
  obtain ⟨p, q, hA, hV, rfl, hfz, hnd⟩ := hW
  rw [hvars] at hV
  obtain ⟨rfl, rfl⟩ := trodVars_none hV
  have hlen := trodAll_len hA
  have hwe : ∀ n ∈ DataW.weightsEach C.prog fn.params.toList ds, n ≤ reachBytes := by
    rw [weightsEach_app hlen] at hsz
    intro n hn
    have := List.all_eq_true.1 hsz n (by simp [hn])
    simpa using this
  obtain ⟨x, hx⟩ := args_rep (base := base) hargs hA (fun j t v ht hv => hval j t v (by simpa using ht) (by simpa using hv)) hwe
  obtain ⟨m, r, hr1, hr2⟩ := hF x (ArgsRep.wf hargs hx)
  have hE := hS.plain (winFn_res fun ks h => by simp at h) m x r hr1 W (Ok.of (oldOk W)) args.toList [] [] hG hx List.nodup_nil (fun b o h => Ok.of_any h) (Pls.of _ _ _ (fun _ _ k => k) (fun _ _ k => k)) (fun _ _ _ k => k)
  have hrun : (callFunc f args.toList.toArray).run C.prog W = .ok (.enter f args) W := by
    have hn : ¬ fn.name = "runtime.NumGoroutine" := by simpa using hname
    simp [callFunc, hfn, hn, hbody]
  unfold Ends at hE
  dsimp only at hE
  rw [hrun] at hE
  dsimp only at hE
  refine hE.mono fun e W' he => ?_
  obtain ⟨v, rfl, ok', vs, rbs, hAf⟩ := he
  have bel : Go.RowKit.Below W.heap.size W W' := ⟨hAf.keep.os, hAf.keep.tape, hAf.keep.output, hAf.keep.size, fun k hk => hAf.keep.old k hk (by simp)⟩
  have hv : v = .bool true := by
    have h1 := hAf.res
    obtain ⟨v0, vs', b1, b2, rfl, _, h3, h4⟩ := h1
    obtain ⟨rfl, _⟩ := (show vs' = [] ∧ b2 = [] from h4)
    obtain ⟨_, u, us, e, h5, h6⟩ := h3
    simp only [List.cons.injEq] at e
    obtain ⟨rfl, rfl⟩ := e
    have h7 : [v0] = [Value.bool (tfst [Ty.bool] (outsP pars) r)] := h5
    rw [hr2] at h7
    simp only [List.cons.injEq, and_true] at h7
    rw [hAf.val, h7]; rfl
  subst hv
  refine ⟨_, rfl, ds, [], p ++ [], [], p, [], hW', ?_, ?_, ?_, ?_, ?_⟩
  · rw [List.append_nil, hs H ds hlen, hres]
    exact trodAll_mk1 (shut_bool hb _)
  · rw [List.append_nil, hs H ds hlen]
    exact trodAll_below laidOut bel hrows hA
  · rw [hvars, List.append_nil, hs H ds hlen]
    rfl
  · exact bel.frame _
  · intro h; cases h

theorem law_lifted {C : Checked} {os : Os} {f : FuncId} {fn : Func} {s : ChangeSpec} {conds : List PathCond} {pars : List PK} {tb : TypeId}
    {F : Fu → (tupT (insL pars)).den → Option (tupT (app [Ty.bool] (outsP pars))).den}
    (own : ownKnob C.prog.godebug = none) (started : os.Started) (noInit : C.prog.inits.idxOf? f = none) (hfn : C.prog.funcs[f]? = some fn)
    (witness : ∃ (w : World) (tape : Tape) (i : Input), w.os = os ∧ (w.forCall tape i).Shaped C.prog ∧ i.vars = [] ∧ Input.okWide C.prog (w.forCall tape i) .any w.heap.size f i ∧
      s.pre6 enc C.prog fn conds false (w.forCall tape i).memory i.args ∧ ({} : Assume).holds C.prog (lone (Frame.enter C.prog f i.args .normal) [] (w.forCall tape i)))
    (hbody : fn.body.isSome = true) (hname : (fn.name == "runtime.NumGoroutine") = false)
    (laidOut : laidOutB C.prog = true) (hrows : rowsOk C.prog fn.params.toList = true) (hargs : argOk C.prog fn.params.toList pars = true)
    (hres : fn.resultTypes = #[tb]) (hb : C.prog.underlying tb = some .bool) (hvars : s.vars = [])
    (hs : ∀ (H : Type) (ds : List (DataW H)), ds.length = fn.params.toList.length → s.fn H ds = { results := [.lit (.bool true)], args := ds })
    (hS : Sound C.prog ⟨f, ⟨pars, [(false, [.dat .bool])]⟩, F⟩)
    (hglob : noTabs C.prog = true)
    (hF : ∀ p, wfIns pars p → ∃ m r, F m p = some r ∧ tfst [Ty.bool] (outsP pars) r = true) :
    ReturnsInHanded {} C os f .any (s.pre6 enc C.prog fn conds false) (s.post enc C.prog fn false true false false) :=
  returnsInHanded_of_change_sized own started noInit hfn witness fun _ _ _ _ _ _ hval hW _ hsz _ =>
    law_calls hfn hbody hname laidOut hrows hargs hres hb hvars hs hS hF (GOk.none hglob) hval hW hsz

/-- The same, where package-level variables are listed. -/
theorem law_lifted_laid {C : Checked} {os : Os} {f : FuncId} {fn : Func} {s : ChangeSpec} {conds : List PathCond} {pars : List PK} {tb : TypeId} {laid : List (String × DataW Unit)}
    {F : Fu → (tupT (insL pars)).den → Option (tupT (app [Ty.bool] (outsP pars))).den}
    (own : ownKnob C.prog.godebug = none) (started : os.Started) (noInit : C.prog.inits.idxOf? f = none) (hfn : C.prog.funcs[f]? = some fn)
    (witness : ∃ (w : World) (tape : Tape) (i : Input), w.os = os ∧ (w.forCall tape i).Shaped C.prog ∧ i.vars = [] ∧ Input.okWide C.prog (w.forCall tape i) .any w.heap.size f i ∧
      ((s.pre enc C.prog fn conds false (w.forCall tape i).memory i.args ∧ laidMetH C.prog laid (w.forCall tape i).memory) ∧ sizedMet enc C.prog fn (OpenSpec.ofChange s) false (w.forCall tape i).memory i.args) ∧ ({} : Assume).holds C.prog (lone (Frame.enter C.prog f i.args .normal) [] (w.forCall tape i)))
    (hbody : fn.body.isSome = true) (hname : (fn.name == "runtime.NumGoroutine") = false)
    (laidOut : laidOutB C.prog = true) (hrows : rowsOk C.prog fn.params.toList = true) (hargs : argOk C.prog fn.params.toList pars = true)
    (hres : fn.resultTypes = #[tb]) (hb : C.prog.underlying tb = some .bool) (hvars : s.vars = [])
    (hs : ∀ (H : Type) (ds : List (DataW H)), ds.length = fn.params.toList.length → s.fn H ds = { results := [.lit (.bool true)], args := ds })
    (hS : Sound C.prog ⟨f, ⟨pars, [(false, [.dat .bool])]⟩, F⟩)
    (hglob : ∀ W, laidMetH C.prog laid W → GOk C.prog W (oldOk W))
    (hF : ∀ p, wfIns pars p → ∃ m r, F m p = some r ∧ tfst [Ty.bool] (outsP pars) r = true) :
    ReturnsInHanded {} C os f .any (fun w args => (s.pre enc C.prog fn conds false w args ∧ laidMetH C.prog laid w) ∧ sizedMet enc C.prog fn (OpenSpec.ofChange s) false w args) (s.post enc C.prog fn false true false false) :=
  returnsInHanded_of_change_and (X := fun w _ => laidMetH C.prog laid w) (fun _ _ _ hh h => laidMetH.of_heap hh h) own started noInit hfn witness fun _ _ _ _ _ _ hval hW _ hsz hL _ =>
    law_calls hfn hbody hname laidOut hrows hargs hres hb hvars hs hS hF (hglob _ hL) hval hW hsz

/-- The library's table, as a row lists it. -/
def laid32 : List (String × DataW Unit) := [("math/bits.deBruijn32tab", .agg (tab32.map fun n => .lit (.int .u8 n)))]
theorem gok_of_laid {P : Program} {g : Nat} {tT eT : TypeId} (hg : P.globalNamed "math/bits.deBruijn32tab" = some g) (ht : (P.globals[g]?).map (·.type) = some tT)
    (hu : P.underlying tT = some (.array 32 eT)) (he : P.underlying eT = some (.int .u8)) (hc : P.cellsOf eT = 1) (h2 : noTab2 P = true) (W : World) (h : laidMetH P laid32 W) : GOk P W (oldOk W) := by
  unfold noTab2 at h2
  simp only [Bool.and_eq_true] at h2
  refine ⟨?_, fun g hg => (by rw [isNone_eq h2.1] at hg; cases hg), fun g hg => (by rw [isNone_eq h2.2] at hg; cases hg)⟩
  rw [MakeChecks.laidMetH_plain _ _ _ (by rfl)] at h
  obtain ⟨ps, ⟨g0, t0, cs0, f0, p0, q0, hg0, ht0, hv0, hd0, _⟩, _⟩ := h
  obtain rfl := Option.some.inj (hg.symm.trans hg0)
  obtain rfl := Option.some.inj (ht.symm.trans ht0)
  obtain ⟨xs, m1, rfl, hx1, hlen, hn, hel⟩ := DataW.trod_array hu hd0
  intro g' hg' j hj
  obtain rfl := Option.some.inj (hg.symm.trans hg')
  have hxj : j < xs.length := by rw [hn]; exact hj
  have h0 := hel j hj
  rw [List.getElem?_eq_getElem hxj, hc, Nat.mul_one] at h0
  obtain ⟨k, e1, e2, _⟩ := DataW.trod_int he h0
  simp only [Prod.mk.injEq, DataW.agg.injEq] at hx1
  have hk : k = tab32.getD j 0 := by
    have h1 := congrArg (fun l => l[j]?) hx1.1
    simp only [List.getElem?_map, List.getElem?_eq_getElem hxj, Option.map_some, e2] at h1
    rw [List.getD_eq_getElem?_getD]
    cases h2 : tab32[j]? with
    | none => rw [h2] at h1; cases h1
    | some z =>
      rw [h2] at h1
      simp only [Option.map_some, Option.some.injEq, DataW.lit.injEq, Lit.int.injEq, true_and] at h1
      exact h1.symm
  have hcell := World.var?_cell hg hv0 j
  have e3 : cs0[j]? = some (.int .u8 k) := by
    have := congrArg (fun l => l[0]?) e1
    simpa [List.getElem?_take, List.getElem?_drop] using this
  refine ⟨?_, by rw [hcell, e3, hk]⟩
  show g < W.heap.size
  have : ∃ v, W.cell? ⟨g, j, none⟩ = some v := ⟨_, hcell.trans e3⟩
  obtain ⟨v, hv⟩ := this
  rcases Nat.lt_or_ge g W.heap.size with hh | hh
  · exact hh
  · have hn : W.heap[g]? = none := Array.getElem?_eq_none hh
    simp [World.cell?, hn] at hv
end
end Go.Abs

