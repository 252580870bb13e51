/- The frame of the proofs, part 2: an executor over plain data, and that what it yields is what the machine does. -/
import Derived.Test.YtmkfifilpkhfoaaA1
import Derived.Laws.Append
import Derived.MapKept
import Derived.Carry
import Derived.WalkSpells
import Derived.Lib.LazyBuf
/- Abs, part Lp: slices whose elements' bytes are our own. -/
namespace Go.Abs
section
variable {P : Program} {R : Type} {F : Fr} {ι : Nat → Value} {ok : Ok} {N : Nat → Prop} {σ : St} {a : Act} {w : World} {o : Oper} {r : R}

theorem u8Reps {w : World} {ok : Ok} : ∀ {xs : List Int} {us : List Value}, Reps (RepD w ok (.int .u8)) xs us → Reps (fun (x : Int) us => us = [.int .u8 x] ∧ IntKind.u8.wrap x = x) xs us
  | [], _, h => h
  | _ :: _, _, ⟨v1, v2, e, h1, h2⟩ => ⟨v1, v2, e, h1, u8Reps h2⟩
theorem u8Reps_get {w : World} {ok : Ok} : ∀ {xs : List Int} {us : List Value}, Reps (RepD w ok (.int .u8)) xs us → ∀ j, j < us.length → ∃ z, us[j]? = some (.int .u8 z) ∧ IntKind.u8.wrap z = z
  | [], us, h, j, hj => by cases (show us = [] from h); simp at hj
  | x :: r, _, ⟨v1, v2, e, h1, h2⟩, j, hj => by
    obtain ⟨e1, h1'⟩ := (show v1 = [.int .u8 x] ∧ IntKind.u8.wrap x = x from h1)
    subst e1; subst e
    cases j with
    | zero => exact ⟨x, rfl, h1'⟩
    | succ j => obtain ⟨z, g1, g2⟩ := u8Reps_get h2 j (by simpa using hj); exact ⟨z, by simpa using g1, g2⟩

/-- A slice of bytes of our own is told as such, and handed over. -/
theorem Sim.plane1 (h : Sim F ι ok N σ a w) {id : Nat} {xs : List Int} (hid : σ.ob id = some (.arr (.int .u8) xs .wr)) {t : Ty} {v : Value} (hv : RepC w ok ι N (.own t id) v) :
    ∃ ok', Sim F ι ok' N (σ.kill id) a w ∧ ok.Le ok' ∧ RepC w ok' ι N (.dat (.pl false) xs) v := by
  obtain ⟨g1, g2, g3⟩ := h.objs id _ hid
  obtain ⟨_, hvV, _⟩ := hv
  obtain ⟨A, cap, hV, l1, l2, hc⟩ := g2
  rcases hc with ⟨rfl, hxs, hcap⟩ | ⟨b, o, rfl, C, T, fz, m1, m2, m3, ⟨us, m4, m5⟩, m6, m7⟩
  · exact ⟨ok, h.kill id, Ok.Le.refl ok, ⟨none, cap, by rw [hvV, hV], l1, l2, .inl hxs⟩⟩
  · have hblk : blk (ι id) = some b := by rw [hV]; rfl
    have hlt : b < w.heap.size := ObjRep.lt (h.objs id _ hid).2.1 hblk
    have hno : ∀ j, ¬ok b j := m6 rfl
    have hsz : (Ty.int IntKind.u8).sz = 1 := rfl
    rw [hsz, Nat.mul_one] at m2 m3
    have hlen : us.length = xs.length := by have := Reps.len (n := 1) (fun x us hr => (RepD.len hr).trans hsz) m4; simpa using this
    let ok' : Ok := ⟨ok.p, fun b' j => ok.c b' j ∨ (b' = b ∧ o ≤ j ∧ j < o + xs.length), ok.d⟩
    have hle : ok.Le ok' := ⟨fun _ _ k => k, fun _ _ k => .inl k, fun _ _ k => k⟩
    have hx : Ext w ok w ok' := Ext.of hle fun _ _ _ => rfl
    have hoth : ∀ b', b' ≠ b → ok'.At ok b' := fun b' hne j => ⟨fun k => k, fun k => k.elim (fun k => k) (fun k => absurd k.1 hne), fun k => k⟩
    have hat : ∀ j, j < us.length → ∃ z, C[o + j]? = some (.int .u8 z) ∧ IntKind.u8.wrap z = z := fun j hj => by
      obtain ⟨z, q1, q2⟩ := u8Reps_get m4 j hj
      exact ⟨z, m5 j _ q1, q2⟩
    have hk := h.kill id
    refine ⟨ok', ⟨fun t => RepAV.mono hx (fun _ _ => rfl) (fun _ h => h) (hk.tms t), fun i p hp => ?_, hk.apart, fun b' j k => ?_, ?_, hk.size, hk.defs, hk.pins, ⟨fun b' j k => ?_, fun b' j k => ?_, fun b' j k => ⟨.inl (h.pls.kc b' j k).1, (h.pls.kc b' j k).2⟩, h.pls.kd⟩⟩, hle, ?_⟩
    · obtain ⟨q1, q2, q3⟩ := hk.objs i p hp
      refine ⟨q1, ObjRep.mono hx (fun _ _ => rfl) (fun _ h => h) (fun b' hb' => ⟨rfl, hoth b' fun e => ?_⟩) q2, q3⟩
      subst e
      rw [St.ob_kill] at hp
      split at hp
      · cases hp
      · rename_i e; exact h.apart id i _ p b' hid hp e hblk hb'
    · by_cases e : b' = b
      · subst e; exact hlt
      · exact h.oks b' j ((hoth b' e).any j k)
    · obtain ⟨k1, k2, k3, k4, k5, k6, k7⟩ := hk.keep
      refine ⟨k1, k2, k3, k4, k5, fun b j hk => ⟨hle.1 b j (k6 b j hk).1, (k6 b j hk).2⟩, fun b' j k => ?_⟩
      by_cases e : b' = b
      · subst e; exact .inr (g3 _ hblk)
      · exact k7 b' j ((hoth b' e).any j k)
    · rcases k with (k | ⟨rfl, k1, k2⟩) | k
      · exact h.pls.cs b' j (.inl k)
      · refine ⟨fun k => hno j (.inl k), g3 _ hblk, C, T, fz, ?_⟩
        obtain ⟨z, q1, q2⟩ := hat (j - o) (by omega)
        rw [show o + (j - o) = j by omega] at q1
        exact ⟨z, m1, m2.free j (by omega), q1, q2⟩
      · exact h.pls.cs b' j (.inr k)
    · intro k'
      rcases k' with k' | k'
      · exact h.pls.ds b' j k k'
      · obtain ⟨rfl, _⟩ := k'; exact hno j (.inr (.inr k))
    · refine ⟨some ⟨b, o, none⟩, cap, by rw [hvV, hV], l1, l2, .inr ⟨b, o, rfl, us, u8Reps m4, fun j x hx => by rw [cell_in m1]; exact m5 j x hx, fun j hj => .inr ⟨rfl, by omega, by omega⟩⟩⟩

theorem Sim.planeC : ∀ (cs : List Cell) {ok : Ok} {σ σ' : St} {cs' : List Cell} {vs : List Value}, planeC σ cs = some (cs', σ') → Sim F ι ok N σ a w → All2 (RepC w ok ι N) cs vs →
    ∃ ok', Sim F ι ok' N σ' a w ∧ ok.Le ok' ∧ All2 (RepC w ok' ι N) cs' vs
  | [], ok, σ, σ', cs', vs, hp, h, hv => by
    cases hp
    exact ⟨ok, h, Ok.Le.refl ok, hv⟩
  | c :: r, ok, σ, σ', cs', [], hp, h, hv => hv.elim
  | c :: r, ok, σ, σ', cs', v :: vs, hp, h, hv => by
    unfold Abs.planeC at hp
    split at hp
    · rename_i t id
      split at hp
      · rename_i xs hid
        split at hp
        · rename_i cs1 σ1 hp1
          cases hp
          obtain ⟨ok1, h1, l1, r1⟩ := h.plane1 hid hv.1
          obtain ⟨ok2, h2, l2, r2⟩ := Sim.planeC r hp1 h1 (All2.mono (fun _ _ hc => RepC.mono (ext_ok l1) (fun _ _ => rfl) (fun _ h => h) hc) hv.2)
          exact ⟨ok2, h2, l1.trans l2, RepC.mono (ext_ok l2) (fun _ _ => rfl) (fun _ h => h) r1, r2⟩
        · cases hp
      · cases hp
    · split at hp
      · rename_i cs1 σ1 hp1
        cases hp
        obtain ⟨ok2, h2, l2, r2⟩ := Sim.planeC r hp1 h hv.2
        exact ⟨ok2, h2, l2, RepC.mono (ext_ok l2) (fun _ _ => rfl) (fun _ h => h) hv.1, r2⟩
      · cases hp

theorem planeC_frm : ∀ (cs : List Cell) {σ σ' : St} {cs' : List Cell}, planeC σ cs = some (cs', σ') → OpFrm σ σ' ∧ cs'.length = cs.length
  | [], σ, σ', cs', hp => by cases hp; exact ⟨OpFrm.refl σ, rfl⟩
  | c :: r, σ, σ', cs', hp => by
    unfold Abs.planeC at hp
    split at hp
    · rename_i t id
      split at hp
      · rename_i xs hid
        split at hp
        · rename_i cs1 σ1 hp1
          cases hp
          obtain ⟨g1, g2⟩ := planeC_frm r hp1
          exact ⟨(OpFrm.kill σ id).trans g1, by simp [g2]⟩
        · cases hp
      · cases hp
    · split at hp
      · rename_i cs1 σ1 hp1
        cases hp
        obtain ⟨g1, g2⟩ := planeC_frm r hp1
        exact ⟨g1, by simp [g2]⟩
      · cases hp

theorem like_rep {ok' : Ok} {x : V1} {v : Value} {cs : List Cell} (hv : RepV1 w ok ι N x v) (k : ∀ vs, All2 (RepC w ok ι N) x.cells vs → All2 (RepC w ok' ι N) cs vs) : RepV1 w ok' ι N (x.like cs) v := by
  cases x with
  | one c =>
    have q := k [v] ⟨hv, trivial⟩
    cases cs with
    | nil => exact q.elim
    | cons c' r => exact q.1
  | agg l =>
    obtain ⟨vs, e, q⟩ := hv
    exact ⟨vs, e, k vs q⟩

/-- The cells of a part. -/
theorem cells_of {x : V1} {v : Value} (hv : RepV1 w ok ι N x v) : ∃ vs, All2 (RepC w ok ι N) x.cells vs ∧ ∀ {ok' : Ok} {cs : List Cell}, All2 (RepC w ok' ι N) cs vs → RepV1 w ok' ι N (x.like cs) v := by
  cases x with
  | one c =>
    refine ⟨[v], ⟨hv, trivial⟩, fun {ok' cs} q => ?_⟩
    cases cs with
    | nil => exact q.elim
    | cons c' r => exact q.1
  | agg l =>
    obtain ⟨vs, e, q⟩ := hv
    exact ⟨vs, q, fun q => ⟨vs, e, q⟩⟩

theorem Sim.planePs : ∀ (ps : List (Nat × AV)) {ok : Ok} {σ σ' : St} {ps' : List (Nat × AV)} {qs : List (Nat × Value)}, planePs σ ps = some (ps', σ') → Sim F ι ok N σ a w → RepPs w ok ι N ps qs →
    ∃ ok', Sim F ι ok' N σ' a w ∧ ok.Le ok' ∧ RepPs w ok' ι N ps' qs
  | [], ok, σ, σ', ps', qs, hp, h, hv => by
    cases hp
    exact ⟨ok, h, Ok.Le.refl ok, hv⟩
  | _ :: _, ok, σ, σ', ps', [], hp, h, hv => hv.elim
  | (i, .tup l) :: r, ok, σ, σ', ps', _ :: _, hp, h, hv => by cases hp
  | (i, .val x) :: r, ok, σ, σ', ps', (j, v) :: qs, hp, h, hv => by
    unfold Abs.planePs at hp
    split at hp
    · rename_i cs σ1 hc
      split at hp
      · rename_i l σ2 hl
        cases hp
        obtain ⟨vs, q1, q2⟩ := cells_of (show RepV1 w ok ι N x v from hv.1.2)
        obtain ⟨ok1, h1, l1, r1⟩ := Sim.planeC _ hc h q1
        obtain ⟨ok2, h2, l2, r2⟩ := Sim.planePs r hl h1 (All2.mono (fun _ _ hc => ⟨hc.1, RepAV.mono (ext_ok l1) (fun _ _ => rfl) (fun _ h => h) hc.2⟩) hv.2)
        exact ⟨ok2, h2, l1.trans l2, ⟨hv.1.1, RepV1.mono (ext_ok l2) (fun _ _ => rfl) (fun _ h => h) (q2 r1)⟩, r2⟩
      · cases hp
    · cases hp

theorem planePs_frm : ∀ (ps : List (Nat × AV)) {σ σ' : St} {ps' : List (Nat × AV)}, planePs σ ps = some (ps', σ') → OpFrm σ σ' ∧ ps'.length = ps.length
  | [], σ, σ', ps', hp => by cases hp; exact ⟨OpFrm.refl σ, rfl⟩
  | (i, .tup l) :: r, σ, σ', ps', hp => by cases hp
  | (i, .val x) :: r, σ, σ', ps', hp => by
    unfold Abs.planePs at hp
    split at hp
    · rename_i cs σ1 hc
      split at hp
      · rename_i l σ2 hl
        cases hp
        obtain ⟨g1, _⟩ := planeC_frm _ hc
        obtain ⟨k1, k2⟩ := planePs_frm r hl
        exact ⟨g1.trans k1, by simp [k2]⟩
      · cases hp
    · cases hp

theorem leads_buildPl (h : Sim F ι ok N σ a w) {nb : Nat} (hN : Fresh N nb) {t : TypeId} {n : Nat} {ps : Array (Nat × Operand)} (ho : o.op = .buildSlice t n ps) {K : AV → St → Option R}
    (hr : aBuildPl P nb t n (evPs σ ps.toList) σ K = some r) : Leads P o F (span N nb) a w σ K r := by
  unfold aBuildPl at hr
  split at hr
  · rename_i e u ps' σ1 he hpl
    obtain ⟨hu, i, hi, hsz, hpos, hby⟩ := elemOf_some he
    cases hb : Nat.ble (n * u.sz) 16777216 && zeroOk P e u && Nat.beq (evPs σ ps.toList).length n with
    | false => simp [hb] at hr
    | true =>
      simp only [hb, cond_true] at hr
      simp only [Bool.and_eq_true] at hb
      obtain ⟨⟨b1, b2⟩, b3⟩ := hb
      have b1 := Nat.le_of_ble_eq_true b1
      have b3 := Nat.eq_of_beq_eq_true b3
      split at hr
      · rename_i xs hxs
        have hps0 : RepPs w ok ι N (evPs σ ps.toList) (ps.toList.map fun (i, x) => (i, a.eval x)) := h.evPs ps.toList
        obtain ⟨ok1, h1, l1, hps⟩ := Sim.planePs _ hpl h hps0
        obtain ⟨frm, hlen⟩ := planePs_frm _ hpl
        obtain ⟨i', z, hi', hz, hzr⟩ := zeroOk_some b2 w ok1
        rw [hi] at hi'; cases hi'
        have hzl : z.cells.size = u.sz := by have := RepD.len hzr; simpa using this
        have hpz : u.plz.sz = u.sz := u.plz_sz
        obtain ⟨cs', us, k1, k2, k3, k4⟩ := litElems_ok h1 (n := n) (cs := (Array.range (n * i.size)).map (z.cells[· % z.cells.size]!)) (pre := []) hxs hps (by simp [hsz, hpz]) (by omega) (by simp) (by simp)
        have hul := Reps.len (fun x us hr => RepD.len hr) k2
        rw [hpz] at hul
        have hxl : xs.length = n := by omega
        have e1 : cs' = (us ++ []).toArray := by rw [List.append_nil, ← List.nil_append us, ← k3]
        obtain ⟨q1, q2⟩ := h1.newArr (id := nb) hN.nb (us := us) (more := []) e (0, 0) n k2 (by rw [hxl]; simp [big]; have := Nat.le_mul_of_pos_right n hpos; omega) (by omega) (by simp [hul, hxl, hpz]) (.inr rfl) .wr rfl
        refine Leads.value (v := .slice (some ⟨w.heap.size, 0, none⟩) n n) ?_ q1 (by rw [hxl] at q2; rw [hxl]; exact q2) (frm.trans (OpFrm.set _ _ _)) hr (by first | exact plus_span | exact le_span)
        have hn : ¬ (16777216 < n * i.size) := by rw [hsz]; omega
        have hmap : (ps.map fun (i, x) => (i, a.eval x)).toList = ps.toList.map fun (i, x) => (i, a.eval x) := by simp
        by_cases h0 : n * i.size = 0
        · have hn0 : n = 0 := by
            rcases Nat.eq_zero_or_pos n with h | h
            · exact h
            · have := Nat.mul_pos h (show 0 < i.size by omega); omega
          subst hn0
          have hpe : ps.toList = [] := by
            cases hp : ps.toList with
            | nil => rfl
            | cons p q => rw [hp] at b3; obtain ⟨_, _⟩ := p; simp [evPs] at b3
          have hpe' : ps = #[] := by cases ps; simp_all
          subst hpe'
          have : us = [] := by cases us with | nil => rfl | cons _ _ => simp [hxl] at hul
          subst this
          simp [execOp, ho, Instr.buildSlice, run_underlying hu, run_sizeOf' hi, Instr.fill, newRow]
          rw [show Array.range 0 = #[] from by simp [Array.range]]
          simp
        · rw [hpz] at k1
          rw [hsz] at k1
          simp only [execOp, ho, Instr.buildSlice, Sem.run_bind, run_underlying hu, run_sizeOf' hi, Result.andThen_ok]
          rw [if_neg (by simpa using hn), if_neg h0]
          simp [zeroValue, typeInfo, hi, hz, hsz, k1, newRow, e1]
      · cases hr
  · cases hr

theorem leads_makePl (h : Sim F ι ok N σ a w) {nb : Nat} (hN : Fresh N nb) {t : TypeId} {l c : Operand} (ho : o.op = .makeSlice t l c) {K : AV → St → Option R}
    (hr : aMakePl P nb t (σ.ev l) (σ.ev c) σ K = some r) : Leads P o F (span N nb) a w σ K r := by
  have hl := h.ev l
  have hc := h.ev c
  unfold aMakePl at hr
  split at hr
  · rename_i e u n m he hln hcn
    change Int at n
    change Int at m
    obtain ⟨hu, i, hi, hsz, hpos, hby⟩ := elemOf_some he
    rw [hln] at hl
    rw [hcn] at hc
    cases hb : zeroOk P e u with
    | false => simp [hb] at hr
    | true =>
      simp only [hb, cond_true] at hr
      cases hb2 : decide (0 = n) && decide (n ≤ m) && decide (m ≤ 4294967296) with
      | false => rw [hb2] at hr; cases hr
      | true =>
        rw [hb2] at hr
        simp only [cond_true] at hr
        simp at hb2
        obtain ⟨⟨b1, b2⟩, b3⟩ := hb2
        subst b1
        obtain ⟨i', z, hi', hz, hzr⟩ := zeroOk_some hb w ok
        rw [hi] at hi'; cases hi'
        have hzl : z.cells.size = u.sz := by have := RepD.len hzr; simpa using this
        have e1 : a.eval l = .int .i64 0 := by have := hl.1; simpa using this
        have e2 : a.eval c = .int .i64 m := by have := hc.1; simpa using this
        have hbm : (i.bytes : Int) * m ≤ 281474976710656 := by
          have : (i.bytes : Int) * m ≤ 4096 * 4294967296 := Int.mul_le_mul (by omega) b3 (by omega) (by omega)
          omega
        have hrun := run_make (P := P) w t e i z hu hi hz .i64 .i64 0 m (by omega) b2 hbm (by omega)
        obtain ⟨q1, q2⟩ := h.newArr (id := nb) hN.nb (u := u.plz) (xs := []) (us := []) (more := (madeCells z.cells (m.toNat * i.size)).toList) e (0, 0) m.toNat rfl
          (by simp [big]) (by simp) (by simp [size_madeCells, hsz, u.plz_sz]) (.inr rfl) .wr rfl
        simp only [List.length_nil, Array.toArray_toList, List.nil_append] at q1 q2
        refine Leads.value ?_ q1 q2 (OpFrm.set _ _ _) hr (by first | exact plus_span | exact le_span)
        simp [execOp, ho, e1, e2, hrun]
  · cases hr
end
end Go.Abs

/- Abs, part M: what each operation does, VIII: conversions. -/
namespace Go.Abs
section
variable {P : Program} {R : Type} {F : Fr} {ι : Nat → Value} {ok : Ok} {N : Nat → Prop} {σ : St} {a : Act} {w : World} {o : Oper} {r : R}

theorem byte_in (b : UInt8) : IntKind.u8.wrap (b.toNat : Int) = b.toNat := by
  have := b.toNat_lt
  rw [in_iff]; simp [IntKind.min, IntKind.max, IntKind.signed, IntKind.bits]; omega

theorem reps_bytes : ∀ (l : List UInt8), Reps (RepD w ok (.int .u8)) (l.map fun b => (b.toNat : Int)) (l.map fun b => Value.int .u8 b.toNat)
  | [] => rfl
  | b :: l => ⟨[.int .u8 b.toNat], _, rfl, ⟨rfl, byte_in b⟩, reps_bytes l⟩

theorem le_grownCap (w : World) (n old : Nat) (e : TypeId) : n ≤ grownCap w n old e := by
  unfold grownCap Question.cut
  exact Nat.le_add_right _ _

/-- Bytes in memory are a text. -/
theorem reps_text : ∀ {xs : List Int} {us : List Value}, Reps (RepD w ok (.int .u8)) xs us → us = xs.map (Value.int .u8) ∧ ∃ l : List UInt8, xs = l.map fun b => (b.toNat : Int)
  | [], us, h => by cases (show us = [] from h); exact ⟨rfl, [], rfl⟩
  | x :: xs, us, ⟨v1, v2, e, h1, h2⟩ => by
    obtain ⟨g1, l, g2⟩ := reps_text h2
    have hx := h1.2
    rw [in_iff] at hx
    simp [IntKind.min, IntKind.max, IntKind.signed, IntKind.bits] at hx
    refine ⟨by rw [e, h1.1, g1]; rfl, UInt8.ofNat x.toNat :: l, ?_⟩
    rw [g2, List.map_cons]
    congr 1
    have : (UInt8.ofNat x.toNat).toNat = x.toNat := by
      rw [UInt8.toNat_ofNat']
      exact Nat.mod_eq_of_lt (by omega)
    omega

theorem listOf_ok (h : Sim F ι ok N σ a w) {u : Ty} {x : AV} {v : Value} {xs : List u.den} (hx : RepAV w ok ι N x v) (hl : listOf σ u x = some xs) : ReadL w ok u xs v := by
  unfold listOf at hl
  split at hl
  · exact h.toDat hl hx
  · cases hl

theorem rep_str {s : ByteArray} {l : List Int} (h : bytesOf s = l) (hl : l.length ≤ big) : RepAV w ok ι N (one .str l) (.string s) := ⟨s, rfl, h, hl⟩

theorem leads_convert (h : Sim F ι ok N σ a w) {nb : Nat} (hN : Fresh N nb) {s d : TypeId} {x : Operand} (ho : o.op = .convert s d x) {K : AV → St → Option R}
    (hr : aConvert P nb s d (σ.ev x) σ K = some r) : Leads P o F (span N nb) a w σ K r := by
  have hx := h.ev x
  unfold aConvert at hr
  split at hr
  · rename_i k0 k k1 n hs hd hxe
    rw [hxe] at hx
    have e1 : a.eval x = .int k1 n := by have := hx.1; simpa using this
    refine Leads.value (v := .int k (k.wrap n)) ?_ h (rep_wrap k n) (OpFrm.refl _) hr (by first | exact plus_span | exact le_span)
    simp [execOp, ho, convert, run_underlying hs, run_underlying hd, e1, Conv.intToInt]
  · rename_i n hs hd hxe
    rw [hxe] at hx
    obtain ⟨s0, e0, e2⟩ := hx
    have e1 : a.eval x = .string s0 := by simpa using e0
    refine Leads.value (v := .string s0) ?_ h (rep_str e2.1 e2.2) (OpFrm.refl _) hr (by first | exact plus_span | exact le_span)
    simp [execOp, ho, convert, run_underlying hs, run_underlying hd, e1]
  · rename_i e n hs hd hxe
    rw [hxe] at hx
    obtain ⟨s0, e0, rfl, e3⟩ := hx
    have e1 : a.eval x = .string s0 := by simpa using e0
    split at hr
    · rename_i he
      have hrun := run_bytes_of_string (P := P) w s d e s0 hs hd he
      have hge := le_grownCap w s0.size 0 e
      have hrow : (bytesRow s0 (grownCap w s0.size 0 e)).toList = s0.data.toList.map (fun b => Value.int .u8 b.toNat) ++ List.replicate (grownCap w s0.size 0 e - s0.size) (.int .u8 0) := by simp [bytesRow]
      have hsz : (bytesRow s0 (grownCap w s0.size 0 e)).size = grownCap w s0.size 0 e := by
        have := congrArg List.length hrow
        simp at this; rw [this]; omega
      have hlen : (bytesOf s0).length = s0.size := bytesOf_length s0
      obtain ⟨q1, q2⟩ := h.drew.newArr (id := nb) hN.nb (us := s0.data.toList.map (fun b => Value.int .u8 b.toNat)) (more := List.replicate (grownCap w s0.size 0 e - s0.size) (.int .u8 0)) e
        (grownCap w s0.size 0 e, grownCap w s0.size 0 e + 1) (grownCap w s0.size 0 e) (u := .int .u8) (xs := bytesOf s0) (reps_bytes _) e3 (by omega)
        (by simp [Ty.sz]; omega) (by simp [Ty.sz]) .wr rfl
      rw [← hrow, hlen] at q1 q2
      simp only [Array.toArray_toList] at q1 q2
      refine Leads.value ?_ q1 q2 (OpFrm.set _ _ _) hr (by first | exact plus_span | exact le_span)
      rw [hsz] at hrun
      simp [execOp, ho, e1, hrun]
    · cases hr
  · rename_i y e hs hd
    split at hr
    · rename_i he
      split at hr
      · rename_i xs hxs
        obtain ⟨A, cap, e1, q1, q2, q3⟩ := listOf_ok h hx hxs
        have hrun0 := run_convert_bytes_string (P := P) w s d e A xs.length cap hs he hd
        rcases q3 with q3 | ⟨b, oo, us, rfl, q4, q5⟩
        · subst q3
          refine Leads.value (v := .string .empty) ?_ h (rep_str (l := []) rfl (by simp [big])) (OpFrm.refl _) hr (by first | exact plus_span | exact le_span)
          simp only [execOp, ho, e1, Sem.run_bind, hrun0]
          cases A with
          | none => simp [Conv.bytesToString]
          | some A =>
            have hl0 : (loadCells A 0).run P w = .ok (([] : List Int).map (Value.int .u8)).toArray w := by simp [loadCells, loadCellsFrom]
            have := run_bytesToString (P := P) w A 0 cap [] hl0
            simp at this
            simp [this]
        · obtain ⟨g1, l, g2⟩ := reps_text q4
          subst g1
          have hl1 := run_loadCells_list (P := P) w ⟨b, oo, none⟩ (xs.map (Value.int .u8)) (fun j v hj => by rw [addr_add]; exact q5 j v hj)
          rw [List.length_map] at hl1
          have hrun1 := run_bytesToString (P := P) w ⟨b, oo, none⟩ xs.length cap xs hl1
          rw [g2, foldl_push_byteCells] at hrun1
          refine Leads.value (v := .string ⟨(ByteArray.empty.data ++ l.toArray)⟩) ?_ h (rep_str (l := xs) ?_ q2) (OpFrm.refl _) hr (by first | exact plus_span | exact le_span)
          · simp only [execOp, ho, e1, Sem.run_bind, hrun0]
            rw [g2, hrun1]
            rfl
          · rw [g2]; show List.map _ (ByteArray.empty.data ++ l.toArray).toList = _; simp
      · cases hr
    · cases hr
  · rename_i e' e t id hs0 hd hxe
    rw [hxe] at hx
    split at hr
    · rename_i u xs mu hsd he hob
      have hsd := Nat.eq_of_beq_eq_true hsd
      subst hsd
      obtain rfl : e' = e := by rw [hs0] at hd; cases hd; rfl
      split at hr
      · cases hr
      · rename_i y0 ys
        cases hm : mu.isSl with
        | false => simp [hm] at hr
        | true =>
        simp only [hm, cond_true] at hr
        obtain ⟨hN', hv, hv2⟩ := hx
        obtain ⟨k1, hO, k3⟩ := h.objs id _ hob
        obtain ⟨A', cap', hV, l1, l2, l3⟩ := hO.sl hm
        rcases l3 with ⟨_, hbad, _⟩ | ⟨b, oo, rfl, c, T, fz, m1, m2, m3, ⟨us, m4, m5⟩, m6, m7⟩
        · cases hbad
        · let fz' : Nat × Nat := if fz.1 == fz.2 then (c.size, c.size + 1) else (min fz.1 c.size, max fz.2 (c.size + 1))
          have hlt : b < w.heap.size := by
            rcases Nat.lt_or_ge b w.heap.size with g | g
            · exact g
            · rw [Array.getElem?_eq_none g] at m1; cases m1
          have hfr : (w.freeze ⟨b, c.size, none⟩ 1).heap[b]? = some (.cells c T fz') := by
            unfold World.freeze
            rw [if_neg (by decide)]
            show (w.heap.modify b _)[b]? = _
            rw [Array.getElem?_modify, if_pos rfl, m1]
            rfl
          have hoth : ∀ b', b' ≠ b → (w.freeze ⟨b, c.size, none⟩ 1).heap[b']? = w.heap[b']? := fun b' hne => by
            unfold World.freeze
            rw [if_neg (by decide)]
            show (w.heap.modify b _)[b']? = _
            rw [Array.getElem?_modify, if_neg (fun e => hne e.symm)]
          have hrest : (w.freeze ⟨b, c.size, none⟩ 1).heap.size = w.heap.size ∧ (w.freeze ⟨b, c.size, none⟩ 1).os = w.os ∧ (w.freeze ⟨b, c.size, none⟩ 1).tape = w.tape ∧ (w.freeze ⟨b, c.size, none⟩ 1).output = w.output := by
            unfold World.freeze
            rw [if_neg (by decide)]
            exact ⟨by simp, rfl, rfl, rfl⟩
          have hf' : FzOk fz' (oo + cap' * u.sz) := by
            have m3 := m3
            show _ ∨ _
            simp only [fz']
            by_cases e : fz.1 = fz.2
            · rw [if_pos (by simpa using e)]; left; exact m3
            · rw [if_neg (by simpa using e)]
              rcases m2 with m2 | m2
              · left; simp only []; omega
              · exact absurd m2 e
          have hcell : ∀ j, (w.freeze ⟨b, c.size, none⟩ 1).cell? ⟨b, j, none⟩ = w.cell? ⟨b, j, none⟩ := fun j => by
            rw [cell_in hfr, cell_in m1]
          have hext : Ext w ok (w.freeze ⟨b, c.size, none⟩ 1) ok := Ext.same fun b' j hk => by
            by_cases e : b' = b
            · subst e; exact hcell j
            · exact cell_of_heap (hoth b' e) j
          have hs := h.write (o' := .arr u (y0 :: ys : List u.den) mu) hob (B := b) (by rw [hV]; rfl) hrest.1 hoth hrest.2.1 hrest.2.2.1 hrest.2.2.2 (fun j _ => hcell j)
            (ObjRep.of_sl hm ⟨_, cap', hV, l1, l2, .inr ⟨b, oo, rfl, c, T, fz', hfr, hf', m3, ⟨us, Reps.mono (fun _ _ hc => RepD.ext hext hc) m4, m5⟩, m6, m7⟩⟩)
          have e1 : a.eval x = .slice (some ⟨b, oo, none⟩) (y0 :: ys : List u.den).length cap' := by rw [hv, hV]
          refine Leads.value (av := .val (.one (.own t id))) (v := a.eval x) ?_ hs (show N id ∧ _ from ⟨hN', hv, hv2⟩) (OpFrm.set _ _ _) hr le_span
          have hsh : w.shape? b = some (T, c.size) := by simp [World.shape?, m1]
          simp [execOp, ho, convert, run_underlying hs0, run_underlying he, e1, markStringish, hsh]
    · cases hr
  · cases hr

end
end Go.Abs

/- Abs, part N: what each operation does, IX: append. -/
namespace Go.Abs
section
variable {P : Program} {R : Type} {F : Fr} {ι : Nat → Value} {ok : Ok} {N : Nat → Prop} {σ : St} {a : Act} {w : World} {o : Oper} {r : R}

/-- A block that is no object's (any more) is written; more is told of it. -/
theorem Sim.free (h : Sim F ι ok N σ a w) {B : Nat} (hF : F.w0.heap.size ≤ B ∨ B ∈ F.S) (hno : ∀ i p, σ.ob i = some p → blk (ι i) ≠ some B) {w' : World} (hlt : B < w'.heap.size)
    (hsz : w'.heap.size = w.heap.size) (hoth : ∀ b, b ≠ B → w'.heap[b]? = w.heap[b]?) (h1 : w'.os = w.os) (h2 : w'.tape = w.tape) (h3 : w'.output = w.output)
    (hok : ∀ j, ok B j → w'.cell? ⟨B, j, none⟩ = w.cell? ⟨B, j, none⟩) {ok' : Ok} (hle : ok.Le ok') (hot : ∀ b, b ≠ B → ok'.At ok b) (hpl : Pls F ok' w') : Sim F ι ok' N σ a w' := by
  have hx : Ext w ok w' ok' := Ext.of hle fun b j hk => by
    by_cases e : b = B
    · subst e; exact hok j hk
    · exact cell_of_heap (hoth b e) j
  refine ⟨fun t => RepAV.mono hx (fun _ _ => rfl) (fun _ h => h) (h.tms t), fun i p hp => ?_, h.apart, fun b j hk => ?_, ?_, h.size, h.defs, h.pins, hpl⟩
  · obtain ⟨k1, k2, k3⟩ := h.objs i p hp
    refine ⟨k1, ObjRep.mono hx (fun _ _ => rfl) (fun _ h => h) (fun b hb => ?_) k2, k3⟩
    have hne : b ≠ B := fun e => by subst e; exact hno i p hp hb
    exact ⟨hoth b hne, hot b hne⟩
  · by_cases e : b = B
    · subst e; exact hlt
    · rw [hsz]; exact h.oks b j ((hot b e).any j hk)
  · obtain ⟨k1, k2, k3, k4, k5, k6, k7⟩ := h.keep
    refine ⟨by rw [hsz]; exact k1, fun b hb hs => ?_, by rw [h1]; exact k3, by rw [h2]; exact k4, by rw [h3]; exact k5, fun b j hk => ⟨hle.1 b j (k6 b j hk).1, ?_⟩, fun b j hk => ?_⟩
    · have hne : b ≠ B := fun e => by
        subst e
        rcases hF with hh | hh
        · omega
        · exact hs hh
      rw [hoth b hne]; exact k2 b hb hs
    · rw [(hx.1 b j (k6 b j hk).1).2]; exact (k6 b j hk).2
    · by_cases e : b = B
      · subst e; exact .inr hF
      · exact k7 b j ((hot b e).any j hk)

/-- A slice of our own takes its seat in a block that is nobody's. -/
theorem Sim.seat (h : Sim F ι ok N σ a w) {B : Nat} (hF : F.w0.heap.size ≤ B ∨ B ∈ F.S) (hno : ∀ i p, σ.ob i = some p → blk (ι i) ≠ some B) {id : Nat} (hid : ¬ N id) {u : Ty} {zs : List u.den} {mu : MK} (hmu : mu.isSl = true) {oo cap : Nat}
    {C : Array Value} {T : TypeId} {fz : Nat × Nat} (m1 : w.heap[B]? = some (.cells C T fz)) (m2 : FzOk fz (oo + cap * u.sz)) (m3 : oo + cap * u.sz ≤ C.size) {us : List Value}
    (m4 : Reps (RepD w ok u) zs us) (m5 : ∀ j v, us[j]? = some v → C[oo + j]? = some v) (hl : zs.length ≤ cap) (hb : zs.length ≤ big) (hk : ∀ j, ok B j → mu = .fr ∧ j < oo + zs.length * u.sz) (hcd : ∀ j, ¬ok.c B j ∧ ¬ok.d B j) :
    ∃ ok', Sim F (upd ι id (.slice (some ⟨B, oo, none⟩) zs.length cap)) ok' (plus N id) (σ.set id (.arr u zs mu)) a w ∧
      RepAV w ok' (upd ι id (.slice (some ⟨B, oo, none⟩) zs.length cap)) (plus N id) (.val (.one (.own u id))) (.slice (some ⟨B, oo, none⟩) zs.length cap) ∧ ok.Le ok' := by
  have hlt : B < w.heap.size := by
    rcases Nat.lt_or_ge B w.heap.size with h | h
    · exact h
    · rw [Array.getElem?_eq_none h] at m1; cases m1
  have hrep : ∀ (ok' : Ok), RepAV w ok' (upd ι id (.slice (some ⟨B, oo, none⟩) zs.length cap)) (plus N id) (.val (.one (.own u id))) (.slice (some ⟨B, oo, none⟩) zs.length cap) :=
    fun _ => ⟨plus_self, (upd_same _ _ _).symm, .inl ⟨_, _, _, rfl⟩⟩
  cases mu with
  | mp _ _ => cases hmu
  | cp _ => cases hmu
  | wr =>
    refine ⟨ok, h.newOb hid (show SlRep _ _ _ _ _ _ from ⟨_, cap, rfl, hl, hb, .inr ⟨B, oo, rfl, C, T, fz, m1, m2, m3, ⟨us, m4, m5⟩, fun _ j hj => ?_, (fun hm => by cases hm)⟩⟩) (fun b hb => ?_), hrep ok, Ok.Le.refl ok⟩
    · cases (hk j hj).1
    · cases hb; exact ⟨hF, hno⟩
  | fr =>
    have hle : ok.Le ⟨fun b j => ok.p b j ∨ (b = B ∧ oo ≤ j ∧ j < oo + zs.length * u.sz), ok.c, ok.d⟩ := ⟨fun _ _ hk => .inl hk, fun _ _ k => k, fun _ _ k => k⟩
    have h' := h.free hF hno (w' := w) hlt rfl (fun _ _ => rfl) rfl rfl rfl (fun _ _ => rfl) hle (fun b hne j => ⟨fun hk => by
      rcases hk with hk | hk
      · exact hk
      · exact absurd hk.1 hne, fun k => k, fun k => k⟩) ⟨fun b j hk => by
        obtain ⟨q1, q2, q3⟩ := h.pls.cs b j hk
        refine ⟨fun k => ?_, q2, q3⟩
        rcases k with k | ⟨rfl, _⟩
        · exact q1 k
        · rcases hk with hk | hk
          · exact (hcd j).1 hk
          · exact (hcd j).2 hk, h.pls.ds, h.pls.kc, h.pls.kd⟩
    refine ⟨_, h'.newOb hid (show SlRep _ _ _ _ _ _ from ⟨_, cap, rfl, hl, hb, .inr ⟨B, oo, rfl, C, T, fz, m1, m2, m3, ⟨us, Reps.mono (fun _ _ hr => RepD.ext (Ext.of hle fun _ _ _ => rfl) hr) m4, m5⟩, (fun hm => by cases hm), fun _ => ⟨fun j hj => ?_, fun j hj => .inr ⟨rfl, by omega, by omega⟩⟩⟩⟩) (fun b hb => ?_), hrep _, hle⟩
    · refine ⟨?_, hcd j⟩
      rcases hj with (hj | hj) | hj | hj
      · exact (hk j (.inl hj)).2
      · exact hj.2.2
      · exact absurd hj (hcd j).1
      · exact absurd hj (hcd j).2
    · cases hb; exact ⟨hF, hno⟩

/-! ### the machine's append -/
theorem run_append_in {ats : Array TypeId} {ty st xt e : TypeId} {i : TypeInfo} {dx : TypeDesc} (ha : ats.toList = [st, xt]) (hu : P.underlying st = some (.slice e)) (hx : P.underlying xt = some dx) (hd : ∀ k, dx ≠ .int k) (hi : P.info? e = some i)
    {base : Option Addr} {sLen sCap n : Nat} {vx : Value} {news : List Value} (hn : (Builtin.lenOf vx).run P w = .ok n w) (hf : (Builtin.firstCells i.size n vx).run P w = .ok news.toArray w) (hroom : sLen + n ≤ sCap)
    {w' : World} (hs : ∀ A, base = some A → (storeCells (A.add (sLen * i.size)) news).run P w = .ok () w') (hb : base = none → w' = w) :
    (Builtin.append_ ats ty #[.slice base sLen sCap, vx]).run P w = .ok (.slice base (sLen + n) sCap) w' := by
  have a0 : ats[0]? = some st := by rw [← Array.getElem?_toList, ha]; rfl
  have a1 : ats[1]? = some xt := by rw [← Array.getElem?_toList, ha]; rfl
  have hz : (match dx with | .int _ => true | _ => false) = false := by cases dx <;> first | rfl | exact absurd rfl (hd _)
  unfold Builtin.append_
  simp only [a0, a1, Sem.run_bind, run_underlying hu, run_underlying hx, Result.andThen_ok, run_sizeOf' hi, List.getElem?_toArray, List.getElem?_cons_zero, List.getElem?_cons_succ, Sem.run_pure]
  cases dx <;> first | exact absurd rfl (hd _) | skip
  all_goals
    simp [hn, hroom, hf]
    cases base with
    | none => simp [hb rfl]
    | some A => simp [hs A rfl]

end
end Go.Abs

/- Abs, part O: what each operation does, X: append. -/
namespace Go.Abs
section
variable {P : Program} {R : Type} {F : Fr} {ι : Nat → Value} {ok : Ok} {N : Nat → Prop} {σ : St} {a : Act} {w : World} {o : Oper} {r : R}

/-- What is put behind, as the machine has it. -/
theorem appended_ok (h : Sim F ι ok N σ a w) {u : Ty} {x : AV} {v : Value} {ys : List u.den} (hx : RepAV w ok ι N x v) (hy : appended σ u x = some ys) :
    ∃ news, Reps (RepD w ok u) ys news ∧ ys.length ≤ big ∧ ∀ (w' : World), w'.heap = w.heap → (Builtin.lenOf v).run P w' = .ok ys.length w' ∧ (Builtin.firstCells u.sz ys.length v).run P w' = .ok news.toArray w' := by
  have base : listOf σ u x = some ys → ∃ news, Reps (RepD w ok u) ys news ∧ ys.length ≤ big ∧ ∀ (w' : World), w'.heap = w.heap → (Builtin.lenOf v).run P w' = .ok ys.length w' ∧ (Builtin.firstCells u.sz ys.length v).run P w' = .ok news.toArray w' := by
    intro hl
    obtain ⟨A, cap, rfl, l1, l2, h3⟩ := listOf_ok h hx hl
    rcases h3 with h3 | ⟨b, oo, us, rfl, h4, h5⟩
    · subst h3
      refine ⟨[], rfl, l2, fun w' hw => ⟨rfl, ?_⟩⟩
      cases A with
      | none => rfl
      | some A => exact run_firstCells_some (P := P) w' u.sz 0 A 0 cap [] (by simp) (fun j v hj => by simp at hj)
    · refine ⟨us, h4, l2, fun w' hw => ⟨rfl, ?_⟩⟩
      refine run_firstCells_some (P := P) w' u.sz ys.length ⟨b, oo, none⟩ ys.length cap us (Reps.len (fun x us hr => RepD.len hr) h4) (fun j v hj => ?_)
      rw [addr_add, cell_of_heap (w := w) (w' := w') (by rw [hw])]
      exact h5 j v hj
  unfold appended at hy
  split at hy
  · rename_i s
    obtain ⟨e1, e2⟩ := Ty.to_some hy
    cases e1
    simp only [cast_eq] at e2
    subst e2
    obtain ⟨s', e, hs, hl⟩ := hx
    cases e
    subst hs
    refine ⟨s'.data.toList.map fun b => Value.int .u8 b.toNat, reps_bytes s'.data.toList, hl, fun w' hw => ⟨?_, ?_⟩⟩
    · simp [Builtin.lenOf, bytesOf]
    · have e1 : (bytesOf s').length = s'.size := by simp [bytesOf]
      rw [e1]
      simp only [Builtin.firstCells]
      have hx : (ByteArray.extract s' 0 s'.size).data = s'.data := by
        rw [ByteArray.data_extract]
        exact Array.extract_size
      rw [hx]
      simp only [Sem.run_pure]
      congr 1
      apply Array.ext'
      simp
  · exact base hy

theorem run_append_grow' {ats : Array TypeId} {ty st xt e : TypeId} {i : TypeInfo} {z : Value} {dx : TypeDesc} (ha : ats.toList = [st, xt]) (hu : P.underlying st = some (.slice e)) (hx : P.underlying xt = some dx) (hd : ∀ k, dx ≠ .int k) (hi : P.info? e = some i) (hz : i.zero = some z)
    {base : Option Addr} {sLen sCap n : Nat} {vx : Value} {olds news : List Value} (hn : (Builtin.lenOf vx).run P w = .ok n w) (hf : (Builtin.firstCells i.size n vx).run P w.drew = .ok news.toArray w.drew)
    (hfo : (Builtin.firstCells i.size sLen (.slice base sLen sCap)).run P w.drew = .ok olds.toArray w.drew)
    (hg : sCap < sLen + n) (h63 : sLen + n ≤ 9223372036854775807) (hfit : Builtin.nextslicecap (sLen + n) sCap * i.bytes ≤ 281474976710656) :
    (Builtin.append_ ats ty #[.slice base sLen sCap, vx]).run P w =
      .ok (.slice (some ⟨w.heap.size, 0, none⟩) (sLen + n) (grownCap w (sLen + n) sCap e))
        (w.drew.alloc (.cells ((olds ++ news) ++ (Builtin.zeroCells z.cells (grownCap w (sLen + n) sCap e - (sLen + n))).toList).toArray e)) := by
  have a0 : ats[0]? = some st := by rw [← Array.getElem?_toList, ha]; rfl
  have a1 : ats[1]? = some xt := by rw [← Array.getElem?_toList, ha]; rfl
  have hn' : ¬ (sLen + n ≤ sCap) := by omega
  have h63' : ¬ (9223372036854775807 < ((sLen : Int) + (n : Int))) := by omega
  have h48' : ¬ (281474976710656 < Builtin.nextslicecap (sLen + n) sCap * i.bytes) := by omega
  unfold Builtin.append_
  simp only [a0, a1, Sem.run_bind, run_underlying hu, run_underlying hx, Result.andThen_ok, run_sizeOf' hi, List.getElem?_toArray, List.getElem?_cons_zero, List.getElem?_cons_succ, Sem.run_pure]
  cases dx <;> first | exact absurd rfl (hd _) | skip
  all_goals
    simp [hn, hn', hf, hfo, typeInfo, zeroValue, hi, hz, h63', h48', Question.forced, newRow, grownCap]
    try (congr 2; apply Array.ext'; simp)

theorem zeroCells_eq (z : Array Value) (n : Nat) : Builtin.zeroCells z n = madeCells z (n * z.size) := rfl

theorem Reps.ones {u : Ty} : ∀ {xs : List u.den} {us : List Value}, Reps (RepD w ok u) xs us → ∀ v ∈ us, v.oneCell' = true
  | [], us, h, v, hv => by cases (show us = [] from h); cases hv
  | x :: r, us, ⟨v1, v2, e, h1, h2⟩, v, hv => by
    subst e
    rcases List.mem_append.1 hv with hv | hv
    · exact RepD.one h1 v hv
    · exact Reps.ones h2 v hv

theorem run_store_in {b o : Nat} {vs : List Value} (h1 : ∀ u ∈ vs, u.oneCell' = true)
    {c : Array Value} {T : TypeId} {fz : Nat × Nat} (hb : w.heap[b]? = some (.cells c T fz)) (hl : o + vs.length ≤ c.size) (hf : ∀ j, o ≤ j → j < o + vs.length → ¬(fz.1 ≤ j ∧ j < fz.2)) :
    (storeCells (⟨b, o, none⟩ : Addr) vs).run P w = .ok () (w.setCells b o vs) := by
  have hst := run_storeCells_cells (P := P) b o vs 0 w (fun j hj => by
      rw [cell_in hb, Nat.add_zero]
      have : o + j < c.size := by omega
      simp [this]) (fun j hj => by
      have hn := hf (o + j) (by omega) (by omega)
      simp only [World.frozen?, hb, Nat.add_zero]
      exact Bool.eq_false_iff.2 (fun hh => hn (by simpa using hh))) h1
  simpa only [Nat.add_zero] using hst

theorem lim_ok {e : TypeId} {i : TypeInfo} (hi : P.info? e = some i) (hby : i.bytes ≤ 4096) : lim P e ≤ 140737488351232 ∧ 2 * lim P e * i.bytes ≤ 281474976710656 := by
  have hb : P.bytesOf e = i.bytes := by simp [Program.bytesOf, hi]
  unfold lim
  rw [hb]
  cases h : Nat.ble i.bytes 1 with
  | true =>
    have := Nat.le_of_ble_eq_true h
    have h2 := Nat.mul_le_mul_left (2 * 140737488351232) this
    simp only [cond_true]
    omega
  | false =>
    have h2 := Nat.mul_le_mul_left (2 * 4294967296) hby
    simp only [cond_false]
    omega

/-- A slice of our own (or none) with more behind. -/
theorem append_core (h : Sim F ι ok N σ a w) {nb : Nat} (hN : ¬ N nb) {u u0 : Ty} (hsu : u.sz = u0.sz) {xs ys : List u.den} {mu : MK} {A : Option Addr} {cap : Nat}
    (hl : xs.length ≤ cap) (hbase : (A = none ∧ xs = [] ∧ cap = 0) ∨ ∃ b o, A = some ⟨b, o, none⟩ ∧ ArrAt w ok u xs mu b o cap ∧ (F.w0.heap.size ≤ b ∨ b ∈ F.S) ∧ ∀ i p, σ.ob i = some p → blk (ι i) ≠ some b)
    {vx : Value} {news : List Value} (hy : Reps (RepD w ok u) ys news) (hsrc : ∀ (w' : World), w'.heap = w.heap → (Builtin.lenOf vx).run P w' = .ok ys.length w' ∧ (Builtin.firstCells u.sz ys.length vx).run P w' = .ok news.toArray w')
    {e : TypeId} (hlen : xs.length + ys.length ≤ lim P e) {ats : Array TypeId} {ty st xt : TypeId} {dx : TypeDesc} (ha : ats.toList = [st, xt]) (hx : P.underlying xt = some dx) (hd : ∀ k, dx ≠ .int k) (he : elemOf P st = some (e, u0)) (hzero : zeroOk P e u0 = true)
    (mu' : MK) (hsl : mu'.isSl = true) (hmu : mu' = mu ∨ A = none) :
    ∃ v w' ok', (Builtin.append_ ats ty #[.slice A xs.length cap, vx]).run P w = .ok v w' ∧ Sim F (upd ι nb v) ok' (plus N nb) (σ.set nb (.arr u (xs ++ ys) mu')) a w' ∧ RepAV w' ok' (upd ι nb v) (plus N nb) (.val (.one (.own u nb))) v := by
  obtain ⟨hu, i, hi, hsz, hpos, hby⟩ := elemOf_some he
  obtain ⟨i', z, hi', hz, hzr⟩ := zeroOk_some hzero w ok
  rw [hi] at hi'; cases hi'
  have hzl : z.cells.size = u.sz := by have := RepD.len hzr; rw [hsu]; simpa using this
  rw [← hsu] at hsz hpos
  have hnl : news.length = ys.length * u.sz := Reps.len (fun x us hr => RepD.len hr) hy
  obtain ⟨hlim1, hlim2⟩ := lim_ok hi hby
  by_cases hroom : xs.length + ys.length ≤ cap
  · -- in place
    rcases hbase with ⟨rfl, rfl, rfl⟩ | ⟨B, oo, rfl, ⟨C, T, fz, m1, m2, m3, ⟨us, m4, m5⟩, m6, m7⟩, hF, hno⟩
    · have hy0 : ys = [] := by cases ys with | nil => rfl | cons _ _ => simp at hroom
      subst hy0
      have hrun := run_append_in (P := P) (w := w) (w' := w) (ty := ty) (base := none) (sLen := 0) (sCap := 0) ha hu hx hd hi (hsrc w rfl).1 (by rw [hsz]; exact (hsrc w rfl).2) (by simp) (fun A hA => by cases hA) (fun _ => rfl)
      refine ⟨_, w, ok, hrun, h.newOb hN (ObjRep.of_sl hsl ⟨none, 0, rfl, by simp, by simp, .inl ⟨rfl, by simp, rfl⟩⟩) (fun b hb => by cases hb), ⟨plus_self, (upd_same _ _ _).symm, .inl ⟨_, _, _, rfl⟩⟩⟩
    · have hul : us.length = xs.length * u.sz := Reps.len (fun x us hr => RepD.len hr) m4
      have hk1 : (xs.length + ys.length) * u.sz ≤ cap * u.sz := Nat.mul_le_mul_right _ hroom
      rw [Nat.add_mul] at hk1
      have hmu' : mu' = mu := by rcases hmu with h | h <;> first | exact h | cases h
      subst hmu'
      have hst : (storeCells (⟨B, oo + xs.length * u.sz, none⟩ : Addr) news).run P w = .ok () (w.setCells B (oo + xs.length * u.sz) news) :=
        run_store_in (Reps.ones hy) m1 (by omega) (fun j h1 h2 => m2.free j (by omega))
      obtain ⟨c', k1, k2, k3⟩ := setCells_heap B news (oo + xs.length * u.sz) w C T fz m1 (by omega)
      obtain ⟨s1, s2, s3⟩ := setCells_rest B news (oo + xs.length * u.sz) w
      have hget : ∀ j, c'[j]? = if oo + xs.length * u.sz ≤ j ∧ j < oo + xs.length * u.sz + news.length then news[j - (oo + xs.length * u.sz)]? else C[j]? := fun j => by
        rw [← Array.getElem?_toList, k3, splice_get _ _ _ (by simp; omega)]
        simp
      have hkk : ∀ j, ok B j → mu' = .fr ∧ j < oo + xs.length * u.sz := fun j hj => by
        cases hm : mu' with
        | wr => exact absurd hj (m6 hm j)
        | fr => exact ⟨rfl, ((m7 hm).1 j hj).1⟩
        | mp _ _ => rw [hm] at hsl; cases hsl
        | cp _ => rw [hm] at hsl; cases hsl
      have hcd : ∀ j, ¬ok.c B j ∧ ¬ok.d B j := fun j => by
        cases hm : mu' with
        | wr => exact ⟨fun x => m6 hm j (.inr (.inl x)), fun x => m6 hm j (.inr (.inr x))⟩
        | fr => exact ⟨fun x => ((m7 hm).1 j (.inr (.inl x))).2.1 x, fun x => ((m7 hm).1 j (.inr (.inr x))).2.2 x⟩
        | mp _ _ => rw [hm] at hsl; cases hsl
        | cp _ => rw [hm] at hsl; cases hsl
      have hokc : ∀ j, ok B j → (w.setCells B (oo + xs.length * u.sz) news).cell? ⟨B, j, none⟩ = w.cell? ⟨B, j, none⟩ := fun j hj => by
        rw [cell_in k1, cell_in m1, hget, if_neg]
        have := (hkk j hj).2
        omega
      have hlt : B < w.heap.size := by
        rcases Nat.lt_or_ge B w.heap.size with h | h
        · exact h
        · rw [Array.getElem?_eq_none h] at m1; cases m1
      have hext : Ext w ok (w.setCells B (oo + xs.length * u.sz) news) ok := Ext.same fun b j hk => by
        by_cases e : b = B
        · subst e; exact hokc j hk
        · exact cell_of_heap (setCells_heap_other B _ _ w b e) j
      have h' := h.free (w' := w.setCells B (oo + xs.length * u.sz) news) (ok' := ok) hF hno (by rw [setCells_size]; exact hlt) (setCells_size B _ _ w) (fun b hb => setCells_heap_other B _ _ w b hb) s1 s2 s3 hokc (Ok.Le.refl ok) (fun _ _ => Ok.At.refl _ _) (h.pls.heap fun b j hk => setCells_heap_other B _ _ w b fun e => by subst e; exact hk.elim (hcd j).1 (hcd j).2)
      have hrun := run_append_in (P := P) (w := w) (w' := w.setCells B (oo + xs.length * u.sz) news) (ty := ty) (base := some ⟨B, oo, none⟩) (sLen := xs.length) (sCap := cap) ha hu hx hd hi (hsrc w rfl).1 (by rw [hsz]; exact (hsrc w rfl).2) hroom
        (fun A hA => by cases hA; rw [addr_add, hsz]; exact hst) (fun hb => by cases hb)
      obtain ⟨ok', q1, q2, _⟩ := h'.seat hF hno hN (u := u) (zs := xs ++ ys) (mu := mu') hsl (oo := oo) (cap := cap) k1 m2 (by omega) (us := us ++ news)
        (Reps.append (Reps.mono (fun _ _ hr => RepD.ext hext hr) m4) (Reps.mono (fun _ _ hr => RepD.ext hext hr) hy))
        (fun j v hj => by
          rw [hget]
          rw [List.getElem?_append] at hj
          split at hj
          · rw [if_neg (by omega)]; exact m5 j v hj
          · have : j - us.length < news.length := by
              rcases Nat.lt_or_ge (j - us.length) news.length with h | h
              · exact h
              · rw [List.getElem?_eq_none h] at hj; cases hj
            rw [if_pos (by omega), show oo + j - (oo + xs.length * u.sz) = j - us.length from by omega]; exact hj)
        (by simpa using hroom) (by simp [big]; omega) (fun j hj => ⟨(hkk j hj).1, by have := (hkk j hj).2; simp [Nat.add_mul]; omega⟩) hcd
      rw [List.length_append] at q1 q2
      exact ⟨_, _, ok', hrun, q1, q2⟩
  · -- in a new block
    have hfit : Builtin.nextslicecap (xs.length + ys.length) cap * i.bytes ≤ 281474976710656 := by
      have g1 := nextslicecap_le (need := xs.length + ys.length) (old := cap) (by omega)
      have g2 : Builtin.nextslicecap (xs.length + ys.length) cap * i.bytes ≤ (2 * lim P e) * i.bytes := Nat.mul_le_mul (by omega) (Nat.le_refl _)
      omega
    obtain ⟨olds, ho1, ho2⟩ : ∃ olds, Reps (RepD w ok u) xs olds ∧ (Builtin.firstCells i.size xs.length (.slice A xs.length cap)).run P w.drew = .ok olds.toArray w.drew := by
      rcases hbase with ⟨rfl, rfl, rfl⟩ | ⟨B, oo, rfl, ⟨C, T, fz, m1, m2, m3, ⟨us, m4, m5⟩, m6, m7⟩, hF, hno⟩
      · exact ⟨[], rfl, rfl⟩
      · refine ⟨us, m4, run_firstCells_some (P := P) w.drew i.size xs.length ⟨B, oo, none⟩ xs.length cap us (by rw [hsz]; exact Reps.len (fun x us hr => RepD.len hr) m4) (fun j v hj => ?_)⟩
        rw [addr_add, cell_of_heap (w := w) (w' := w.drew) rfl, cell_in m1]
        exact m5 j v hj
    have hol : olds.length = xs.length * u.sz := Reps.len (fun x us hr => RepD.len hr) ho1
    have hrun := run_append_grow' (P := P) (w := w) (ty := ty) (base := A) (sLen := xs.length) (sCap := cap) ha hu hx hd hi hz (hsrc w rfl).1 (by rw [hsz]; exact (hsrc w.drew rfl).2) ho2 (by omega) (by omega) hfit
    have hcap := le_grownCap w (xs.length + ys.length) cap e
    have hext : ∀ c : Obj, Ext w ok (w.drew.alloc c) ok := fun c => Ext.same fun b j hk => cell_of_heap (heap_alloc_lt w.drew c (h.oks b j hk)) j
    have hsize : (((olds ++ news) ++ (Builtin.zeroCells z.cells (grownCap w (xs.length + ys.length) cap e - (xs.length + ys.length))).toList).toArray).size = grownCap w (xs.length + ys.length) cap e * u.sz := by
      rw [zeroCells_eq]
      simp only [List.size_toArray, List.length_append, hol, hnl, Array.length_toList, size_madeCells, hzl]
      rw [← Nat.add_mul, ← Nat.add_mul]
      congr 1; omega
    obtain ⟨ok', q1, q2, _⟩ := (h.drew.alloc0 (.cells ((olds ++ news) ++ (Builtin.zeroCells z.cells (grownCap w (xs.length + ys.length) cap e - (xs.length + ys.length))).toList).toArray e)).seat (B := w.heap.size) (.inl h.keep.size)
      (fun i p hp hb => by have := (h.objs i p hp).2.1.lt hb; omega) hN (u := u) (zs := xs ++ ys) (mu := mu') hsl (oo := 0) (cap := grownCap w (xs.length + ys.length) cap e) (heap_alloc_at w.drew _) (.inr rfl) (by rw [hsize]; omega) (us := olds ++ news)
      (Reps.append (Reps.mono (fun _ _ hr => RepD.ext (hext _) hr) ho1) (Reps.mono (fun _ _ hr => RepD.ext (hext _) hr) hy))
      (fun j v hj => by
        have : j < (olds ++ news).length := by
          rcases Nat.lt_or_ge j (olds ++ news).length with h | h
          · exact h
          · rw [List.getElem?_eq_none h] at hj; cases hj
        rw [Nat.zero_add, List.getElem?_toArray, List.getElem?_append_left this]; exact hj)
      (by simpa using hcap) (by simp [big]; omega) (fun j hj => absurd (h.oks _ _ hj) (by omega)) (fun j => ⟨fun x => absurd (h.oks _ _ (.inr (.inl x))) (by omega), fun x => absurd (h.oks _ _ (.inr (.inr x))) (by omega)⟩)
    rw [List.length_append] at q1 q2
    exact ⟨_, _, ok', hrun, q1, q2⟩
end
end Go.Abs

/- Abs, part P: what each operation does, XI: append; the other ones. -/
namespace Go.Abs
section
variable {P : Program} {R : Type} {F : Fr} {ι : Nat → Value} {ok : Ok} {N : Nat → Prop} {σ : St} {a : Act} {w : World} {o : Oper} {r : R}

theorem evs_two {l : Array Operand} {s x : AV} (h : evs σ l.toList = [s, x]) : ∃ y z, l = #[y, z] ∧ σ.ev y = s ∧ σ.ev z = x := by
  obtain ⟨l⟩ := l
  simp only at h
  cases l with
  | nil => simp [evs] at h
  | cons y l =>
    cases l with
    | nil => simp [evs] at h
    | cons z l =>
      cases l with
      | nil => simp [evs] at h; exact ⟨y, z, rfl, h.1, h.2⟩
      | cons _ _ => simp [evs] at h

theorem evs_one {l : Array Operand} {s : AV} (h : evs σ l.toList = [s]) : ∃ y, l = #[y] ∧ σ.ev y = s := by
  obtain ⟨l⟩ := l
  simp only at h
  cases l with
  | nil => simp [evs] at h
  | cons y l =>
    cases l with
    | nil => simp [evs] at h; exact ⟨y, rfl, h⟩
    | cons z l => simp [evs] at h

theorem leads_append (h : Sim F ι ok N σ a w) {nb : Nat} (hN : Fresh N nb) {c : Call} (ho : o.op = .call c) (hc : c.callee = .builtin .append) {s x : AV} (hargs : evs σ c.args.toList = [s, x]) {K : AV → St → Option R}
    (hr : aAppend P nb c.argTypes.toList s x σ K = some r) : Leads P o F (span N nb) a w σ K r := by
  obtain ⟨ys, yx, hl, e1, e2⟩ := evs_two hargs
  have hs := h.ev ys
  have hx := h.ev yx
  rw [e1] at hs
  rw [e2] at hx
  have hexec : ∀ w, (execOp a.eval o).run P w = (do let v ← Builtin.append_ c.argTypes o.type #[a.eval ys, a.eval yx]; pure (Next.value v)).run P w := fun w => by
    simp [execOp, ho, resolve, hc, invoke, builtin, hl]
  unfold aAppend at hr
  split at hr
  · rename_i st xt hat
    split at hr
    · rename_i e u he hint
      obtain ⟨dx, hdx, hd⟩ : ∃ dx, P.underlying xt = some dx ∧ ∀ k, dx ≠ .int k := by
        split at hint
        · cases hint
        · cases hint
        · rename_i h1 h2
          cases hu : P.underlying xt with
          | none => exact absurd hu h2
          | some dx => exact ⟨dx, rfl, fun k e => h1 k (by rw [hu, e])⟩
      cases hz : zeroOk P e u with
      | false => simp [hz] at hr
      | true =>
        simp only [hz, cond_true] at hr
        have hsu := appTy_sz u s x
        generalize appTy u s x = ut at hr hsu
        split at hr
        · rename_i ys' hys
          obtain ⟨news, n1, n2, n3⟩ := appended_ok h hx hys
          split at hr
          · -- nothing of our own
            have hv : a.eval ys = .slice none 0 0 := hs
            cases hb : Nat.ble (List.length ys') (lim P e) with
            | false => simp [hb] at hr
            | true =>
              simp only [hb, cond_true] at hr
              have hb := Nat.le_of_ble_eq_true hb
              obtain ⟨v, w', ok', q1, q2, q3⟩ := append_core h hN.nb (u := ut) hsu (xs := []) (mu := .wr) (A := none) (cap := 0) (Nat.le_refl _) (.inl ⟨rfl, rfl, rfl⟩) n1 n3 (by simpa using hb) (ty := o.type) hat hdx hd he hz .wr rfl (.inl rfl)
              refine Leads.value ?_ q2 q3 (OpFrm.set _ _ _) (by simpa using hr) plus_span
              rw [hexec, hv]
              simp only [List.length_nil] at q1
              simp [q1]
          · rename_i u' id
            cases hob : σ.ob id with
            | none => simp [hob] at hr
            | some oo =>
              cases oo with
              | box _ => simp [hob] at hr
              | arr u'' xs mu =>
                simp only [hob] at hr
                cases hsl : mu.isSl with
                | false => simp [hsl] at hr
                | true =>
                cases hb : u''.beq ut && u'.beq ut with
                | false => simp [hb] at hr
                | true =>
                  simp only [hsl, hb, Bool.and_self, cond_true] at hr
                  split at hr
                  · rename_i xs' hxs
                    obtain ⟨t1, t2⟩ := Ty.to_some hxs
                    cases t1
                    simp only [cast_eq] at t2
                    subst t2
                    cases hb : Nat.ble (List.length xs + List.length ys') (lim P e) with
                    | false => simp [hb] at hr
                    | true =>
                      simp only [hb, cond_true] at hr
                      have hb := Nat.le_of_ble_eq_true hb
                      obtain ⟨g1, hO, g3⟩ := h.objs id _ hob
                      obtain ⟨A, cap, hV, l1, l2, h3⟩ := hO.sl hsl
                      have hv : a.eval ys = .slice A (List.length xs) cap := hs.2.1.trans hV
                      have hk := h.kill id
                      obtain ⟨v, w', ok', q1, q2, q3⟩ := append_core hk hN.nb (u := ut) hsu (xs := xs) (mu := mu) (A := A) (cap := cap) l1 (by
                        rcases h3 with h3 | ⟨b, oo, hA, h4⟩
                        · exact .inl h3
                        · refine .inr ⟨b, oo, hA, h4, g3 b (by rw [hV, hA]; rfl), fun i p hp hbi => ?_⟩
                          rw [St.ob_kill] at hp
                          split at hp
                          · cases hp
                          · rename_i hne
                            exact h.apart id i _ p b hob hp hne (by rw [hV, hA]; rfl) hbi) n1 n3 hb (ty := o.type) hat hdx hd he hz mu hsl (.inl rfl)
                      refine Leads.value ?_ q2 q3 ((OpFrm.kill _ _).trans (OpFrm.set _ _ _)) hr plus_span
                      rw [hexec, hv]
                      simp [q1]
                  · cases hr
          · cases hr
        · cases hr
    · cases hr
  · cases hr
end
end Go.Abs

/- Abs, part Pb: slices whose capacity is told; 'copy'; worlds that grew. -/
namespace Go.Abs
section
variable {P : Program} {R : Type} {F : Fr} {ι : Nat → Value} {ok : Ok} {N : Nat → Prop} {σ : St} {a : Act} {w : World} {o : Oper} {r : R}

theorem capOf_some {l c : Operand} {n : Nat} (h : capOf l c = some n) : l = .const (.int .i64 0) ∧ ∃ m : Int, c = .const (.int .i64 m) ∧ 0 < m ∧ m ≤ 65536 ∧ n = m.toNat := by
  unfold capOf at h
  split at h
  · rename_i l m
    cases hb : (l == 0) && decide (0 < m) && decide (m ≤ 65536) with
    | false => rw [hb] at h; cases h
    | true =>
      rw [hb] at h
      simp only [Bool.and_eq_true, beq_iff_eq, decide_eq_true_eq] at hb
      obtain ⟨⟨b1, b2⟩, b3⟩ := hb
      cases h
      exact ⟨by rw [b1], m, rfl, b2, b3, rfl⟩
  · cases h

theorem leads_makeCap (h : Sim F ι ok N σ a w) {nb : Nat} (hN : Fresh N nb) {t : TypeId} {l c : Operand} (ho : o.op = .makeSlice t l c) {n : Nat} (hc : capOf l c = some n) {K : AV → St → Option R}
    (hr : aMakeCap P nb t n σ K = some r) : Leads P o F (span N nb) a w σ K r := by
  obtain ⟨rfl, m, rfl, m1, m2, rfl⟩ := capOf_some hc
  unfold aMakeCap at hr
  split at hr
  · rename_i e u he
    obtain ⟨hu, i, hi, hsz, hpos, hby⟩ := elemOf_some he
    cases hb : zeroOk P e u && Nat.blt 0 m.toNat && Nat.ble m.toNat 65536 with
    | false => rw [hb] at hr; cases hr
    | true =>
      rw [hb] at hr
      simp only [cond_true] at hr
      simp only [Bool.and_eq_true] at hb
      obtain ⟨i', z, hi', hz, hzr⟩ := zeroOk_some hb.1.1 w ok
      rw [hi] at hi'; cases hi'
      have hzl : z.cells.size = u.sz := by have := RepD.len hzr; simpa using this
      have hbm : (i.bytes : Int) * m ≤ 281474976710656 := by
        have : (i.bytes : Int) * m ≤ 4096 * 65536 := Int.mul_le_mul (by omega) m2 (by omega) (by omega)
        omega
      have hrun := run_make (P := P) w t e i z hu hi hz .i64 .i64 0 m (by omega) (by omega) hbm (by omega)
      have hm : (List.replicate m.toNat z.cells.toList).flatten = (madeCells z.cells (m.toNat * i.size)).toList := by
        rw [hsz, ← hzl, madeCells_eq _ (by omega)]
      have hcells : (madeCells z.cells (m.toNat * i.size)) = ((List.replicate m.toNat z.cells.toList).flatten).toArray := by
        rw [hm]
      have hext : Ext w ok (w.alloc (.cells (madeCells z.cells (m.toNat * i.size)) e)) ok := ext_alloc h.oks _
      have hrep : Reps (RepD (w.alloc (.cells (madeCells z.cells (m.toNat * i.size)) e)) ok u) (List.replicate m.toNat u.zero) ((List.replicate m.toNat z.cells.toList).flatten) :=
        Reps.replicate (RepD.ext hext hzr) m.toNat
      have q1 := h.alloc (id := nb) hN.nb (.cells (madeCells z.cells (m.toNat * i.size)) e) (o := .arr u [] (.cp m.toNat)) (V := .slice (some ⟨w.heap.size, 0, none⟩) 0 m.toNat) rfl
        ⟨w.heap.size, 0, by simp, Nat.zero_le _, by simp [big]; omega, _, e, (0, 0), heap_alloc_at _ _, .inr rfl, by rw [size_madeCells, hsz]; omega,
          ⟨_, by simpa using hrep, fun j v hj => by rw [Nat.zero_add, hcells]; simpa using hj⟩, fun _ j hj => by have := h.oks _ _ hj; omega, fun hm => by cases hm⟩
      refine Leads.value (av := .val (.one (.own u nb))) (v := .slice (some ⟨w.heap.size, 0, none⟩) 0 m.toNat) ?_ q1 ⟨plus_self, (upd_same _ _ _).symm, .inl ⟨_, _, _, rfl⟩⟩ (OpFrm.set _ _ _) hr plus_span
      have e1 : a.eval (.const (.int .i64 0)) = .int .i64 0 := rfl
      have e2 : a.eval (.const (.int .i64 m)) = .int .i64 m := rfl
      simp [execOp, ho, e1, e2, hrun]
  · cases hr

theorem capAt_some {x : AV} {q : Nat × Nat × (t : Ty) × List t.den} (h : capAt σ x = some q) : ∃ e, x = .val (.one (.own e q.1)) ∧ σ.ob q.1 = some (.arr q.2.2.1 q.2.2.2 (.cp q.2.1)) := by
  unfold capAt at h
  split at h
  · rename_i e id
    split at h
    · rename_i t xs c ho
      cases h
      exact ⟨e, rfl, ho⟩
    · cases h
  · cases h

theorem leads_cut (h : Sim F ι ok N σ a w) {nb : Nat} (hN : Fresh N nb) {t : TypeId} {x : Operand} {lo hi mx : Option Operand} (ho : o.op = .slice t x lo hi mx) {q : Nat × Nat × (t : Ty) × List t.den} (hq : capAt σ (σ.ev x) = some q) {K : AV → St → Option R}
    (hr : aCut P nb t q (bnd σ lo) (bnd σ hi) (bnd σ mx) σ K = some r) : Leads P o F (span N nb) a w σ K r := by
  have hx := h.ev x
  obtain ⟨e0, hxe, hob⟩ := capAt_some hq
  obtain ⟨id, c, u, xs⟩ := q
  dsimp only at hxe hob
  rw [hxe] at hx
  unfold aCut at hr
  split at hr
  · rename_i hv hbl hbh hbm
    have Bl := bnd_ok h hbl
    have Bh := bnd_ok h hbh
    have Bm := bnd_ok h hbm
    split at hr
    · rename_i e' u' he
      obtain ⟨hu, i, hi', hsz, hpos, hby⟩ := elemOf_some he
      dsimp only at hr
      cases hb : u.beq u' && (decide (0 ≤ hv) && decide (hv ≤ (c : Int))) with
      | false => rw [hb] at hr; cases hr
      | true =>
        rw [hb] at hr
        simp only [cond_true] at hr
        simp only [Bool.and_eq_true, decide_eq_true_eq] at hb
        obtain ⟨b0, b1, b2⟩ := hb
        have e1 := Ty.eq_of_beq b0
        subst e1
        obtain ⟨g1, ⟨b, oo, hV, l1, l2, C, T, fz, m1, m2, m3, ⟨us, m4, m5⟩, m6, m7⟩, g3⟩ := h.objs id _ hob
        have hxv : a.eval x = .slice (some ⟨b, oo, none⟩) xs.length c := hx.2.1.trans hV
        have hrun := run_sliceBounds (P := P) (w := w) (len := xs.length) (cap := c) true Bl Bh Bm (by simp) l1 (by simp) (by simpa using b1) (by simpa using b2) (by simp)
        have hlen : ((xs ++ List.replicate (c - xs.length) u.zero).take hv.toNat).length = hv.toNat := by simp; omega
        have hk := h.kill id
        have hcap : hv.toNat * u.sz ≤ c * u.sz := Nat.mul_le_mul_right _ (by omega)
        have q1 := hk.newOb (id := nb) hN.nb (o := .arr u ((xs ++ List.replicate (c - xs.length) u.zero).take hv.toNat) .wr) (V := .slice (some ⟨b, oo, none⟩) hv.toNat c)
          (show SlRep _ _ _ _ _ _ from ⟨some ⟨b, oo, none⟩, c, by rw [hlen], by rw [hlen]; omega, by rw [hlen]; omega, .inr ⟨b, oo, rfl, C, T, fz, m1, m2, m3,
            ⟨us.take (hv.toNat * u.sz), Reps.take (fun x us hr => RepD.len hr) hv.toNat m4, fun j v hj => by
              rw [List.getElem?_take] at hj
              split at hj
              · exact m5 j v hj
              · cases hj⟩, m6, fun hm => by cases hm⟩⟩)
          (fun b' hb' => by
            cases hb'
            refine ⟨g3 b (by rw [hV]; rfl), fun i p hp hbi => ?_⟩
            rw [St.ob_kill] at hp
            split at hp
            · cases hp
            · rename_i hne
              exact h.apart id i _ p b hob hp hne (by rw [hV]; rfl) hbi)
        refine Leads.value (av := .val (.one (.own u nb))) (v := .slice (some ⟨b, oo, none⟩) hv.toNat c) ?_ q1 ⟨plus_self, (upd_same _ _ _).symm, .inl ⟨_, _, _, rfl⟩⟩ ((OpFrm.kill _ _).trans (OpFrm.set _ _ _)) hr plus_span
        simp only [execOp, ho, Sem.run_bind, sliceAt_eq hu (by simp), Instr.slice, run_underlying hu, Result.andThen_ok, hxv]
        simp [hrun, run_sizeOf' hi', addr_add]
    · cases hr
  · cases hr

theorem leads_appendC (h : Sim F ι ok N σ a w) {nb : Nat} (hN : Fresh N nb) {c : Call} (ho : o.op = .call c) (hc : c.callee = .builtin .append) {s x : AV} (hargs : evs σ c.args.toList = [s, x]) {q : Nat × Nat × (t : Ty) × List t.den} (hq : capAt σ s = some q) {K : AV → St → Option R}
    (hr : aAppendC P nb c.argTypes.toList q x σ K = some r) : Leads P o F (span N nb) a w σ K r := by
  obtain ⟨ys, yx, hl, e1, e2⟩ := evs_two hargs
  have hs := h.ev ys
  have hx := h.ev yx
  rw [e1] at hs
  rw [e2] at hx
  obtain ⟨e0, hse, hob⟩ := capAt_some hq
  obtain ⟨id, cap, u, xs⟩ := q
  dsimp only at hse hob
  rw [hse] at hs
  have hexec : ∀ w, (execOp a.eval o).run P w = (do let v ← Builtin.append_ c.argTypes o.type #[a.eval ys, a.eval yx]; pure (Next.value v)).run P w := fun w => by
    simp [execOp, ho, resolve, hc, invoke, builtin, hl]
  unfold aAppendC at hr
  split at hr
  · rename_i st xt hat
    split at hr
    · rename_i e u' he hint
      obtain ⟨hu, i, hi, hsz, hpos, hby⟩ := elemOf_some he
      obtain ⟨dx, hdx, hd⟩ : ∃ dx, P.underlying xt = some dx ∧ ∀ k, dx ≠ .int k := by
        split at hint
        · cases hint
        · cases hint
        · rename_i h1 h2
          cases hu : P.underlying xt with
          | none => exact absurd hu h2
          | some dx => exact ⟨dx, rfl, fun k e => h1 k (by rw [hu, e])⟩
      split at hr
      · rename_i zs hys
        dsimp only at hr hys
        cases hb : u.beq u' && Nat.ble (List.length xs + List.length zs) cap with
        | false => rw [hb] at hr; cases hr
        | true =>
          rw [hb] at hr
          simp only [cond_true] at hr
          simp only [Bool.and_eq_true] at hb
          have e3 := Ty.eq_of_beq hb.1
          subst e3
          have hroom := Nat.le_of_ble_eq_true hb.2
          obtain ⟨news, n1, n2, n3⟩ := appended_ok (P := P) h hx hys
          have hnl : news.length = zs.length * u.sz := Reps.len (fun x us hr => RepD.len hr) n1
          obtain ⟨g1, ⟨B, oo, hV, l1, l2, C, T, fz, m1, m2, m3, ⟨us, m4, m5⟩, m6, m7⟩, g3⟩ := h.objs id _ hob
          have hv : a.eval ys = .slice (some ⟨B, oo, none⟩) xs.length cap := hs.2.1.trans hV
          have hul : us.length = cap * u.sz := by
            have := Reps.len (fun x us hr => RepD.len hr) m4
            rw [this]; congr 1; simp; omega
          have hk1 : (xs.length + zs.length) * u.sz ≤ cap * u.sz := Nat.mul_le_mul_right _ hroom
          rw [Nat.add_mul] at hk1
          have hF := g3 B (by rw [hV]; rfl)
          have hno : ∀ i p, (σ.kill id).ob i = some p → blk (ι i) ≠ some B := fun i p hp hbi => by
            rw [St.ob_kill] at hp
            split at hp
            · cases hp
            · rename_i hne
              exact h.apart id i _ p B hob hp hne (by rw [hV]; rfl) hbi
          have hst : (storeCells (⟨B, oo + xs.length * u.sz, none⟩ : Addr) news).run P w = .ok () (w.setCells B (oo + xs.length * u.sz) news) :=
            run_store_in (Reps.ones n1) m1 (by omega) (fun j h1 h2 => m2.free j (by omega))
          obtain ⟨c', k1, k2, k3⟩ := setCells_heap B news (oo + xs.length * u.sz) w C T fz m1 (by omega)
          obtain ⟨s1, s2, s3⟩ := setCells_rest B news (oo + xs.length * u.sz) w
          have hget : ∀ j, c'[j]? = if oo + xs.length * u.sz ≤ j ∧ j < oo + xs.length * u.sz + news.length then news[j - (oo + xs.length * u.sz)]? else C[j]? := fun j => by
            rw [← Array.getElem?_toList, k3, splice_get _ _ _ (by simp; omega)]
            simp
          have hlt : B < w.heap.size := by
            rcases Nat.lt_or_ge B w.heap.size with h | h
            · exact h
            · rw [Array.getElem?_eq_none h] at m1; cases m1
          have hokc : ∀ j, ok B j → (w.setCells B (oo + xs.length * u.sz) news).cell? ⟨B, j, none⟩ = w.cell? ⟨B, j, none⟩ := fun j hj => absurd hj (m6 rfl j)
          have hext : Ext w ok (w.setCells B (oo + xs.length * u.sz) news) ok := Ext.same fun b j hk => by
            by_cases e : b = B
            · subst e; exact hokc j hk
            · exact cell_of_heap (setCells_heap_other B _ _ w b e) j
          have h' := (h.kill id).free (w' := w.setCells B (oo + xs.length * u.sz) news) (ok' := ok) hF hno (by rw [setCells_size]; exact hlt) (setCells_size B _ _ w) (fun b hb => setCells_heap_other B _ _ w b hb) s1 s2 s3 hokc (Ok.Le.refl ok) (fun _ _ => Ok.At.refl _ _) (h.pls.heap fun b j hk => setCells_heap_other B _ _ w b fun e => by subst e; exact m6 rfl j (.inr hk))
          have hrun := run_append_in (P := P) (w := w) (w' := w.setCells B (oo + xs.length * u.sz) news) (ty := o.type) (base := some ⟨B, oo, none⟩) (sLen := xs.length) (sCap := cap) hat hu hdx hd hi (n3 w rfl).1 (by rw [hsz]; exact (n3 w rfl).2) hroom
            (fun A hA => by cases hA; rw [addr_add, hsz]; exact hst) (fun hb => by cases hb)
          -- what lies there now
          have t1 : Reps (RepD w ok u) xs (us.take (xs.length * u.sz)) := by
            have := Reps.take (fun x us hr => RepD.len hr) xs.length m4
            simpa using this
          have t2 : Reps (RepD w ok u) (List.replicate (cap - (xs ++ zs).length) u.zero) (us.drop ((xs.length + zs.length) * u.sz)) := by
            have := Reps.drop (fun x us hr => RepD.len hr) (xs.length + zs.length) m4
            rw [List.drop_append, List.drop_eq_nil_of_le (by omega), List.nil_append, show xs.length + zs.length - xs.length = zs.length by omega, List.drop_replicate] at this
            rw [List.length_append, show cap - (xs.length + zs.length) = cap - xs.length - zs.length by omega]
            exact this
          have t3 := Reps.append (Reps.append t1 n1) t2
          have q1 := h'.newOb (id := nb) hN.nb (o := .arr u (xs ++ zs) (.cp cap)) (V := .slice (some ⟨B, oo, none⟩) (xs.length + zs.length) cap)
            ⟨B, oo, by rw [List.length_append], by rw [List.length_append]; exact hroom, l2, c', T, fz, k1, m2, by omega,
              ⟨_, Reps.mono (fun _ _ hr => RepD.ext hext hr) t3, fun j v hj => by
                have hlt1 : (us.take (xs.length * u.sz)).length = xs.length * u.sz := by simp; omega
                rw [hget]
                rw [List.append_assoc, List.getElem?_append, hlt1] at hj
                split at hj
                · rename_i hj1
                  rw [if_neg (by omega)]
                  rw [List.getElem?_take, if_pos hj1] at hj
                  exact m5 j v hj
                · rename_i hj1
                  rw [List.getElem?_append] at hj
                  split at hj
                  · rename_i hj2
                    rw [if_pos (by omega), show oo + j - (oo + xs.length * u.sz) = j - xs.length * u.sz by omega]
                    exact hj
                  · rename_i hj2
                    rw [if_neg (by omega)]
                    rw [List.getElem?_drop] at hj
                    refine m5 j v ?_
                    rw [← hj, Nat.add_mul]
                    congr 1; omega⟩, m6, fun hm => by cases hm⟩
            (fun b hb => by cases hb; exact ⟨hF, hno⟩)
          refine Leads.value (av := .val (.one (.own u nb))) (v := .slice (some ⟨B, oo, none⟩) (xs.length + zs.length) cap) ?_ q1 ⟨plus_self, (upd_same _ _ _).symm, .inl ⟨_, _, _, rfl⟩⟩ ((OpFrm.kill _ _).trans (OpFrm.set _ _ _)) hr plus_span
          rw [hexec, hv]
          simp [hrun]
      · cases hr
    · cases hr
  · cases hr

/-! ### copy -/
theorem leads_copy (h : Sim F ι ok N σ a w) {nb : Nat} {c : Call} (ho : o.op = .call c) (hc : c.callee = .builtin .copy) {d x : AV} (hargs : evs σ c.args.toList = [d, x]) {K : AV → St → Option R}
    (hr : aCopy P c.argTypes.toList d x σ K = some r) : Leads P o F (span N nb) a w σ K r := by
  obtain ⟨yd, yx, hl, e1, e2⟩ := evs_two hargs
  have hd := h.ev yd
  have hx := h.ev yx
  rw [e1] at hd
  rw [e2] at hx
  unfold aCopy at hr
  split at hr
  · rename_i dt xt t id lo n t' ys0 hat
    split at hr
    · rename_i e u t0 xs ys he hob hys
      obtain ⟨hu, i, hi, hsz, hpos, hby⟩ := elemOf_some he
      obtain ⟨f1, f2⟩ := Ty.to_some hys
      cases f1
      simp only [cast_eq] at f2
      subst f2
      cases hb : (t.beq u && t0.beq t && Nat.beq u.sz 1) && (Nat.ble (lo + n) (List.length xs) && (Nat.beq (List.length ys0) n && Nat.ble n 4294967296)) with
      | false => rw [hb] at hr; cases hr
      | true =>
        rw [hb] at hr
        simp only [cond_true] at hr
        simp only [Bool.and_eq_true] at hb
        obtain ⟨⟨⟨b1, b2⟩, b3⟩, b4, b5, b6⟩ := hb
        have b1 := Ty.eq_of_beq b1
        have b2 := Ty.eq_of_beq b2
        subst b1; subst b2
        have b3 := Nat.eq_of_beq_eq_true b3
        have b4 := Nat.le_of_ble_eq_true b4
        have b5 := Nat.eq_of_beq_eq_true b5
        have b6 := Nat.le_of_ble_eq_true b6
        split at hr
        case h_2 => cases hr
        rename_i ys hys2
        obtain ⟨f1, f2⟩ := Ty.to_some hys2
        simp only [cast_eq] at f2
        subst f2
        obtain ⟨_, b, oo, len, cap, c', hV, hdv⟩ := hd
        obtain ⟨g1, hO, g3⟩ := h.objs id _ hob
        obtain ⟨A, cap', hV', l1, l2, h3⟩ := hO
        rw [hV] at hV'; cases hV'
        obtain ⟨A2, cap2, hxv, x1, x2, hx3⟩ := hx
        have hxv : a.eval yx = .slice A2 (List.length ys0) cap2 := by simpa using hxv
        have hexec : ∀ w, (execOp a.eval o).run P w = (do let v ← Builtin.copy_ #[dt, xt] o.type #[a.eval yd, a.eval yx]; pure (Next.value v)).run P w := fun w => by
          have : c.argTypes = #[dt, xt] := by apply Array.ext'; simpa using hat
          simp [execOp, ho, resolve, hc, invoke, builtin, hl, this]
        have hsz1 : (P.info? e).map (·.size) = some 1 := by rw [hi]; simp [hsz, b3]
        by_cases hn : n = 0
        · subst hn
          have hy0 : ys0 = [] := List.eq_nil_of_length_eq_zero b5
          subst hy0
          have hrun := run_copy_none (P := P) w dt xt o.type e (some ⟨b, oo + lo * t0.sz, none⟩) A2 0 c' 0 cap2 hu hsz1 (by simp)
          have hset : List.take lo xs ++ [] ++ List.drop (lo + 0) xs = xs := by simp
          rw [hset] at hr
          have hs : Sim F ι ok N (σ.set id (.arr t0 xs .wr)) a w := h.write (o' := .arr t0 xs .wr) hob (B := b) (by rw [hV]; rfl) rfl (fun _ _ => rfl) rfl rfl rfl (fun _ _ => rfl) (h.objs id _ hob).2.1
          refine Leads.value (av := one (.int .i64) ((0 : Nat) : Int)) (v := .int .i64 0) ?_ hs ⟨rfl, rfl⟩ (OpFrm.set _ _ _) hr le_span
          rw [hexec, hdv, hxv]
          have hrun' : (Builtin.copy_ #[dt, xt] o.type #[.slice (some ⟨b, oo + lo * t0.sz, none⟩) 0 c', .slice A2 ([] : List t0.den).length cap2]).run P w = .ok (goInt 0) w := hrun
          simp only [Sem.run_bind, hrun', Result.andThen_ok]
          rfl
        · rcases h3 with ⟨hA, _⟩ | ⟨b', o', hA, C, T, fz, m1, m2, m3, ⟨us, m4, m5⟩, m6, m7⟩
          · cases hA
          · cases hA
            rcases hx3 with hx3 | ⟨b2, o2, rfl, vs, v1, v2, v3⟩
            · subst hx3; exact absurd b5.symm hn
            · have hul : us.length = List.length xs := by have := Reps.len (fun x us hr => RepD.len hr) m4; rw [b3] at this; omega
              have hvl : vs.length = List.length ys0 := by have := Reps.len (fun x us hr => RepD.len hr) v1; rw [b3] at this; omega
              have hcapm : cap * t0.sz = cap := by rw [b3]; omega
              have hlo : lo * t0.sz = lo := by rw [b3]; omega
              rw [hlo] at hdv
              rw [hcapm] at m2 m3
              have hrun := run_copy_cells (P := P) w dt xt o.type e b (oo + lo) n c' ⟨b2, o2, none⟩ (List.length ys0) cap2 vs hu hsz1 (by rw [hvl, b5]; exact (Nat.min_self n).symm)
                (fun j v hj => by rw [addr_add]; exact v2 j v hj)
                (fun j hj => by
                  have : oo + lo + j < C.size := by omega
                  rw [cell_in m1]; simp [this])
                (fun j hj => by
                  have hn := m2.free (oo + lo + j) (by omega)
                  simp only [World.frozen?, m1]
                  exact Bool.eq_false_iff.2 (fun hh => hn (by simpa using hh)))
                (Reps.ones v1)
              obtain ⟨c2, k1, k2, k3⟩ := setCells_heap b vs (oo + lo) w C T fz m1 (by omega)
              obtain ⟨s1, s2, s3⟩ := setCells_rest b vs (oo + lo) w
              have hext : Ext w ok (w.setCells b (oo + lo) vs) ok := Ext.same fun b' j hk => cell_of_heap (setCells_heap_other b _ _ w b' (fun e => by subst e; exact m6 rfl j hk)) j
              have hget : ∀ j, c2[j]? = if oo + lo ≤ j ∧ j < oo + lo + vs.length then vs[j - (oo + lo)]? else C[j]? := fun j => by
                rw [← Array.getElem?_toList, k3, splice_get _ _ _ (by simp; omega)]
                simp
              have t1 := Reps.take (R := fun x us => RepD w ok t0 x us) (fun x us hr => RepD.len hr) lo m4
              have t2 := Reps.drop (R := fun x us => RepD w ok t0 x us) (fun x us hr => RepD.len hr) (lo + n) m4
              rw [b3, Nat.mul_one] at t1 t2
              have t3 := Reps.append (Reps.append t1 v1) t2
              have hlen : (List.take lo xs ++ ys0 ++ List.drop (lo + n) xs).length = List.length xs := by simp; omega
              have hs := h.write (o' := .arr t0 (List.take lo xs ++ ys0 ++ List.drop (lo + n) xs) .wr) hob (B := b) (by rw [hV]; rfl) (setCells_size b _ _ w) (fun b' hb => setCells_heap_other b _ _ w b' hb) s1 s2 s3 (fun j hj => absurd hj (m6 rfl j))
                ⟨_, cap, by rw [hV, hlen], by rw [hlen]; exact l1, by rw [hlen]; exact l2, .inr ⟨b, oo, rfl, c2, T, fz, k1, by rw [hcapm]; exact m2, by rw [hcapm]; omega,
                  ⟨_, Reps.mono (fun _ _ hc => RepD.ext hext hc) t3, fun j z hj => by
                    have hlt1 : (us.take lo).length = lo := by simp; omega
                    rw [hget]
                    rw [List.append_assoc, List.getElem?_append, hlt1] at hj
                    split at hj
                    · rename_i hj1
                      rw [if_neg (by omega)]
                      rw [List.getElem?_take, if_pos hj1] at hj
                      exact m5 j z hj
                    · rename_i hj1
                      rw [List.getElem?_append] at hj
                      split at hj
                      · rename_i hj2
                        rw [if_pos (by omega), show oo + j - (oo + lo) = j - lo by omega]
                        exact hj
                      · rename_i hj2
                        rw [if_neg (by omega)]
                        rw [List.getElem?_drop] at hj
                        refine m5 j z ?_
                        rw [← hj]
                        congr 1; omega⟩, m6, (fun hm => by cases hm)⟩⟩
              have hret : IntKind.i64.wrap (n : Int) = n := by rw [IntKind.wrap_i64]; omega
              refine Leads.value (av := one (.int .i64) (n : Int)) (v := .int .i64 n) ?_ hs ⟨rfl, hret⟩ (OpFrm.set _ _ _) hr le_span
              rw [hexec, hdv, hxv]
              rw [b5] at hrun
              simp only [Sem.run_bind]
              rw [b5, hrun]
              simp [goInt, hvl, b5]
    · cases hr
  · cases hr

/-! ### worlds that grew -/
/-- What was there is there; more may be. -/
structure Grows (w w' : World) : Prop where
  size : w.heap.size ≤ w'.heap.size
  old : ∀ b, b < w.heap.size → w'.heap[b]? = w.heap[b]?
  os : w'.os = w.os
  tape : w'.tape = w.tape
  output : w'.output = w.output

theorem Sim.grow (h : Sim F ι ok N σ a w) {w' : World} (g : Grows w w') : Sim F ι ok N σ a w' := by
  have hx : Ext w ok w' ok := Ext.same fun b j hk => cell_of_heap (g.old b (h.oks b j hk)) j
  refine ⟨fun t => RepAV.mono hx (fun _ _ => rfl) (fun _ h => h) (h.tms t), fun i p hp => ?_, h.apart, fun b j hk => Nat.lt_of_lt_of_le (h.oks b j hk) g.size, ?_, h.size, h.defs, h.pins, h.pls.heap fun b j hk => g.old b (h.oks b j (.inr hk))⟩
  · obtain ⟨k1, k2, k3⟩ := h.objs i p hp
    exact ⟨k1, ObjRep.mono hx (fun _ _ => rfl) (fun _ h => h) (fun b hb => ⟨g.old b (k2.lt hb), Ok.At.refl _ _⟩) k2, k3⟩
  · obtain ⟨k1, k2, k3, k4, k5, k6, k7⟩ := h.keep
    refine ⟨Nat.le_trans k1 g.size, fun b hb hs => by rw [g.old b (by omega)]; exact k2 b hb hs, g.os.trans k3, g.tape.trans k4, g.output.trans k5, fun b j hk => ⟨(k6 b j hk).1, ?_⟩, k7⟩
    rw [(hx.1 b j (k6 b j hk).1).2]; exact (k6 b j hk).2
end
end Go.Abs

/- Abs, part Mp: maps of our own. -/
namespace Go.Abs
section
variable {P : Program} {R : Type} {F : Fr} {ι : Nat → Value} {ok : Ok} {N : Nat → Prop} {σ : St} {a : Act} {w : World} {o : Oper} {r : R}

theorem one_eq {t : TypeId} {u : Ty} (h : oneTy P t = some u) (x y : u.den) (n : Nat) : eqT P (n + 1) t (explode u x) (explode u y) = some (keyEq u x y) ∧ aggOf P t = some false ∧ u.sz = 1 ∧ hasSl u = false := by
  unfold oneTy at h
  split at h
  · rename_i k hu; cases h
    exact ⟨by simp [eqT, hu, explode, scalarEq, keyEq], by simp [aggOf, hu], rfl, rfl⟩
  · rename_i hu; cases h
    exact ⟨by simp [eqT, hu, explode, scalarEq, keyEq], by simp [aggOf, hu], rfl, rfl⟩
  · rename_i hu; cases h
    exact ⟨by simp [eqT, hu, explode, scalarEq, keyEq], by simp [aggOf, hu], rfl, rfl⟩
  · cases h

theorem fs_eq (n : Nat) : ∀ {fs : List Field} {off : Nat} {k : Ty}, fsKey P off fs = some k → ∀ (x y : k.den) (pre pre' : List Cell), pre.length = off → pre'.length = off →
    eqFs P (eqT P (n + 1)) (pre ++ explode k x) (pre' ++ explode k y) fs = some (keyEq k x y)
  | [], off, k, h, x, y, pre, pre', _, _ => by simp only [fsKey] at h; cases h; rfl
  | f :: r, off, k, h, x, y, pre, pre', h1, h2 => by
    simp only [fsKey] at h
    split at h
    · rename_i u b hu hb
      cases hc : Nat.beq f.offset off && !(decide (f.name = "_")) && (P.info? f.type).isSome with
      | false => simp [hc] at h
      | true =>
        simp only [hc, cond_true] at h
        simp only [Bool.and_eq_true, Bool.not_eq_true', decide_eq_false_iff_not] at hc
        obtain ⟨⟨c1, c2⟩, c3⟩ := hc
        have c1 := Nat.eq_of_beq_eq_true c1
        obtain ⟨i, hi⟩ := Option.isSome_iff_exists.1 c3
        obtain ⟨_, ha, hs, _⟩ := one_eq hu u.zero u.zero n
        have lone : ∀ z : u.den, ∃ c, explode u z = [c] := fun z => by
          have := explode_len u z
          rw [hs] at this
          match explode u z, this with
          | [c], _ => exact ⟨c, rfl⟩
        have nthA : ∀ (p : List Cell) (c : Cell) (q : List Cell), p.length = off → nth (p ++ c :: q) f.offset = some c := fun p c q hp => by
          rw [c1, ← hp]
          clear hp
          induction p with
          | nil => rfl
          | cons d p ih => exact ih
        cases r with
        | nil =>
          simp only [fsKey] at hb
          cases hb
          cases h
          obtain ⟨c, e1⟩ := lone x
          obtain ⟨d, e2⟩ := lone y
          have he := (one_eq hu x y n).1
          rw [e1, e2] at he
          simp only [eqFs, c2, decide_false, cond_false, ha, hi, e1, e2, nthA pre c [] h1, nthA pre' d [] h2, he, Bool.and_true]
        | cons g r =>
          cases h
          obtain ⟨c, e1⟩ := lone x.1
          obtain ⟨d, e2⟩ := lone y.1
          have he := (one_eq hu x.1 y.1 n).1
          rw [e1, e2] at he
          have ih := fs_eq n hb x.2 y.2 (pre ++ [c]) (pre' ++ [d]) (by simp [h1]) (by simp [h2])
          have x1 : pre ++ explode (.pr u b) x = pre ++ c :: explode b x.2 := by rw [show explode (.pr u b) x = explode u x.1 ++ explode b x.2 from rfl, e1]; rfl
          have y1 : pre' ++ explode (.pr u b) y = pre' ++ d :: explode b y.2 := by rw [show explode (.pr u b) y = explode u y.1 ++ explode b y.2 from rfl, e2]; rfl
          rw [x1, y1]
          rw [List.append_assoc, List.append_assoc] at ih
          simp only [List.cons_append, List.nil_append] at ih
          unfold eqFs
          simp only [c2, decide_false, cond_false, ha, hi, nthA pre c _ h1, nthA pre' d _ h2, he, ih]
          rfl
    · cases h

theorem key_eq {kt : TypeId} {ag : Bool} {k : Ty} (h : keyTy P kt = some (ag, k)) (x y : k.den) : eqT P tyD kt (explode k x) (explode k y) = some (keyEq k x y) ∧ aggOf P kt = some ag := by
  unfold keyTy at h
  split at h
  · rename_i fs hu
    cases hs : P.stoodInHeld kt with
    | true => simp [hs] at h
    | false =>
      simp only [hs, cond_false] at h
      split at h
      · rename_i k' hk
        cases h
        refine ⟨?_, by simp [aggOf, hu]⟩
        have := fs_eq 10 hk x y [] [] rfl rfl
        simp only [tyD, eqT, hu, hs, cond_false]
        exact this
      · cases h
  · split at h
    · rename_i k' hk
      cases h
      exact ⟨(one_eq hk x y 11).1, (one_eq hk x y 11).2.1⟩
    · cases h

theorem equal_run {kt : TypeId} {ag : Bool} {k : Ty} (h : keyTy P kt = some (ag, k)) {x y : k.den} {u v : Value} (hx : RepE w ok ag k x u) (hy : RepE w ok ag k y v) : (Op.equal kt u v).run P w = .ok (keyEq k x y) w := by
  obtain ⟨h1, h2⟩ := key_eq h x y
  cases ag with
  | false =>
    have := (eqT_ok (ι := noι0) (N := fun _ => False) tyD h1 (explode_rep hx) (explode_rep hy)).2 h2 9988 u v rfl rfl
    exact this
  | true =>
    obtain ⟨vs, rfl, hx⟩ := hx
    obtain ⟨us, rfl, hy⟩ := hy
    exact (eqT_ok (ι := noι0) (N := fun _ => False) tyD h1 (explode_rep hx) (explode_rep hy)).1 h2 9988
where noι0 : Nat → Value := fun _ => undef

theorem checkKey_one {t : TypeId} {u : Ty} (h : oneTy P t = some u) {x : u.den} {v : Value} (hx : RepD w ok u x [v]) (em : Bool) (n : Nat) : (Instr.checkKey em (n + 1) t v).run P w = .ok () w := by
  unfold oneTy at h
  split at h
  · rename_i k hu; cases h
    have : v = .int k x := by have := hx.1; simpa using this
    exact MapKept.run_checkKey hu (by rw [this]; rfl) em n
  · rename_i hu; cases h
    have : v = .bool x := by have : [v] = [.bool x] := hx; simpa using this
    exact MapKept.run_checkKey hu (by rw [this]; trivial) em n
  · rename_i hu; cases h
    obtain ⟨s, e, _⟩ := hx
    have : v = .string s := by simpa using e
    exact MapKept.run_checkKey hu (by rw [this]; trivial) em n
  · cases h

theorem checkKey_fs (em : Bool) (n : Nat) (all : List Value) : ∀ {fs : List Field} {off : Nat} {k : Ty}, fsKey P off fs = some k → ∀ (x : k.den) (pre vs : List Value), pre.length = off → RepD w ok k x vs → all = pre ++ vs →
    (forIn fs PUnit.unit fun (f : Field) _ => (do if f.name ≠ "_" then Instr.checkKey em (n + 1) f.type (← part f.type all.toArray f.offset)
                                                  pure (ForInStep.yield PUnit.unit) : Sem (ForInStep PUnit))).run P w = .ok PUnit.unit w
  | [], off, k, h, x, pre, vs, _, _, _ => by simp
  | f :: r, off, k, h, x, pre, vs, h1, hr, e => by
    simp only [fsKey] at h
    split at h
    · rename_i u b hu hb
      cases hc : Nat.beq f.offset off && !(decide (f.name = "_")) && (P.info? f.type).isSome with
      | false => simp [hc] at h
      | true =>
        simp only [hc, cond_true] at h
        simp only [Bool.and_eq_true, Bool.not_eq_true', decide_eq_false_iff_not] at hc
        obtain ⟨⟨c1, c2⟩, c3⟩ := hc
        have c1 := Nat.eq_of_beq_eq_true c1
        obtain ⟨i, hi⟩ := Option.isSome_iff_exists.1 c3
        obtain ⟨_, ha, hs, _⟩ := one_eq hu u.zero u.zero n
        have lone : ∀ (z : u.den) (ws : List Value), RepD w ok u z ws → ∃ c, ws = [c] := fun z ws hz => by
          have := RepD.len hz
          rw [hs] at this
          match ws, this with
          | [c], _ => exact ⟨c, rfl⟩
        have prun : ∀ (c : Value) (q : List Value), all = pre ++ c :: q → (part f.type all.toArray f.offset).run P w = .ok c w := fun c q e => by
          simp [part, run_isAgg ha, c1, ← h1, e]
        cases r with
        | nil =>
          cases h
          obtain ⟨c, rfl⟩ := lone x vs hr
          have p1 := prun c [] e
          have p2 := checkKey_one hu hr em n
          simp only [List.forIn_cons, Sem.run_bind, c2, ne_eq, not_false_eq_true, if_true, Result.andThen_ok, p1, p2, Sem.run_pure, List.forIn_nil]
        | cons g r =>
          cases h
          obtain ⟨v1, v2, rfl, r1, r2⟩ := hr
          obtain ⟨c, rfl⟩ := lone x.1 v1 r1
          have p1 := prun c v2 (by simpa using e)
          have p2 := checkKey_one hu r1 em n
          have ih := checkKey_fs em n all hb x.2 (pre ++ [c]) v2 (by simp [h1]) r2 (by simpa using e)
          rw [List.forIn_cons]
          simp only [Sem.run_bind, c2, ne_eq, not_false_eq_true, if_true, Result.andThen_ok, p1, p2, Sem.run_pure]
          simpa only [Sem.run_bind, ne_eq] using ih
    · cases h

theorem checkKey_run {kt : TypeId} {ag : Bool} {k : Ty} (h : keyTy P kt = some (ag, k)) {x : k.den} {v : Value} (hx : RepE w ok ag k x v) (em : Bool) (n : Nat) : (Instr.checkKey em (n + 2) kt v).run P w = .ok () w := by
  unfold keyTy at h
  split at h
  · rename_i fs hu
    cases hs : P.stoodInHeld kt with
    | true => simp [hs] at h
    | false =>
      simp only [hs, cond_false] at h
      split at h
      · rename_i k' hk
        cases h
        obtain ⟨vs, rfl, hx⟩ := hx
        unfold Instr.checkKey
        simp only [Sem.run_bind, run_underlying hu, Result.andThen_ok]
        rw [← Array.forIn_toList]
        have := checkKey_fs em n vs hk x [] vs rfl hx rfl
        simp at this ⊢
        simp [this]
      · cases h
  · split at h
    · rename_i k' hk
      cases h
      exact checkKey_one hk hx em (n + 1)
    · cases h

/-! ### Looking for a key -/
section
variable {ka va : Bool} {k v : Ty} {kt : TypeId}

/-- What is found: nothing, or the place of an entry. -/
def Found (k v : Ty) (es : List MapEntry) (xs : List (k.den × v.den)) (x : k.den) (i : Nat) (res : Option (Nat × Value)) : Prop :=
  (res = none ∧ mget (keyEq k) xs x = none ∧ (∀ y, mset (keyEq k) xs x y = xs ++ [(x, y)]) ∧ mdel (keyEq k) xs x = xs) ∨
  ∃ j e d, res = some (i + j, e.val) ∧ es[j]? = some e ∧ xs[j]? = some d ∧ keyEq k x d.1 = true ∧ mget (keyEq k) xs x = some d.2 ∧ (∀ y, mset (keyEq k) xs x y = xs.set j (x, y)) ∧ mdel (keyEq k) xs x = xs.eraseIdx j

theorem Found.here {e : MapEntry} {es : List MapEntry} {d : k.den × v.den} {xs : List (k.den × v.den)} {x : k.den} {i : Nat} (h : keyEq k x d.1 = true) : Found k v (e :: es) (d :: xs) x i (some (i, e.val)) :=
  .inr ⟨0, e, d, rfl, rfl, rfl, h, by simp [mget, h], fun y => by simp [mset, h], by simp [mdel, h]⟩
theorem Found.next {e : MapEntry} {es : List MapEntry} {d : k.den × v.den} {xs : List (k.den × v.den)} {x : k.den} {i : Nat} {res : Option (Nat × Value)} (h : keyEq k x d.1 = false) (hf : Found k v es xs x (i + 1) res) : Found k v (e :: es) (d :: xs) x i res := by
  rcases hf with ⟨h1, h2, h3, h4⟩ | ⟨j, e', d', h1, h2, h3, h4, h5, h6, h7⟩
  · exact .inl ⟨h1, by simp [mget, h, h2], fun y => by simp [mset, h, h3], by simp [mdel, h, h4]⟩
  · exact .inr ⟨j + 1, e', d', by rw [h1]; congr 2; omega, by simpa using h2, by simpa using h3, h4, by simp [mget, h, h5], fun y => by simp [mset, h, h6], by simp [mdel, h, h7]⟩

theorem asking_run (hk : keyTy P kt = some (ka, k)) {x : k.den} {u : Value} (hx : RepE w ok ka k x u) : ∀ {xs : List (k.den × v.den)} {es : List MapEntry} (i : Nat), All2 (EntRep w ok ka va (.pr k v)) xs es →
    ∃ res, (Instr.findAsking kt u es i).run P w = .ok res w ∧ Found k v es xs x i res
  | [], [], i, _ => ⟨none, by simp [Instr.findAsking], .inl ⟨rfl, rfl, fun y => rfl, rfl⟩⟩
  | [], _ :: _, _, h => h.elim
  | _ :: _, [], _, h => h.elim
  | d :: xs, e :: es, i, h => by
    obtain ⟨_, _, h1, _⟩ := h.1
    have he := equal_run hk hx h1
    cases hb : keyEq k x d.1 with
    | true => exact ⟨some (i, e.val), by simp [Instr.findAsking, he, hb], Found.here hb⟩
    | false =>
      obtain ⟨res, g1, g2⟩ := asking_run hk hx (i + 1) h.2
      exact ⟨res, by simp [Instr.findAsking, he, hb, g1], Found.next hb g2⟩

theorem one_same {u : Ty} {t : TypeId} (h : oneTy P t = some u) {x y : u.den} {a b : Value} (hx : RepD w ok u x [a]) (hy : RepD w ok u y [b]) {kd : TypeDesc} (hd : P.underlying t = some kd) : Instr.sameNow kd a b = some (keyEq u x y) := by
  unfold oneTy at h
  rw [hd] at h
  cases kd <;> simp at h
  · subst h
    have h1 : a = .bool x := by have : [a] = [.bool x] := hx; simpa using this
    have h2 : b = .bool y := by have : [b] = [.bool y] := hy; simpa using this
    subst h1; subst h2; rfl
  · rename_i q
    subst h
    have h1 : a = .int q x := by have := hx.1; simpa using this
    have h2 : b = .int q y := by have := hy.1; simpa using this
    subst h1; subst h2
    simp [Instr.sameNow, keyEq]
  · subst h
    obtain ⟨s, e1, e2, _⟩ := hx
    obtain ⟨s', e3, e4, _⟩ := hy
    have h1 : a = .string s := by simpa using e1
    have h2 : b = .string s' := by simpa using e3
    subst h1; subst h2
    subst e2; subst e4
    simp only [Instr.sameNow, keyEq]
    congr 1
    rw [Bool.eq_iff_iff, MapKept.bytes_beq, beq_iff_eq]
    constructor
    · rintro rfl; rfl
    · intro hh
      have hh : s.data.toList.map (fun b => (b.toNat : Int)) = s'.data.toList.map (fun b => (b.toNat : Int)) := hh
      have := (List.map_inj_right (f := fun b : UInt8 => (b.toNat : Int)) (fun x y hxy => UInt8.toNat_inj.1 (by have hxy : (x.toNat : Int) = y.toNat := hxy; omega))).1 hh
      cases s; cases s'
      simp at this
      simp [this]

theorem now_run (hk : oneTy P kt = some k) {kd : TypeDesc} (hd : P.underlying kt = some kd) {x : k.den} {u : Value} (hx : RepD w ok k x [u]) : ∀ {xs : List (k.den × v.den)} {es : List MapEntry} (i : Nat), All2 (EntRep w ok false va (.pr k v)) xs es →
    ∃ res, Instr.findNow kd u es i = some res ∧ Found k v es xs x i res
  | [], [], i, _ => ⟨none, by simp [Instr.findNow], .inl ⟨rfl, rfl, fun y => rfl, rfl⟩⟩
  | [], _ :: _, _, h => h.elim
  | _ :: _, [], _, h => h.elim
  | d :: xs, e :: es, i, h => by
    obtain ⟨_, _, h1, _⟩ := h.1
    have he := one_same hk hx h1 hd
    cases hb : keyEq k x d.1 with
    | true => exact ⟨some (i, e.val), by simp [Instr.findNow, he, hb], Found.here hb⟩
    | false =>
      obtain ⟨res, g1, g2⟩ := now_run hk hd hx (i + 1) h.2
      exact ⟨res, by simp [Instr.findNow, he, hb, g1], Found.next hb g2⟩

theorem findKey_run (hk : keyTy P kt = some (ka, k)) {x : k.den} {u : Value} (hx : RepE w ok ka k x u) {xs : List (k.den × v.den)} {es : List MapEntry} (h : All2 (EntRep w ok ka va (.pr k v)) xs es) :
    ∃ res, (Instr.findKey kt u es).run P w = .ok res w ∧ Found k v es xs x 0 res := by
  have hk0 := hk
  unfold keyTy at hk
  split at hk
  · rename_i fs hu
    cases hs : P.stoodInHeld kt with
    | true => simp [hs] at hk
    | false =>
      simp only [hs, cond_false] at hk
      split at hk
      · cases hk
        obtain ⟨res, g1, g2⟩ := asking_run hk0 hx 0 h
        refine ⟨res, ?_, g2⟩
        cases es with
        | nil =>
          cases xs with
          | cons _ _ => exact h.elim
          | nil =>
            simp [Instr.findAsking] at g1
            simp [Instr.findKey, run_underlying hu, Instr.findNow, g1]
        | cons e es =>
          have : Instr.findNow (.struct fs) u (e :: es) 0 = none := by simp [Instr.findNow, Instr.sameNow]
          simp [Instr.findKey, run_underlying hu, this, g1]
      · cases hk
  · split at hk
    · rename_i k' hk1
      cases hk
      have : ∃ kd, P.underlying kt = some kd := by
        unfold oneTy at hk1
        split at hk1 <;> first | exact ⟨_, by assumption⟩ | cases hk1
      obtain ⟨kd, hd⟩ := this
      obtain ⟨res, g1, g2⟩ := now_run hk1 hd hx 0 h
      exact ⟨res, by simp [Instr.findKey, run_underlying hd, g1], g2⟩
    · cases hk
end

/-! ### What is taken of a state -/
theorem mapOf_some {t : TypeId} {ka va : Bool} {k v : Ty} (h : mapOf P t = some ((ka, k), (va, v))) : ∃ kt et, P.underlying t = some (.map kt et) ∧ keyTy P kt = some (ka, k) ∧ valTy P et = some (va, v) := by
  unfold mapOf at h
  split at h
  · rename_i kt et hu
    split at h
    · rename_i x y hx hy; cases h; exact ⟨kt, et, hu, hx, hy⟩
    · cases h
  · cases h

theorem hasSl0_eq : ∀ t : Ty, valTy.hasSl0 t = hasSl t := by
  intro t
  induction t with
  | pr a b iha ihb => simp [valTy.hasSl0, hasSl, iha, ihb]
  | _ => rfl

theorem valTy_some {et : TypeId} {va : Bool} {v : Ty} (h : valTy P et = some (va, v)) (w : World) (ok : Ok) : hasSl v = false ∧ (va = false → v.sz = 1) ∧ ∃ z, (zeroValue et).run P w = .ok z w ∧ RepE w ok va v v.zero z := by
  unfold valTy at h
  split at h
  · rename_i v' i hv hi
    split at h
    · rename_i cs hz
      cases hc : zeroOk P et v' && !valTy.hasSl0 v' with
      | false => simp [hc] at h
      | true =>
        simp only [hc, cond_true] at h
        cases h
        simp only [Bool.and_eq_true, Bool.not_eq_true'] at hc
        obtain ⟨i', z, h1, h2, h3⟩ := zeroOk_some hc.1 w ok
        rw [hi] at h1; cases h1
        rw [hz] at h2; cases h2
        refine ⟨by rw [← hasSl0_eq]; exact hc.2, (fun h => by cases h), .agg cs, ?_, ⟨cs.toList, by simp, h3⟩⟩
        simp [zeroValue, run_typeInfo w hi, hz]
    · rename_i zz hne hz
      cases hc : zeroOk P et v' && !valTy.hasSl0 v' && Nat.beq v'.sz 1 with
      | false => simp [hc] at h
      | true =>
        simp only [hc, cond_true] at h
        cases h
        simp only [Bool.and_eq_true, Bool.not_eq_true'] at hc
        obtain ⟨i', z, h1, h2, h3⟩ := zeroOk_some hc.1.1 w ok
        rw [hi] at h1; cases h1
        rw [hz] at h2; cases h2
        refine ⟨by rw [← hasSl0_eq]; exact hc.1.2, (fun _ => Nat.eq_of_beq_eq_true hc.2), zz, ?_, ?_⟩
        · simp [zeroValue, run_typeInfo w hi, hz]
        · have : zz.cells.toList = [zz] := by cases zz <;> first | rfl | exact absurd rfl (hne _)
          rw [this] at h3
          exact h3
    · cases h
  · cases h

theorem keyTy_flat {kt : TypeId} {ka : Bool} {k : Ty} (h : keyTy P kt = some (ka, k)) : hasSl k = false ∧ (ka = false → k.sz = 1) := by
  have fs : ∀ {fs : List Field} {off : Nat} {k : Ty}, fsKey P off fs = some k → hasSl k = false := by
    intro fs
    induction fs with
    | nil => intro off k h; simp only [fsKey] at h; cases h; rfl
    | cons f r ih =>
      intro off k h
      simp only [fsKey] at h
      split at h
      · rename_i u b hu hb
        cases hc : Nat.beq f.offset off && !(decide (f.name = "_")) && (P.info? f.type).isSome with
        | false => simp [hc] at h
        | true =>
          simp only [hc, cond_true] at h
          have h1 := (one_eq hu u.zero u.zero 0).2.2.2
          cases r with
          | nil => cases h; exact h1
          | cons g r => cases h; simp [hasSl, h1, ih hb]
      · cases h
  unfold keyTy at h
  split at h
  · rename_i fs' hu
    cases hs : P.stoodInHeld kt with
    | true => simp [hs] at h
    | false =>
      simp only [hs, cond_false] at h
      split at h
      · rename_i k' hk; cases h; exact ⟨fs hk, fun h => by cases h⟩
      · cases h
  · split at h
    · rename_i k' hk
      cases h
      exact ⟨(one_eq hk k.zero k.zero 0).2.2.2, fun _ => (one_eq hk k.zero k.zero 0).2.2.1⟩
    · cases h

theorem mapAt_ok (_ : Sim F ι ok N σ a w) {ka va : Bool} {k v : Ty} {m : AV} {id : Nat} {xs : List (k.den × v.den)} (hm : mapAt σ ka k va v m = some (id, xs)) {V : Value} (hv : RepAV w ok ι N m V) :
    V = ι id ∧ σ.ob id = some (.arr (.pr k v) xs (.mp ka va)) ∧ N id ∧ m = m := by
  unfold mapAt at hm
  split at hm
  · rename_i t id'
    split at hm
    · rename_i u ys ka' va' ho
      cases hb : (ka == ka') && (va == va') && u.beq (.pr k v) with
      | false => simp [hb] at hm
      | true =>
        simp only [hb, cond_true] at hm
        split at hm
        · rename_i zs hz
          cases hm
          simp only [Bool.and_eq_true, beq_iff_eq] at hb
          obtain ⟨⟨rfl, rfl⟩, _⟩ := hb
          obtain ⟨e, hx⟩ := Ty.to_some hz
          cases e
          simp only [cast_eq] at hx
          subst hx
          exact ⟨hv.2.1, ho, hv.1, rfl⟩
        · cases hm
    · cases hm
  · cases hm

theorem elAt_ok (h : Sim F ι ok N σ a w) {ag : Bool} {t : Ty} {x : AV} {d : t.den} (he : elAt σ ag t x = some d) {V : Value} (hv : RepAV w ok ι N x V) : RepE w ok ag t d V := by
  unfold elAt at he
  split at he
  · rename_i x
    cases hb : (ag == x.isAgg) && storB x.cells with
    | false => simp [hb] at he
    | true =>
      simp only [hb, cond_true] at he
      simp only [Bool.and_eq_true, beq_iff_eq] at hb
      obtain ⟨rfl, hs⟩ := hb
      split at he
      · rename_i d' hd
        cases he
        cases x with
        | one c =>
          obtain ⟨v1, v2, e, r1, r2⟩ := implode_rep h hd (show All2 (RepC w ok ι N) [c] [V] from ⟨hv, trivial⟩)
          have : v2 = [] := by cases v2 with | nil => rfl | cons _ _ => exact r2.elim
          subst this
          rw [List.append_nil] at e
          subst e
          exact r1
        | agg cs =>
          obtain ⟨vs, rfl, hvs⟩ := hv
          obtain ⟨v1, v2, e, r1, r2⟩ := implode_rep h hd (show All2 (RepC w ok ι N) cs vs from hvs)
          have : v2 = [] := by cases v2 with | nil => rfl | cons _ _ => exact r2.elim
          subst this
          rw [List.append_nil] at e
          subst e
          exact ⟨_, rfl, r1⟩
      · cases he
  · cases he

theorem mkE_ok {ag : Bool} {t : Ty} (hs : ag = false → t.sz = 1) {x : t.den} {V : Value} (h : RepE w ok ag t x V) : RepV1 w ok ι N (mkE ag t x) V := by
  cases ag with
  | false =>
    have hl := explode_len t x
    rw [hs rfl] at hl
    have hr := explode_rep (ι := ι) (N := N) (show RepD w ok t x [V] from h)
    unfold mkE
    match hc : explode t x, hl with
    | [c], _ => rw [hc] at hr; exact hr.1
  | true =>
    obtain ⟨vs, e, h⟩ := h
    have : mkE true t x = .agg (explode t x) := by unfold mkE; split <;> first | rfl | simp_all
    rw [this]
    exact ⟨vs, e, explode_rep h⟩

theorem leads_makeMap (h : Sim F ι ok N σ a w) {nb : Nat} (hN : Fresh N nb) {t : TypeId} (ho : o.op = .makeMap t none) {K : AV → St → Option R} (hr : aMakeMap P nb t σ K = some r) : Leads P o F (span N nb) a w σ K r := by
  unfold aMakeMap at hr
  split at hr
  · rename_i ka k va v hm
    have hs := h.alloc (id := nb) hN.nb (.map #[] 0) (V := .map (some w.heap.size)) (o := .arr (.pr k v) [] (.mp ka va)) rfl
      ⟨w.heap.size, #[], 0, rfl, heap_alloc_at _ _, trivial, fun j hj => by have := h.oks _ _ hj; omega, by simp⟩
    refine Leads.value (av := .val (.one (.own (.pr k v) nb))) (v := .map (some w.heap.size)) ?_ hs ⟨plus_self, (upd_same _ _ _).symm, .inr ⟨_, rfl⟩⟩ (OpFrm.set _ _ _) hr plus_span
    simp [execOp, ho, RowKit.run_makeMap]
  · cases hr

theorem leads_lookup (h : Sim F ι ok N σ a w) {nb : Nat} {t : TypeId} {x y : Operand} {okB : Bool} (ho : o.op = .lookup t x y okB) {K : AV → St → Option R}
    (hr : aLookup P t (σ.ev x) (σ.ev y) okB σ (fun v => K v σ) = some r) : Leads P o F (span N nb) a w σ K r := by
  unfold aLookup at hr
  split at hr
  · rename_i ka k va v hm
    obtain ⟨kt, et, hu, hk, hv⟩ := mapOf_some hm
    split at hr
    · rename_i id xs d hmap hkey
      obtain ⟨e1, ho1, _, _⟩ := mapAt_ok h hmap (h.ev x)
      have e2 := elAt_ok h hkey (h.ev y)
      obtain ⟨b, es, clock, hV, hb, hes, _, _⟩ := (h.objs id _ ho1).2.1
      obtain ⟨res, g1, g2⟩ := findKey_run (P := P) hk e2 hes
      obtain ⟨z1, z2, z, hz, hzr⟩ := valTy_some (P := P) hv w ok
      have hck : (Instr.checkKey es.isEmpty 10000 kt (a.eval y)).run P w = .ok () w := checkKey_run hk e2 _ 9998
      obtain ⟨el, hel, hrun⟩ : ∃ el, RepE w ok va v ((mget (keyEq k) xs d).getD v.zero) el ∧ (Instr.lookup t (a.eval x) (a.eval y) okB).run P w = .ok (if okB then .tuple #[el, .bool (mget (keyEq k) xs d).isSome] else el) w := by
        rw [e1, hV]
        rcases g2 with ⟨h1, h2, _⟩ | ⟨j, e, dd, h1, h2, h3, h4, h5, _⟩
        · refine ⟨z, by rw [h2]; exact hzr, ?_⟩
          subst h1
          cases okB <;> simp [Instr.lookup, run_underlying hu, MapKept.run_getObj_map hb, hck, g1, hz, h2]
        · have he : EntRep w ok ka va (.pr k v) dd e := by
            have : ∀ {l : List (k.den × v.den)} {m : List MapEntry} {j : Nat} {dd : k.den × v.den} {e : MapEntry}, All2 (EntRep w ok ka va (.pr k v)) l m → l[j]? = some dd → m[j]? = some e → EntRep w ok ka va (.pr k v) dd e := by
              intro l
              induction l with
              | nil => intro m j dd e h h1 _; simp at h1
              | cons x l ih =>
                intro m j dd e h h1 h2
                cases m with
                | nil => exact h.elim
                | cons y m =>
                  cases j with
                  | zero => cases h1; cases h2; exact h.1
                  | succ j => exact ih h.2 (by simpa using h1) (by simpa using h2)
            exact this hes h3 h2
          refine ⟨e.val, by rw [h5]; exact he.2.2.2, ?_⟩
          subst h1
          cases okB <;> simp [Instr.lookup, run_underlying hu, MapKept.run_getObj_map hb, hck, g1, h5]
      cases okB with
      | false =>
        simp only [cond_false] at hr
        exact Leads.value (av := .val (mkE va v ((mget (keyEq k) xs d).getD v.zero))) (v := el) (by simp [execOp, ho, hrun]) h (mkE_ok z2 hel) (OpFrm.refl _) hr le_span
      | true =>
        simp only [cond_true] at hr
        refine Leads.value (v := .tuple #[el, .bool (mget (keyEq k) xs d).isSome]) (by simp [execOp, ho, hrun]) h ?_ (OpFrm.refl _) hr le_span
        exact ⟨[el, .bool (mget (keyEq k) xs d).isSome], rfl, mkE_ok z2 hel, rfl, trivial⟩
    · cases hr
  · cases hr

theorem same_bits {t : Ty} (hf : hasSl t = false) {ag : Bool} {x : t.den} {u v : Value} (hu : RepE w ok ag t x u) (hv : RepE w ok ag t x v) : Instr.sameBits 10000 u v = true := by
  have one : ∀ {n : Nat} {k : Ty} {x : k.den} {us vs : List Value}, hasSl k = false → RepD w ok k x us → RepD w ok k x vs → us.length = vs.length ∧ ((us.zip vs).all fun (a, b) => Instr.sameBits (n + 1) a b) = true := by
    intro n k
    induction k with
    | int q => intro x us vs _ h1 h2; rw [h1.1, h2.1]; simp [Instr.sameBits]
    | bool => intro x us vs _ h1 h2; rw [show us = _ from h1, show vs = _ from h2]; simp [Instr.sameBits]
    | str =>
      intro x us vs _ h1 h2
      obtain ⟨s, rfl, e1, _⟩ := h1
      obtain ⟨s', rfl, e2, _⟩ := h2
      have : s = s' := by
        have hh : s.data.toList.map (fun b => (b.toNat : Int)) = s'.data.toList.map (fun b => (b.toNat : Int)) := e1.trans e2.symm
        have := (List.map_inj_right (f := fun b : UInt8 => (b.toNat : Int)) (fun x y hxy => UInt8.toNat_inj.1 (by have hxy : (x.toNat : Int) = y.toNat := hxy; omega))).1 hh
        cases s; cases s'
        simp at this
        simp [this]
      subst this
      simp [Instr.sameBits, MapKept.bytes_beq]
    | sl e _ => intro x us vs hf; simp [hasSl] at hf
    | pl q => intro x us vs hf; simp [hasSl] at hf
    | pr a b iha ihb =>
      intro x us vs hf h1 h2
      simp only [hasSl, Bool.or_eq_false_iff] at hf
      obtain ⟨u1, u2, rfl, p1, p2⟩ := h1
      obtain ⟨v1, v2, rfl, q1, q2⟩ := h2
      obtain ⟨l1, z1⟩ := iha hf.1 p1 q1
      obtain ⟨l2, z2⟩ := ihb hf.2 p2 q2
      refine ⟨by simp [l1, l2], ?_⟩
      rw [List.zip_append l1, List.all_append, z1, z2]; rfl
    | un => intro x us vs _ h1 h2; rw [show us = _ from h1, show vs = _ from h2]; simp
  cases ag with
  | false =>
    have := (one (n := 9999) hf hu hv).2
    simpa using this
  | true =>
    obtain ⟨us, rfl, hu⟩ := hu
    obtain ⟨vs, rfl, hv⟩ := hv
    obtain ⟨l, z⟩ := one (n := 9998) hf hu hv
    simp only [Instr.sameBits, List.size_toArray, l, beq_self_eq_true, Bool.true_and]
    exact z

theorem keyEq_eq : ∀ {t : Ty}, hasSl t = false → ∀ {x y : t.den}, keyEq t x y = true → x = y := by
  intro t
  induction t with
  | int k => intro _ x y h; simpa [keyEq] using h
  | bool => intro _ x y h; simpa [keyEq] using h
  | str => intro _ x y h; simpa [keyEq] using h
  | sl e _ => intro hf; simp [hasSl] at hf
  | pl q => intro hf; simp [hasSl] at hf
  | pr a b iha ihb =>
    intro hf x y h
    simp only [hasSl, Bool.or_eq_false_iff] at hf
    simp only [keyEq, Bool.and_eq_true] at h
    exact Prod.ext (iha hf.1 h.1) (ihb hf.2 h.2)
  | un => intro _ x y _; rfl

theorem Sim.setMap (h : Sim F ι ok N σ a w) {id b : Nat} {es es' : Array MapEntry} {clock clock' : Nat} {t : Ty} {xs xs' : List t.den} {ka va : Bool} (hob : σ.ob id = some (.arr t xs (.mp ka va))) (hV : ι id = .map (some b)) (hb : w.heap[b]? = some (.map es clock))
    (hes : All2 (EntRep w ok ka va t) xs' es'.toList) (hl : xs'.length ≤ big) (hk : ∀ j, ¬ok b j) : Sim F ι ok N (σ.set id (.arr t xs' (.mp ka va))) a { w with heap := w.heap.setIfInBounds b (.map es' clock') } := by
  have hs := MapKept.heap_set (o' := .map es' clock') hb
  have hext : Ext w ok { w with heap := w.heap.setIfInBounds b (.map es' clock') } ok := Ext.same fun b' j hk' => cell_of_heap (hs.2 b' (fun e => by subst e; exact hk j hk')) j
  exact h.write (o' := .arr t xs' (.mp ka va)) hob (B := b) (by rw [hV]; rfl) (by simp) (fun b' hne => hs.2 b' hne) rfl rfl rfl (fun j hj => absurd hj (hk j))
    ⟨b, es', clock', hV, hs.1, All2.mono (fun _ _ he => EntRep.ext hext he) hes, hk, hl⟩

theorem All2.set {α β : Type} {Q : α → β → Prop} : ∀ {l : List α} {m : List β} (j : Nat) {x : α} {y : β}, All2 Q l m → Q x y → All2 Q (l.set j x) (m.set j y)
  | [], [], _, _, _, _, _ => trivial
  | _ :: _, _ :: _, 0, _, _, h, hq => ⟨hq, h.2⟩
  | _ :: _, _ :: _, j + 1, _, _, h, hq => ⟨h.1, All2.set j h.2 hq⟩
  | [], _ :: _, _, _, _, h, _ => h.elim
  | _ :: _, [], _, _, _, h, _ => h.elim
theorem All2.erase {α β : Type} {Q : α → β → Prop} : ∀ {l : List α} {m : List β} (j : Nat), All2 Q l m → All2 Q (l.eraseIdx j) (m.eraseIdx j)
  | [], [], _, _ => trivial
  | _ :: _, _ :: _, 0, h => h.2
  | _ :: _, _ :: _, j + 1, h => ⟨h.1, All2.erase j h.2⟩
  | [], _ :: _, _, h => h.elim
  | _ :: _, [], _, h => h.elim
theorem All2.getE {α β : Type} {Q : α → β → Prop} : ∀ {l : List α} {m : List β} {j : Nat} {d : α} {e : β}, All2 Q l m → l[j]? = some d → m[j]? = some e → Q d e
  | [], _, _, _, _, _, h, _ => by simp at h
  | _ :: _, [], _, _, _, h, _, _ => h.elim
  | _ :: _, _ :: _, 0, _, _, h, h1, h2 => by cases h1; cases h2; exact h.1
  | _ :: _, _ :: _, j + 1, _, _, h, h1, h2 => All2.getE h.2 (by simpa using h1) (by simpa using h2)

theorem leads_mapUpdate (h : Sim F ι ok N σ a w) {nb : Nat} {t : TypeId} {x y z : Operand} (ho : o.op = .mapUpdate t x y z) {K : AV → St → Option R}
    (hr : aMapUpdate P t (σ.ev x) (σ.ev y) (σ.ev z) σ (fun σ' => K (.val (.one .skip)) σ') = some r) : Leads P o F (span N nb) a w σ K r := by
  unfold aMapUpdate at hr
  split at hr
  · rename_i ka k va v hm
    obtain ⟨kt, et, hu, hk, hv⟩ := mapOf_some hm
    split at hr
    · rename_i id xs d e0 hmap hkey hval
      cases hlt : Nat.blt (List.length xs) 4294967296 with
      | false => simp [hlt] at hr
      | true =>
        simp only [hlt, cond_true] at hr
        have hlt : xs.length < 4294967296 := by simpa using hlt
        obtain ⟨e1, ho1, _, _⟩ := mapAt_ok h hmap (h.ev x)
        have e2 := elAt_ok h hkey (h.ev y)
        have e3 := elAt_ok h hval (h.ev z)
        have kf := keyTy_flat hk
        have vf := valTy_some (P := P) hv w ok
        obtain ⟨b, es, clock, hV, hb, hes, hok, _⟩ := (h.objs id _ ho1).2.1
        obtain ⟨res, g1, g2⟩ := findKey_run (P := P) hk e2 hes
        have hck : (Instr.checkKey false 10000 kt (a.eval y)).run P w = .ok () w := checkKey_run hk e2 _ 9998
        have hrunV : a.eval x = .map (some b) := by rw [e1, hV]
        rcases g2 with ⟨h1, h2, h3, _⟩ | ⟨j, e, dd, h1, h2, h3, h4, h5, h6, _⟩
        · subst h1
          have hs := h.setMap (t := .pr k v) (es' := es.push ⟨a.eval y, a.eval z, clock⟩) (clock' := clock + 1) ho1 hV hb (xs' := mset (keyEq k) xs d e0) (by
            rw [h3 e0, Array.toList_push]
            exact All2.app hes ⟨⟨kf.1, vf.1, e2, e3⟩, trivial⟩) (by rw [h3 e0]; simp [big]; omega) hok
          refine Leads.skip ?_ hs (OpFrm.set _ _ _) hr le_span
          simp [execOp, ho, hrunV, Instr.mapUpdate, run_underlying hu, MapKept.run_getObj_map hb, hck, g1, MapKept.run_setObj_map _ hb]
        · subst h1
          have hd : d = dd.1 := keyEq_eq kf.1 h4
          have he := All2.getE hes h3 h2
          have hold : RepE w ok ka k d e.key := by rw [hd]; exact he.2.2.1
          have hkt : (Instr.keyThatStays e.key (a.eval y)).run P w = .ok (a.eval y) w := by
            unfold Instr.keyThatStays
            rw [if_pos (same_bits kf.1 hold e2)]
            simp
          have hs := h.setMap (t := .pr k v) (es' := es.modify j fun e => { e with key := a.eval y, val := a.eval z }) (clock' := clock) ho1 hV hb (xs' := mset (keyEq k) xs d e0) (by
            have hjl : es.toList[j]? = some e := h2
            have : (es.modify j fun e => { e with key := a.eval y, val := a.eval z }).toList = es.toList.set j { e with key := a.eval y, val := a.eval z } := by
              apply List.ext_getElem?
              intro i
              rw [Array.getElem?_toList, Array.getElem?_modify, List.getElem?_set]
              by_cases hij : j = i
              · subst hij
                have : j < es.toList.length := by
                  rcases Nat.lt_or_ge j es.toList.length with q | q
                  · exact q
                  · rw [List.getElem?_eq_none q] at hjl; cases hjl
                rw [if_pos rfl, if_pos rfl, if_pos this, ← Array.getElem?_toList, hjl]; rfl
              · rw [if_neg hij, if_neg hij, Array.getElem?_toList]
            rw [h6 e0, this]
            exact All2.set j hes ⟨kf.1, vf.1, e2, e3⟩) (by rw [h6 e0]; simp [big]; omega) hok
          refine Leads.skip ?_ hs (OpFrm.set _ _ _) hr le_span
          have hj : es[j]? = some e := by rw [← Array.getElem?_toList]; exact h2
          simp [execOp, ho, hrunV, Instr.mapUpdate, run_underlying hu, MapKept.run_getObj_map hb, hck, g1, hj, hkt, MapKept.run_setObj_map _ hb]
    · cases hr
  · cases hr

theorem leads_delete (h : Sim F ι ok N σ a w) {nb : Nat} {c : Call} (ho : o.op = .call c) (hc : c.callee = .builtin .delete) {x y : AV} {t : TypeId} {ts : List TypeId} (hargs : evs σ c.args.toList = [x, y]) (ht : c.argTypes.toList = t :: ts) {K : AV → St → Option R}
    (hr : aDelete P t x y σ (fun σ' => K (.val (.one .skip)) σ') = some r) : Leads P o F (span N nb) a w σ K r := by
  obtain ⟨x', y', hl, rfl, rfl⟩ := evs_two hargs
  have ht0 : c.argTypes[0]? = some t := by rw [← Array.getElem?_toList, ht]; rfl
  unfold aDelete at hr
  split at hr
  · rename_i ka k va v hm
    obtain ⟨kt, et, hu, hk, hv⟩ := mapOf_some hm
    split at hr
    · rename_i id xs d hmap hkey
      obtain ⟨e1, ho1, _, _⟩ := mapAt_ok h hmap (h.ev x')
      have e2 := elAt_ok h hkey (h.ev y')
      obtain ⟨b, es, clock, hV, hb, hes, hok, hbig⟩ := (h.objs id _ ho1).2.1
      obtain ⟨res, g1, g2⟩ := findKey_run (P := P) hk e2 hes
      have hck : (Instr.checkKey es.isEmpty 10000 kt (a.eval y')).run P w = .ok () w := checkKey_run hk e2 _ 9998
      have hrunV : a.eval x' = .map (some b) := by rw [e1, hV]
      rcases g2 with ⟨h1, h2, _, h3⟩ | ⟨j, e, dd, h1, h2, h3, h4, h5, _, h6⟩
      · subst h1
        have hs := h.setMap (t := .pr k v) (es' := es) (clock' := clock) ho1 hV hb (xs' := mdel (keyEq k) xs d) (by rw [h3]; exact hes) (by rw [h3]; exact hbig) hok
        refine Leads.value (av := .val (.one .skip)) (v := .tuple #[]) ?_ hs rfl (OpFrm.set _ _ _) hr le_span
        simp [execOp, ho, resolve, hc, invoke, builtin, hl, Builtin.delete_, ht0, hrunV, run_underlying hu, MapKept.run_getObj_map hb, hck, g1, MapKept.run_setObj_map _ hb]
      · subst h1
        have hs := h.setMap (t := .pr k v) (es' := es.eraseIdxIfInBounds j) (clock' := clock) ho1 hV hb (xs' := mdel (keyEq k) xs d) (by
            have : (es.eraseIdxIfInBounds j).toList = es.toList.eraseIdx j := by simp [Array.toList_eraseIdxIfInBounds]
            rw [h6, this]; exact All2.erase j hes) (by rw [h6]; exact Nat.le_trans (List.length_eraseIdx_le _ _) hbig) hok
        refine Leads.value (av := .val (.one .skip)) (v := .tuple #[]) ?_ hs rfl (OpFrm.set _ _ _) hr le_span
        simp [execOp, ho, resolve, hc, invoke, builtin, hl, Builtin.delete_, ht0, hrunV, run_underlying hu, MapKept.run_getObj_map hb, hck, g1, MapKept.run_setObj_map _ hb]
    · cases hr
  · cases hr

theorem leads_lenMap (h : Sim F ι ok N σ a w) {nb : Nat} {c : Call} (ho : o.op = .call c) (hc : c.callee = .builtin .len) {x : AV} {t : TypeId} (hargs : evs σ c.args.toList = [x]) (ht : c.argTypes.toList = [t]) {K : AV → St → Option R}
    (hr : aLenMap P t x σ (fun v => K v σ) = some r) : Leads P o F (span N nb) a w σ K r := by
  obtain ⟨x', hl, rfl⟩ := evs_one hargs
  have ht0 : c.argTypes = #[t] := by apply Array.ext'; simpa using ht
  unfold aLenMap at hr
  split at hr
  · rename_i ka k va v hm
    obtain ⟨kt, et, hu, hk, hv⟩ := mapOf_some hm
    split at hr
    · rename_i id xs hmap
      obtain ⟨e1, ho1, _, _⟩ := mapAt_ok h hmap (h.ev x')
      obtain ⟨b, es, clock, hV, hb, hes, hok, hbig⟩ := (h.objs id _ ho1).2.1
      have hrunV : a.eval x' = .map (some b) := by rw [e1, hV]
      have hlen : es.size = xs.length := by have := hes.len; simpa using this.symm
      refine Leads.value (v := .int .i64 xs.length) ?_ h (rep_int _ _ (len_in _ hbig)) (OpFrm.refl _) hr le_span
      simp [execOp, ho, resolve, hc, invoke, builtin, hl, ht0, Builtin.len_, run_underlying hu, hrunV, MapKept.run_getObj_map hb, hlen]
      rfl
    · cases hr
  · cases hr
end
end Go.Abs

/- Abs, part Q: what a summary says of the machine's function; how the caller's state goes on. -/
namespace Go.Abs

/-! ## What is handed over -/
def RepTs (w : World) (ok : Ok) : (ts : List Ty) → (tupT ts).den → List Value → Prop
  | [], _, vs => vs = []
  | t :: r, x, vs => ∃ v vs', vs = v :: vs' ∧ RepD w ok t (thd t r x) [v] ∧ RepTs w ok r (ttl t r x) vs'

def BoxRep (w : World) (ok : Ok) (ts : List Ty) (x : (tupT ts).den) (v : Value) (B : Nat) : Prop :=
  v = .pointer (some ⟨B, 0, none⟩) ∧ ∃ c T, w.heap[B]? = some (.cells c T (0, 0)) ∧ RepTs w ok ts x c.toList ∧ ∀ j, ¬ok B j

def CapsRep (w : World) (ok : Ok) : (caps : List (List Ty)) → (tupT (concatT caps)).den → List Value → List Nat → Prop
  | [], _, vs, bs => vs = [] ∧ bs = []
  | ts :: r, x, vs, bs => ∃ v vs' B bs', vs = v :: vs' ∧ bs = B :: bs' ∧ BoxRep w ok ts (tfst ts (concatT r) x) v B ∧ CapsRep w ok r (tsnd ts (concatT r) x) vs' bs'

def noι : Nat → Value := fun _ => undef
def noN : Nat → Prop := fun _ => False

def ArgRep (w : World) (ok : Ok) : (k : PK) → (tupT (pkTs k)).den → Value → List Nat → Prop
  | .val false ts, x, v, bs => bs = [] ∧ RepTs w ok ts x [v]
  | .val true ts, x, v, bs => bs = [] ∧ ∃ vs : List Value, v = .agg vs.toArray ∧ RepTs w ok ts x vs
  | .own t, x, v, bs => bs = (blk v).toList ∧ ObjRep w ok noι noN (.arr t x .fr) v
  | .ow t, x, v, bs => bs = (blk v).toList ∧ ObjRep w ok noι noN (.arr t x .wr) v
  | .box ts, x, v, bs => ∃ B, bs = [B] ∧ BoxRep w ok ts x v B
  | .fn f caps, x, v, bs => ∃ vs : List Value, v = .func (.func f) #[] vs.toArray ∧ CapsRep w ok caps x vs bs

def ArgsRep (w : World) (ok : Ok) : (ks : List PK) → (tupT (insL ks)).den → List Value → List Nat → Prop
  | [], _, vs, bs => vs = [] ∧ bs = []
  | k :: r, x, vs, bs => ∃ v vs' b1 b2, vs = v :: vs' ∧ bs = b1 ++ b2 ∧ ArgRep w ok k (tfst (pkTs k) (insL r) x) v b1 ∧ ArgsRep w ok r (tsnd (pkTs k) (insL r) x) vs' b2

/-! ## What comes back -/
def CapsOut (w : World) (ok : Ok) : (caps : List (List Ty)) → (tupT (concatT caps)).den → List Value → Prop
  | [], _, vs => vs = []
  | ts :: r, x, vs => ∃ v vs' B, vs = v :: vs' ∧ BoxRep w ok ts (tfst ts (concatT r) x) v B ∧ CapsOut w ok r (tsnd ts (concatT r) x) vs'

def OutsRep (w : World) (ok : Ok) : (ks : List PK) → (tupT (outsP ks)).den → List Value → Prop
  | [], _, vs => vs = []
  | .box ts :: r, x, vs => ∃ v vs' B, vs = v :: vs' ∧ BoxRep w ok ts (tfst ts (outsP r) x) v B ∧ OutsRep w ok r (tsnd ts (outsP r) x) vs'
  | .fn f caps :: r, x, vs => ∃ vs1 vs' v, vs = v :: vs' ∧ v = .func (.func f) #[] (List.toArray vs1) ∧ CapsOut w ok caps (tfst (concatT caps) (outsP r) x) vs1 ∧ OutsRep w ok r (tsnd (concatT caps) (outsP r) x) vs'
  | .val _ _ :: r, x, vs => ∃ v vs', vs = v :: vs' ∧ OutsRep w ok r x vs'
  | .own _ :: r, x, vs => ∃ v vs', vs = v :: vs' ∧ OutsRep w ok r x vs'
  | .ow _ :: r, x, vs => ∃ v vs', vs = v :: vs' ∧ OutsRep w ok r x vs'

def CksRep (w : World) (ok : Ok) : (ks : List CK) → (tupT (pay ks)).den → List Value → List Nat → Prop
  | [], _, vs, bs => vs = [] ∧ bs = []
  | .cst c :: ks, p, vs, bs => ∃ v vs', vs = v :: vs' ∧ RepC w ok noι noN c v ∧ CksRep w ok ks p vs' bs
  | .dat t :: ks, p, vs, bs => ∃ v vs', vs = v :: vs' ∧ RepD w ok t (thd t (pay ks) p) [v] ∧ CksRep w ok ks (ttl t (pay ks) p) vs' bs
  | .own t _ mu :: ks, p, vs, bs => ∃ v vs' bs', vs = v :: vs' ∧ bs = (blk v).toList ++ bs' ∧ ObjRep w ok noι noN (.arr t (thd (.sl t) (pay ks) p) mu) v ∧ CksRep w ok ks (ttl (.sl t) (pay ks) p) vs' bs'

def V1Rep (w : World) (ok : Ok) (ag : Bool) (ks : List CK) (p : (tupT (pay ks)).den) (v : Value) (bs : List Nat) : Prop :=
  match ag with
  | false => ks.length = 1 ∧ CksRep w ok ks p [v] bs
  | true => ∃ vs : List Value, v = .agg vs.toArray ∧ CksRep w ok ks p vs bs

def ResRep (w : World) (ok : Ok) : (l : List (Bool × List CK)) → (tupT (resTs l)).den → List Value → List Nat → Prop
  | [], _, vs, bs => vs = [] ∧ bs = []
  | (ag, ks) :: r, p, vs, bs => ∃ v vs' b1 b2, vs = v :: vs' ∧ bs = b1 ++ b2 ∧ V1Rep w ok ag ks (tfst (pay ks) (resTs r) p) v b1 ∧ ResRep w ok r (tsnd (pay ks) (resTs r) p) vs' b2

/-- The blocks of the boxes that are handed over. -/
def boxBs : List PK → List Value → List Nat
  | .box _ :: r, v :: vs => (blk v).toList ++ boxBs r vs
  | .fn _ _ :: r, .func _ _ cs :: vs => (cs.toList.flatMap fun v => (blk v).toList) ++ boxBs r vs
  | _ :: r, _ :: vs => boxBs r vs
  | _, _ => []

def tupV : List Value → Value
  | [v] => v
  | l => .tuple l.toArray

/-- A function is called, and comes back. -/
def Ends (P : Program) (f : FuncId) (args : Array Value) (w : World) (R : Value → World → Prop) : Prop :=
  match (callFunc f args).run P w with
  | .ok (.value v) w' => R v w'
  | .ok (.enter g as) w' => Calls P g as w' fun e w'' => ∃ v, e = .returned v ∧ R v w''
  | _ => False

structure After (w : World) (bs : List Nat) (ok : Ok) (sig : Sig) (args : List Value) (r : sig.outs.den) (v : Value) (w' : World) (ok' : Ok) (vs : List Value) (rbs : List Nat) : Prop where
  val : v = tupV vs
  keep : Keeps ⟨w, bs, ok, []⟩ ok' w'
  oks : ∀ b o, ok' b o → b < w'.heap.size
  res : ResRep w' ok' sig.res (tfst (resTs sig.res) (outsP sig.pars) r) vs rbs
  outs : OutsRep w' ok' sig.pars (tsnd (resTs sig.res) (outsP sig.pars) r) args
  nodup : rbs.Nodup
  pls : Pls ⟨w, bs, ok, []⟩ ok' w'
  new : ∀ b ∈ rbs, (w.heap.size ≤ b ∨ b ∈ bs) ∧ b ∉ boxBs sig.pars args

/-- The library's table of 32 small numbers, as its initialiser lays it. -/
def tab32 : List Int := [0, 1, 28, 2, 29, 14, 24, 3, 30, 22, 20, 15, 25, 17, 4, 8, 31, 27, 13, 23, 21, 19, 16, 7, 26, 12, 18, 6, 11, 5, 10, 9]
/-- What is known of package-level variables. -/
structure GOk (P : Program) (w : World) (ok : Nat → Nat → Prop) : Prop where
  tab : ∀ g, P.globalNamed "math/bits.deBruijn32tab" = some g → ∀ j, j < 32 → ok g j ∧ w.cell? ⟨g, j, none⟩ = some (.int .u8 (tab32.getD j 0))
  pow : ∀ g, P.globalNamed "internal/strconv.uint64pow10" = some g → ∀ j, j < 20 → ok g j ∧ w.cell? ⟨g, j, none⟩ = some (.int .u64 ((10 ^ j : Nat) : Int))
  err : ∀ g, P.globalNamed "strconv.ErrRange" = some g → ok g 0 ∧ ∃ te pe, w.cell? ⟨g, 0, none⟩ = some (.iface te pe)
/-- None of these variables is there. -/
def noTab2 (P : Program) : Bool := (P.globalNamed "internal/strconv.uint64pow10").isNone && (P.globalNamed "strconv.ErrRange").isNone
def noTabs (P : Program) : Bool := (P.globalNamed "math/bits.deBruijn32tab").isNone && noTab2 P

def SoundF (P : Program) (S : Summ) : Prop :=
  ∀ m p r, S.fn m p = some r → ∀ w (ok : Ok) args bs cs, GOk P w ok.p → ArgsRep w ok S.sig.pars p args bs → bs.Nodup → (∀ b o, ok b o → b < w.heap.size) → Pls ⟨w, bs ++ cs, ok, []⟩ ok w → (parsNoPl S.sig.pars = true → ∀ b o, ¬ok.c b o) →
    Ends P S.f args.toArray w fun v w' => ∃ ok' vs rbs, After w (bs ++ cs) ok S.sig args r v w' ok' vs rbs

/-- The same, in worlds that keep what was known at the start. -/
def KnownF (P : Program) (F : Fr) (S : Summ) : Prop :=
  ∀ m p r, S.fn m p = some r → ∀ w (ok : Ok) args bs cs, (∀ b o, F.ok0.p b o → ok.p b o ∧ w.cell? ⟨b, o, none⟩ = F.w0.cell? ⟨b, o, none⟩) → ArgsRep w ok S.sig.pars p args bs → bs.Nodup → (∀ b o, ok b o → b < w.heap.size) → Pls ⟨w, bs ++ cs, ok, []⟩ ok w → (parsNoPl S.sig.pars = true → ∀ b o, ¬ok.c b o) →
    Ends P S.f args.toArray w fun v w' => ∃ ok' vs rbs, After w (bs ++ cs) ok S.sig args r v w' ok' vs rbs

/-- A function that cuts a part out of a slice. -/
def WinSound (P : Program) (f : FuncId) (t : Ty) (fn : Fu → List t.den × Int → Option (Int × Int)) : Prop :=
  ∀ m (xs : List t.den) n q, fn m (xs, n) = some q → 0 < List.length xs ∧ ∀ w b o cap, List.length xs ≤ cap → List.length xs ≤ big → IntKind.i64.wrap n = n →
    Ends P f #[.agg #[.slice (some ⟨b, o, none⟩) (List.length xs) cap], .int .i64 n] w fun v w' => (∃ c', v = .slice (some ⟨b, o + q.1.toNat * t.sz, none⟩) q.2.toNat c') ∧ Grows w w'

/-- A function that reads one number of a box. -/
def RdSound (P : Program) (f : FuncId) (k : Nat) (fn : Fu → Int × Int → Option Int) : Prop :=
  ∀ m y n z, fn m (y, n) = some z → IntKind.i64.wrap z = z ∧ ∀ w B, w.cell? ⟨B, k, none⟩ = some (.int .i64 y) → IntKind.i64.wrap y = y → IntKind.i64.wrap n = n →
    Ends P f #[.pointer (some ⟨B, 0, none⟩), .int .i64 n] w fun v w' => v = .int .i64 z ∧ Grows w w'

def SpcSound (P : Program) (f : FuncId) : Spc → Prop
  | .win t fn => WinSound P f t fn
  | .rd k fn => RdSound P f k fn
def Sound (P : Program) (S : Summ) : Prop := match winFn S with
  | some x => SpcSound P S.f x
  | none => SoundF P S
def KnownAt (P : Program) (F : Fr) (S : Summ) : Prop := match winFn S with
  | some x => SpcSound P S.f x
  | none => KnownF P F S
theorem winFn_res {S : Summ} (h : ∀ ks, S.sig.res ≠ [(true, ks)]) : winFn S = none := by
  unfold winFn
  split
  · exact absurd rfl (h _)
  · exact absurd rfl (h _)
  · rfl
theorem Sound.plain {P : Program} {S : Summ} (h : Sound P S) (hw : winFn S = none) : SoundF P S := by
  unfold Sound at h
  rw [hw] at h
  exact h
theorem SoundF.all {P : Program} {S : Summ} (h : SoundF P S) (hw : winFn S = none) : Sound P S := by
  unfold Sound
  rw [hw]
  exact h

theorem GOk.mono {P : Program} {w w' : World} {ok ok' : Nat → Nat → Prop} (h : GOk P w ok) (hk : ∀ b o, ok b o → ok' b o ∧ w'.cell? ⟨b, o, none⟩ = w.cell? ⟨b, o, none⟩) : GOk P w' ok' where
  tab g hg j hj := by
    obtain ⟨h1, h2⟩ := h.tab g hg j hj
    obtain ⟨h3, h4⟩ := hk g j h1
    exact ⟨h3, h4.trans h2⟩
  pow g hg j hj := by
    obtain ⟨h1, h2⟩ := h.pow g hg j hj
    obtain ⟨h3, h4⟩ := hk g j h1
    exact ⟨h3, h4.trans h2⟩
  err g hg := by
    obtain ⟨h1, te, pe, h2⟩ := h.err g hg
    obtain ⟨h3, h4⟩ := hk g 0 h1
    exact ⟨h3, te, pe, h4.trans h2⟩
theorem isNone_eq {α : Type} {x : Option α} (h : x.isNone = true) : x = none := by cases x <;> simp_all
theorem GOk.none {P : Program} {w : World} {ok : Nat → Nat → Prop} (h : noTabs P = true) : GOk P w ok := by
  unfold noTabs noTab2 at h
  simp only [Bool.and_eq_true] at h
  obtain ⟨h1, h2, h3⟩ := h
  exact ⟨fun g hg => (by rw [isNone_eq h1] at hg; cases hg), fun g hg => (by rw [isNone_eq h2] at hg; cases hg), fun g hg => (by rw [isNone_eq h3] at hg; cases hg)⟩
theorem Sound.at {P : Program} {S : Summ} (h : Sound P S) {F : Fr} (hG : GOk P F.w0 F.ok0.p) : KnownAt P F S := by
  unfold Sound at h
  unfold KnownAt
  split
  · rename_i x hx
    rw [hx] at h
    exact h
  · rename_i hx
    rw [hx] at h
    exact fun m p r hr w ok args bs cs hk => h m p r hr w ok args bs cs (hG.mono hk)

/-! ## From the caller's state -/
section
variable {P : Program} {R : Type} {F : Fr} {ι : Nat → Value} {ok : Ok} {N : Nat → Prop} {σ : St} {a : Act} {w : World} {o : Oper} {r : R}

theorem freeze_ind {Q : St → St → Prop} (hr : ∀ σ, Q σ σ) (ht : ∀ a b c, Q a b → Q b c → Q a c) (h1 : ∀ σ c, Q σ (σ.freeze1 c)) : ∀ (l : List Cell) (σ : St), Q σ (σ.freeze l)
  | [], σ => hr σ
  | c :: r, σ => ht _ _ _ (h1 σ c) (freeze_ind hr ht h1 r _)

theorem freezeBoxes_ind {Q : St → St → Prop} (hr : ∀ σ, Q σ σ) (ht : ∀ a b c, Q a b → Q b c → Q a c) (h1 : ∀ σ c, Q σ (σ.freeze1 c)) : ∀ (l : List Nat) (σ : St), Q σ (freezeBoxes σ l)
  | [], σ => hr σ
  | id :: r, σ => by
    refine ht _ _ _ ?_ (freezeBoxes_ind hr ht h1 r _)
    unfold freezeBox
    split
    · exact freeze_ind hr ht h1 _ _
    · exact hr _

theorem freezeArgs_ind {Q : St → St → Prop} (hr : ∀ σ, Q σ σ) (ht : ∀ a b c, Q a b → Q b c → Q a c) (h1 : ∀ σ c, Q σ (σ.freeze1 c)) : ∀ (ks : List PK) (vs : List AV) (σ : St), Q σ (freezeArgs σ ks vs) := by
  intro ks
  induction ks with
  | nil => intro vs σ; exact hr _
  | cons k r ih =>
    intro vs σ
    cases vs with
    | nil => cases k <;> exact hr _
    | cons v vs =>
      cases k with
      | val ag ts => cases v with
        | val x => exact ht _ _ _ (freeze_ind hr ht h1 x.cells σ) (ih vs _)
        | tup l => exact ih vs σ
      | own t => cases v with
        | val x => exact ht _ _ _ (freeze_ind hr ht h1 x.cells σ) (ih vs _)
        | tup l => exact ih vs σ
      | ow t => cases v <;> exact ih vs σ
      | box ts =>
        cases v with
        | tup l => exact ih vs σ
        | val x => cases x with
          | agg cs => exact ih vs σ
          | one c => cases c with
            | ptr id off => exact ht _ _ _ (freezeBoxes_ind hr ht h1 [id] σ) (ih vs _)
            | _ => exact ih vs σ
      | fn f caps =>
        cases v with
        | tup l => exact ih vs σ
        | val x => cases x with
          | agg cs => exact ih vs σ
          | one c => cases c with
            | fn g ps => exact ht _ _ _ (freezeBoxes_ind hr ht h1 (fsts ps) σ) (ih vs _)
            | _ => exact ih vs σ

theorem freezeArgs_frm (ks : List PK) (vs : List AV) (σ : St) : OpFrm σ (freezeArgs σ ks vs) :=
  freezeArgs_ind OpFrm.refl (fun _ _ _ => OpFrm.trans) OpFrm.freeze1 ks vs σ

theorem freeze1_ob (σ : St) (c : Cell) (i : Nat) (o : AO) (h : (σ.freeze1 c).ob i = some o) : ∃ o', σ.ob i = some o' := by
  unfold St.freeze1 at h
  split at h
  · split at h
    · rename_i id _ t xs hl
      by_cases e : id = i
      · subst e; exact ⟨.arr t xs .wr, hl⟩
      · exact ⟨o, by simpa [St.ob, look_cons, e] using h⟩
    · exact ⟨o, h⟩
  · exact ⟨o, h⟩

theorem freezeArgs_ob (ks : List PK) (vs : List AV) (σ : St) : ∀ i o, (freezeArgs σ ks vs).ob i = some o → ∃ o', σ.ob i = some o' :=
  freezeArgs_ind (Q := fun σ σ' => ∀ i o, σ'.ob i = some o → ∃ o', σ.ob i = some o') (fun _ _ o h => ⟨o, h⟩) (fun a b c h1 h2 i o h => by obtain ⟨o', h'⟩ := h2 i o h; exact h1 i o' h') freeze1_ob ks vs σ

theorem Sim.freezeBoxes : ∀ (l : List Nat) {ok : Ok} {σ : St}, Sim F ι ok N σ a w → ∃ ok', Sim F ι ok' N (freezeBoxes σ l) a w ∧ ok.Le ok'
  | [], ok, σ, h => ⟨ok, h, Ok.Le.refl ok⟩
  | id :: r, ok, σ, h => by
    have h1 : ∃ ok', Sim F ι ok' N (freezeBox σ id) a w ∧ ok.Le ok' := by
      unfold freezeBox
      split
      · exact Sim.freeze _ h
      · exact ⟨ok, h, Ok.Le.refl ok⟩
    obtain ⟨ok1, h1, l1⟩ := h1
    obtain ⟨ok2, h2, l2⟩ := Sim.freezeBoxes r h1
    exact ⟨ok2, h2, l1.trans l2⟩

theorem Sim.freezeArgs : ∀ (ks : List PK) (vs : List AV) {ok : Ok} {σ : St}, Sim F ι ok N σ a w → ∃ ok', Sim F ι ok' N (freezeArgs σ ks vs) a w ∧ ok.Le ok' := by
  intro ks
  have key : ∀ (r : List PK) (vs : List AV), (∀ (vs : List AV) {ok : Ok} {σ : St}, Sim F ι ok N σ a w → ∃ ok', Sim F ι ok' N (Abs.freezeArgs σ r vs) a w ∧ ok.Le ok') →
      ∀ {ok : Ok} {σ : St}, (∃ ok1, Sim F ι ok1 N σ a w ∧ ok.Le ok1) → ∃ ok', Sim F ι ok' N (Abs.freezeArgs σ r vs) a w ∧ ok.Le ok' := by
    intro r vs ih ok σ ⟨ok1, h1, l1⟩
    obtain ⟨ok2, h2, l2⟩ := ih vs h1
    exact ⟨ok2, h2, l1.trans l2⟩
  induction ks with
  | nil => intro vs ok σ h; exact ⟨ok, h, Ok.Le.refl ok⟩
  | cons k r ih =>
    intro vs ok σ h
    cases vs with
    | nil => cases k <;> exact ⟨ok, h, Ok.Le.refl ok⟩
    | cons v vs =>
      cases k with
      | val ag ts => cases v with
        | val x => exact key r vs ih (Sim.freeze x.cells h)
        | tup l => exact ih vs h
      | own t => cases v with
        | val x => exact key r vs ih (Sim.freeze x.cells h)
        | tup l => exact ih vs h
      | ow t => cases v <;> exact ih vs h
      | box ts =>
        cases v with
        | tup l => exact ih vs h
        | val x => cases x with
          | agg cs => exact ih vs h
          | one c => cases c with
            | ptr id off => exact key r vs ih (Sim.freezeBoxes [id] h)
            | _ => exact ih vs h
      | fn f caps =>
        cases v with
        | tup l => exact ih vs h
        | val x => cases x with
          | agg cs => exact ih vs h
          | one c => cases c with
            | fn g ps => exact key r vs ih (Sim.freezeBoxes (fsts ps) h)
            | _ => exact ih vs h
end
end Go.Abs

/- Abs, part R: calls, I: what is handed over. -/
namespace Go.Abs

theorem thd_tcons (t : Ty) : ∀ (r : List Ty) (x : t.den) (y : (tupT r).den), thd t r (tcons t r x y) = x
  | [], _, _ => rfl
  | _ :: _, _, _ => rfl
theorem ttl_tcons (t : Ty) : ∀ (r : List Ty) (x : t.den) (y : (tupT r).den), ttl t r (tcons t r x y) = y
  | [], _, _ => rfl
  | _ :: _, _, _ => rfl
theorem tfst_tapp : ∀ (a b : List Ty) (x : (tupT a).den) (y : (tupT b).den), tfst a b (tapp a b x y) = x
  | [], _, _, _ => rfl
  | t :: r, b, x, y => by
    simp only [tfst, tapp, thd_tcons, ttl_tcons, tfst_tapp r b]
    cases r <;> rfl
theorem tsnd_tapp : ∀ (a b : List Ty) (x : (tupT a).den) (y : (tupT b).den), tsnd a b (tapp a b x y) = y
  | [], _, _, _ => rfl
  | t :: r, b, x, y => by
    simp only [tsnd, tapp, ttl_tcons, tsnd_tapp r b]

section
variable {P : Program} {R : Type} {F : Fr} {ι : Nat → Value} {ok : Ok} {N : Nat → Prop} {σ : St} {a : Act} {w : World} {o : Oper} {r : R}

theorem grabTs_rep (h : Sim F ι ok N σ a w) : ∀ {ts : List Ty} {cs : List Cell} {x : (tupT ts).den} {vs : List Value}, grabTs σ ts cs = some x → All2 (RepC w ok ι N) cs vs → RepTs w ok ts x vs
  | [], [], x, [], _, _ => rfl
  | [], [], x, _ :: _, _, hv => hv.elim
  | [], _ :: _, x, vs, hg, _ => by simp [grabTs] at hg
  | _ :: _, [], x, vs, hg, _ => by simp [grabTs] at hg
  | t :: r, c :: cs, x, [], _, hv => hv.elim
  | t :: r, c :: cs, x, v :: vs, hg, hv => by
    simp only [grabTs] at hg
    split at hg
    · rename_i y hy
      split at hg
      · rename_i z hz
        cases hg
        exact ⟨v, vs, rfl, by rw [thd_tcons]; exact h.toDatS hy hv.1, by rw [ttl_tcons]; exact grabTs_rep h hz hv.2⟩
      · cases hg
    · cases hg

theorem boxCells_some {id : Nat} {cs : List Cell} (h : boxCells σ id = some cs) : σ.ob id = some (.box cs) := by
  unfold boxCells at h
  split at h
  · rename_i cs' ho; cases h; exact ho
  · cases h

theorem boxRep (h : Sim F ι ok N σ a w) {id : Nat} {cs : List Cell} {ts : List Ty} {x : (tupT ts).den} (hc : boxCells σ id = some cs) (hg : grabTs σ ts cs = some x) : ∃ B, blk (ι id) = some B ∧ BoxRep w ok ts x (ι id) B := by
  obtain ⟨_, ⟨B, c, T, hV, h1, h2, h3⟩, _⟩ := h.objs id _ (boxCells_some hc)
  exact ⟨B, by rw [hV]; rfl, hV, c, T, h1, grabTs_rep h hg h2, h3⟩

def bsOf (ι : Nat → Value) (ids : List Nat) : List Nat := ids.flatMap fun id => (blk (ι id)).toList

theorem bsOf_app (ι : Nat → Value) (a b : List Nat) : bsOf ι (app a b) = bsOf ι a ++ bsOf ι b := by rw [app_eq]; simp [bsOf]

theorem grabCaps_rep (h : Sim F ι ok N σ a w) : ∀ {caps : List (List Ty)} {ps : List (Nat × Nat)} {x : (tupT (concatT caps)).den} {vs : List Value}, grabCaps σ caps ps = some x → All2 (ptrAt ι N) ps vs →
    CapsRep w ok caps x vs (bsOf ι (fsts ps)) ∧ ∀ id ∈ fsts ps, ∃ cs, σ.ob id = some (.box cs)
  | [], [], x, [], _, _ => ⟨⟨rfl, rfl⟩, fun id hi => by cases hi⟩
  | [], [], x, _ :: _, _, hv => hv.elim
  | [], _ :: _, x, vs, hg, _ => by simp [grabCaps] at hg
  | _ :: _, [], x, vs, hg, _ => by simp [grabCaps] at hg
  | t :: r, c :: cs, x, [], _, hv => hv.elim
  | ts :: r, (id, off) :: ps, x, v :: vs, hg, hv => by
    simp only [grabCaps] at hg
    cases hb : Nat.beq off 0 with
    | false => simp [hb] at hg
    | true =>
      simp only [hb, cond_true] at hg
      have hb := Nat.eq_of_beq_eq_true hb
      subst hb
      split at hg
      · rename_i cs hcs
        split at hg
        · rename_i y hy
          split at hg
          · rename_i z hz
            cases hg
            obtain ⟨B, hB, hrep⟩ := boxRep h hcs hy
            obtain ⟨q1, q2⟩ := grabCaps_rep h hz hv.2
            have hvi : v = ι id := by
              obtain ⟨_, B', e1, e2⟩ := hv.1
              rw [e2]; exact e1.symm
            refine ⟨⟨v, vs, B, bsOf ι (fsts ps), rfl, by simp [bsOf, fsts, hB], by rw [tfst_tapp, hvi]; exact hrep, by rw [tsnd_tapp]; exact q1⟩, fun i hi => ?_⟩
            rcases List.mem_cons.1 hi with rfl | hi
            · exact ⟨cs, boxCells_some hcs⟩
            · exact q2 i hi
          · cases hg
        · cases hg
      · cases hg

/-- What is told for a call: what is told for good; where nothing comes back that could hold on to it, what is told as our own, too. -/
def lentP (ln : Bool) (ok : Ok) : Nat → Nat → Prop := fun b o => ok.p b o ∨ (ln = true ∧ ok.c b o)
theorem lentP_any {ln : Bool} {b o : Nat} (h : lentP ln ok b o) : ok b o := by
  rcases h with h | h
  · exact .inl h
  · exact .inr (.inl h.2)
theorem of_lent {ln : Bool} {b o : Nat} (h : (Ok.of (lentP ln ok)) b o) : lentP ln ok b o := by
  rcases h with h | h | h
  · exact h
  · exact h.elim
  · exact h.elim
theorem RepTs.toP (ln : Bool) : ∀ {ts : List Ty} {x : (tupT ts).den} {vs : List Value}, noPlL ts = true → RepTs w ok ts x vs → RepTs w (Ok.of (lentP ln ok)) ts x vs
  | [], _, _, _, h => h
  | t :: r, x, vs, hn, h => by
    simp only [noPlL, Bool.and_eq_true] at hn
    obtain ⟨v, vs', e, h1, h2⟩ := h
    exact ⟨v, vs', e, RepD.toP (fun _ _ h => .inl h) hn.1 h1, RepTs.toP ln hn.2 h2⟩
theorem BoxRep.toP (ln : Bool) {ts : List Ty} {x : (tupT ts).den} {v : Value} {B : Nat} (hn : noPlL ts = true) (h : BoxRep w ok ts x v B) : BoxRep w (Ok.of (lentP ln ok)) ts x v B := by
  obtain ⟨e, c, T, h1, h2, h3⟩ := h
  exact ⟨e, c, T, h1, RepTs.toP ln hn h2, fun j hj => h3 j (lentP_any (of_lent hj))⟩
theorem CapsRep.toP (ln : Bool) : ∀ {caps : List (List Ty)} {x : (tupT (concatT caps)).den} {vs : List Value} {bs : List Nat}, pkNoPl.go caps = true → CapsRep w ok caps x vs bs → CapsRep w (Ok.of (lentP ln ok)) caps x vs bs
  | [], _, _, _, _, h => h
  | ts :: r, x, vs, bs, hn, h => by
    simp only [pkNoPl.go, Bool.and_eq_true] at hn
    obtain ⟨v, vs', B, bs', e1, e2, h1, h2⟩ := h
    exact ⟨v, vs', B, bs', e1, e2, BoxRep.toP ln hn.1 h1, CapsRep.toP ln hn.2 h2⟩
theorem ObjRep.toP (ln : Bool) {t : Ty} {xs : List t.den} {V : Value} {ι : Nat → Value} {N : Nat → Prop} (hn : noPl t = true) (h : ObjRep w ok ι N (.arr t xs .fr) V) : ObjRep w (Ok.of (lentP ln ok)) ι N (.arr t xs .fr) V := by
  obtain ⟨A, cap, hV, l1, l2, h3⟩ := h
  refine ⟨A, cap, hV, l1, l2, ?_⟩
  rcases h3 with h3 | ⟨b, o, hA, C, T, fz, m1, m2, m3, ⟨us, m4, m5⟩, m6, m7⟩
  · exact .inl h3
  · refine .inr ⟨b, o, hA, C, T, fz, m1, m2, m3, ⟨us, Reps.mono (fun _ _ hr => RepD.toP (fun _ _ h => .inl h) hn hr) m4, m5⟩, (fun hm => by cases hm), fun hm => ⟨fun j hj => ⟨((m7 hm).1 j (lentP_any (of_lent hj))).1, fun k => k, fun k => k⟩, fun j hj => .inl ((m7 hm).2 j hj)⟩⟩
theorem ObjRep.toPw (ln : Bool) {t : Ty} {xs : List t.den} {V : Value} {ι : Nat → Value} {N : Nat → Prop} (hn : noPl t = true) (h : ObjRep w ok ι N (.arr t xs .wr) V) : ObjRep w (Ok.of (lentP ln ok)) ι N (.arr t xs .wr) V := by
  obtain ⟨A, cap, hV, l1, l2, h3⟩ := h
  refine ⟨A, cap, hV, l1, l2, ?_⟩
  rcases h3 with h3 | ⟨b, o, hA, C, T, fz, m1, m2, m3, ⟨us, m4, m5⟩, m6, m7⟩
  · exact .inl h3
  · exact .inr ⟨b, o, hA, C, T, fz, m1, m2, m3, ⟨us, Reps.mono (fun _ _ hr => RepD.toP (fun _ _ h => .inl h) hn hr) m4, m5⟩, fun hm j hj => m6 hm j (lentP_any (of_lent hj)), fun hm => by cases hm⟩
theorem ArgRep.toP (ln : Bool) {k : PK} {p : (tupT (pkTs k)).den} {v : Value} {bs : List Nat} (hn : pkNoPl k = true) (h : ArgRep w ok k p v bs) : ArgRep w (Ok.of (lentP ln ok)) k p v bs := by
  cases k with
  | val ag ts =>
    cases ag with
    | false => exact ⟨h.1, RepTs.toP ln hn h.2⟩
    | true => obtain ⟨h1, vs, e, h2⟩ := h; exact ⟨h1, vs, e, RepTs.toP ln hn h2⟩
  | own t => exact ⟨h.1, ObjRep.toP ln hn h.2⟩
  | ow t => exact ⟨h.1, ObjRep.toPw ln hn h.2⟩
  | box ts => obtain ⟨B, e, h2⟩ := h; exact ⟨B, e, BoxRep.toP ln hn h2⟩
  | fn f caps => obtain ⟨vs, e, h2⟩ := h; exact ⟨vs, e, CapsRep.toP ln hn h2⟩
theorem Sim.toDatL (h : Sim F ι ok N σ a w) {c : Cell} {t : Ty} {x : t.den} {v : Value} (hn : noPl t = true) (hc : c.toDatL σ t = some x) (hv : RepC w ok ι N c v) : RepD w (Ok.of (lentP true ok)) t x [v] := by
  have hq : ∀ b o, ok.p b o ∨ ok.c b o → lentP true ok b o := fun b o h => h.imp id fun h => ⟨rfl, h⟩
  have base : ∀ {c : Cell}, c.toDatS σ t = some x → RepC w ok ι N c v → RepD w (Ok.of (lentP true ok)) t x [v] := fun hc hv => RepD.toP (fun _ _ h => .inl h) hn (h.toDatS hc hv)
  cases c with
  | dat u y => exact RepD.lend hq (show u.lend t y = some x from hc) hv
  | own e id =>
    simp only [Cell.toDatL] at hc
    split at hc
    · rename_i e' xs ho
      cases hb : e'.beq e with
      | false => simp [hb] at hc
      | true =>
        simp only [hb, cond_true] at hc
        obtain ⟨_, g2, _⟩ := h.objs id _ ho
        rw [hv.2.1]
        exact RepD.lend hq hc (ObjRep.dat g2)
    · cases hc
  | _ => simp only [Cell.toDatL] at hc; exact base hc hv
theorem grabTsL_rep (h : Sim F ι ok N σ a w) : ∀ {ts : List Ty} {cs : List Cell} {x : (tupT ts).den} {vs : List Value}, noPlL ts = true → grabTsL σ ts cs = some x → All2 (RepC w ok ι N) cs vs → RepTs w (Ok.of (lentP true ok)) ts x vs
  | [], [], x, [], _, _, _ => rfl
  | [], [], x, _ :: _, _, _, hv => hv.elim
  | [], _ :: _, x, vs, _, hg, _ => by simp [grabTsL] at hg
  | _ :: _, [], x, vs, _, hg, _ => by simp [grabTsL] at hg
  | _ :: _, _ :: _, x, [], _, _, hv => hv.elim
  | t :: r, c :: cs, x, v :: vs, hn, hg, hv => by
    simp only [noPlL, Bool.and_eq_true] at hn
    simp only [grabTsL] at hg
    split at hg
    · rename_i y hy
      split at hg
      · rename_i z hz
        cases hg
        exact ⟨v, vs, rfl, by rw [thd_tcons]; exact h.toDatL hn.1 hy hv.1, by rw [ttl_tcons]; exact grabTsL_rep h hn.2 hz hv.2⟩
      · cases hg
    · cases hg

theorem All2.one {α β : Type} {Q : α → β → Prop} {a : α} {b : β} (h : Q a b) : All2 Q [a] [b] := ⟨h, trivial⟩

theorem grabArg_rep (h : Sim F ι ok N σ a w) {ln : Bool} {k : PK} (hno : pkNoPl k = true) {x : AV} {p : (tupT (pkTs k)).den} {v : Value} (hg : grabArg ln σ k x = some p) (hv : RepAV w ok ι N x v) :
    ArgRep w (Ok.of (lentP ln ok)) k p v (bsOf ι (held1 k x)) ∧ ∀ id ∈ held1 k x, ∃ o, σ.ob id = some o := by
  cases k with
  | val ag ts =>
    have e : held1 (.val ag ts) x = [] := by unfold held1; rfl
    cases ag with
    | false =>
      cases x with
      | tup l => simp [grabArg] at hg
      | val x => cases x with
        | agg cs => simp [grabArg] at hg
        | one c =>
          cases ln with
          | false => exact ⟨⟨rfl, RepTs.toP false hno (grabTs_rep h hg (All2.one hv))⟩, fun id hi => by rw [e] at hi; cases hi⟩
          | true => exact ⟨⟨rfl, grabTsL_rep h hno hg (All2.one hv)⟩, fun id hi => by rw [e] at hi; cases hi⟩
    | true =>
      cases x with
      | tup l => simp [grabArg] at hg
      | val x => cases x with
        | one c => simp [grabArg] at hg
        | agg cs =>
          obtain ⟨vs, e1, h1⟩ := hv
          cases ln with
          | false => exact ⟨⟨rfl, vs, e1, RepTs.toP false hno (grabTs_rep h hg h1)⟩, fun id hi => by rw [e] at hi; cases hi⟩
          | true => exact ⟨⟨rfl, vs, e1, grabTsL_rep h hno hg h1⟩, fun id hi => by rw [e] at hi; cases hi⟩
  | own t =>
    cases x with
    | tup l => simp [grabArg] at hg
    | val x => cases x with
      | agg cs => simp [grabArg] at hg
      | one c =>
        cases c with
        | nils =>
          change some ([] : List t.den) = some p at hg
          cases hg
          cases (show v = _ from hv)
          exact ⟨⟨rfl, none, 0, rfl, Nat.le_refl _, Nat.zero_le _, .inl ⟨rfl, rfl, rfl⟩⟩, fun id hi => by cases hi⟩
        | own e id =>
          simp only [grabArg, Cell.toOwnF] at hg
          split at hg
          · rename_i e' xs ho
            cases hb : e'.beq e with
            | false => simp [hb] at hg
            | true =>
              simp only [hb, cond_true] at hg
              obtain ⟨e1, hx⟩ := Ty.to_some hg
              cases e1; subst hx
              obtain ⟨_, g2, _⟩ := h.objs id _ ho
              rw [hv.2.1]
              exact ⟨⟨by simp [bsOf, held1], ObjRep.toP ln hno g2⟩, fun i hi => by
                have : i = id := by simpa [held1] using hi
                subst this; exact ⟨_, ho⟩⟩
          · cases hg
        | _ => simp [grabArg, Cell.toOwnF] at hg
  | ow t =>
    cases x with
    | tup l => simp [grabArg] at hg
    | val x => cases x with
      | agg cs => simp [grabArg] at hg
      | one c =>
        cases c with
        | nils =>
          change some ([] : List t.den) = some p at hg
          cases hg
          cases (show v = _ from hv)
          exact ⟨⟨rfl, none, 0, rfl, Nat.le_refl _, Nat.zero_le _, .inl ⟨rfl, rfl, rfl⟩⟩, fun id hi => by cases hi⟩
        | own e id =>
          simp only [grabArg, Cell.toOwnW] at hg
          split at hg
          · rename_i e' xs ho
            cases hb : e'.beq e with
            | false => simp [hb] at hg
            | true =>
              simp only [hb, cond_true] at hg
              obtain ⟨e1, hx⟩ := Ty.to_some hg
              cases e1; subst hx
              obtain ⟨_, g2, _⟩ := h.objs id _ ho
              rw [hv.2.1]
              exact ⟨⟨by simp [bsOf, held1], ObjRep.toPw ln hno g2⟩, fun i hi => by
                have : i = id := by simpa [held1] using hi
                subst this; exact ⟨_, ho⟩⟩
          · cases hg
        | _ => simp [grabArg, Cell.toOwnW] at hg
  | box ts =>
    cases x with
    | tup l => simp [grabArg] at hg
    | val x => cases x with
      | agg cs => simp [grabArg] at hg
      | one c =>
        cases c with
        | ptr id off =>
          simp only [grabArg] at hg
          cases hb : Nat.beq off 0 with
          | false => simp [hb] at hg
          | true =>
            simp only [hb, cond_true] at hg
            have hb := Nat.eq_of_beq_eq_true hb
            subst hb
            split at hg
            · rename_i cs hcs
              obtain ⟨B, hB, hrep⟩ := boxRep h hcs hg
              have hvi : v = ι id := by
                obtain ⟨_, B', e1, e2⟩ := hv
                rw [e2]; exact e1.symm
              rw [hvi]
              exact ⟨⟨B, by simp [bsOf, held1, hB], BoxRep.toP ln hno hrep⟩, fun i hi => by
                have : i = id := by simpa [held1] using hi
                subst this; exact ⟨_, boxCells_some hcs⟩⟩
            · cases hg
        | _ => simp [grabArg] at hg
  | fn f caps =>
    cases x with
    | tup l => simp [grabArg] at hg
    | val x => cases x with
      | agg cs => simp [grabArg] at hg
      | one c =>
        cases c with
        | fn g ps =>
          simp only [grabArg] at hg
          cases hb : Nat.beq f g with
          | false => simp [hb] at hg
          | true =>
            simp only [hb, cond_true] at hg
            have hb := Nat.eq_of_beq_eq_true hb
            subst hb
            obtain ⟨vs, e1, h1⟩ := hv
            obtain ⟨q1, q2⟩ := grabCaps_rep h hg h1
            exact ⟨⟨vs, e1, CapsRep.toP ln hno q1⟩, fun i hi => by obtain ⟨cs, hcs⟩ := q2 i hi; exact ⟨_, hcs⟩⟩
        | _ => simp [grabArg] at hg

theorem grabArgs_rep (h : Sim F ι ok N σ a w) {ln : Bool} : ∀ {ks : List PK} {xs : List AV} {p : (tupT (insL ks)).den} {vs : List Value}, parsNoPl ks = true → grabArgs ln σ ks xs = some p → All2 (RepAV w ok ι N) xs vs →
    ArgsRep w (Ok.of (lentP ln ok)) ks p vs (bsOf ι (held ks xs)) ∧ ∀ id ∈ held ks xs, ∃ o, σ.ob id = some o
  | [], [], x, [], _, _, _ => ⟨⟨rfl, rfl⟩, fun id hi => by cases hi⟩
  | [], [], x, _ :: _, _, _, hv => hv.elim
  | [], _ :: _, x, vs, _, hg, _ => by simp [grabArgs] at hg
  | _ :: _, [], x, vs, _, hg, _ => by simp [grabArgs] at hg
  | _ :: _, _ :: _, x, [], _, _, hv => hv.elim
  | k :: r, x :: xs, p, v :: vs, hno, hg, hv => by
    simp only [parsNoPl, Bool.and_eq_true] at hno
    simp only [grabArgs] at hg
    split at hg
    · rename_i y hy
      split at hg
      · rename_i z hz
        cases hg
        obtain ⟨q1, q2⟩ := grabArg_rep h hno.1 hy hv.1
        obtain ⟨q3, q4⟩ := grabArgs_rep h hno.2 hz hv.2
        refine ⟨⟨v, vs, bsOf ι (held1 k x), bsOf ι (held r xs), rfl, bsOf_app _ _ _, by rw [tfst_tapp]; exact q1, by rw [tsnd_tapp]; exact q3⟩, fun i hi => ?_⟩
        rw [held, app_eq] at hi
        rcases List.mem_append.1 hi with hi | hi
        · exact q2 i hi
        · exact q4 i hi
      · cases hg
    · cases hg

theorem grabArg_repS (h : Sim F ι ok N σ a w) {k : PK} {x : AV} {p : (tupT (pkTs k)).den} {v : Value} (hg : grabArg false σ k x = some p) (hv : RepAV w ok ι N x v) :
    ArgRep w ok k p v (bsOf ι (held1 k x)) ∧ ∀ id ∈ held1 k x, ∃ o, σ.ob id = some o := by
  cases k with
  | val ag ts =>
    have e : held1 (.val ag ts) x = [] := by unfold held1; rfl
    cases ag with
    | false =>
      cases x with
      | tup l => simp [grabArg] at hg
      | val x => cases x with
        | agg cs => simp [grabArg] at hg
        | one c =>
          exact ⟨⟨rfl, grabTs_rep h hg (All2.one hv)⟩, fun id hi => by rw [e] at hi; cases hi⟩
    | true =>
      cases x with
      | tup l => simp [grabArg] at hg
      | val x => cases x with
        | one c => simp [grabArg] at hg
        | agg cs =>
          obtain ⟨vs, e1, h1⟩ := hv
          exact ⟨⟨rfl, vs, e1, grabTs_rep h hg h1⟩, fun id hi => by rw [e] at hi; cases hi⟩
  | own t =>
    cases x with
    | tup l => simp [grabArg] at hg
    | val x => cases x with
      | agg cs => simp [grabArg] at hg
      | one c =>
        cases c with
        | nils =>
          change some ([] : List t.den) = some p at hg
          cases hg
          cases (show v = _ from hv)
          exact ⟨⟨rfl, none, 0, rfl, Nat.le_refl _, Nat.zero_le _, .inl ⟨rfl, rfl, rfl⟩⟩, fun id hi => by cases hi⟩
        | own e id =>
          simp only [grabArg, Cell.toOwnF] at hg
          split at hg
          · rename_i e' xs ho
            cases hb : e'.beq e with
            | false => simp [hb] at hg
            | true =>
              simp only [hb, cond_true] at hg
              obtain ⟨e1, hx⟩ := Ty.to_some hg
              cases e1; subst hx
              obtain ⟨_, g2, _⟩ := h.objs id _ ho
              rw [hv.2.1]
              exact ⟨⟨by simp [bsOf, held1], g2⟩, fun i hi => by
                have : i = id := by simpa [held1] using hi
                subst this; exact ⟨_, ho⟩⟩
          · cases hg
        | _ => simp [grabArg, Cell.toOwnF] at hg
  | ow t =>
    cases x with
    | tup l => simp [grabArg] at hg
    | val x => cases x with
      | agg cs => simp [grabArg] at hg
      | one c =>
        cases c with
        | nils =>
          change some ([] : List t.den) = some p at hg
          cases hg
          cases (show v = _ from hv)
          exact ⟨⟨rfl, none, 0, rfl, Nat.le_refl _, Nat.zero_le _, .inl ⟨rfl, rfl, rfl⟩⟩, fun id hi => by cases hi⟩
        | own e id =>
          simp only [grabArg, Cell.toOwnW] at hg
          split at hg
          · rename_i e' xs ho
            cases hb : e'.beq e with
            | false => simp [hb] at hg
            | true =>
              simp only [hb, cond_true] at hg
              obtain ⟨e1, hx⟩ := Ty.to_some hg
              cases e1; subst hx
              obtain ⟨_, g2, _⟩ := h.objs id _ ho
              rw [hv.2.1]
              exact ⟨⟨by simp [bsOf, held1], g2⟩, fun i hi => by
                have : i = id := by simpa [held1] using hi
                subst this; exact ⟨_, ho⟩⟩
          · cases hg
        | _ => simp [grabArg, Cell.toOwnW] at hg
  | box ts =>
    cases x with
    | tup l => simp [grabArg] at hg
    | val x => cases x with
      | agg cs => simp [grabArg] at hg
      | one c =>
        cases c with
        | ptr id off =>
          simp only [grabArg] at hg
          cases hb : Nat.beq off 0 with
          | false => simp [hb] at hg
          | true =>
            simp only [hb, cond_true] at hg
            have hb := Nat.eq_of_beq_eq_true hb
            subst hb
            split at hg
            · rename_i cs hcs
              obtain ⟨B, hB, hrep⟩ := boxRep h hcs hg
              have hvi : v = ι id := by
                obtain ⟨_, B', e1, e2⟩ := hv
                rw [e2]; exact e1.symm
              rw [hvi]
              exact ⟨⟨B, by simp [bsOf, held1, hB], hrep⟩, fun i hi => by
                have : i = id := by simpa [held1] using hi
                subst this; exact ⟨_, boxCells_some hcs⟩⟩
            · cases hg
        | _ => simp [grabArg] at hg
  | fn f caps =>
    cases x with
    | tup l => simp [grabArg] at hg
    | val x => cases x with
      | agg cs => simp [grabArg] at hg
      | one c =>
        cases c with
        | fn g ps =>
          simp only [grabArg] at hg
          cases hb : Nat.beq f g with
          | false => simp [hb] at hg
          | true =>
            simp only [hb, cond_true] at hg
            have hb := Nat.eq_of_beq_eq_true hb
            subst hb
            obtain ⟨vs, e1, h1⟩ := hv
            obtain ⟨q1, q2⟩ := grabCaps_rep h hg h1
            exact ⟨⟨vs, e1, q1⟩, fun i hi => by obtain ⟨cs, hcs⟩ := q2 i hi; exact ⟨_, hcs⟩⟩
        | _ => simp [grabArg] at hg

theorem grabArgs_repS (h : Sim F ι ok N σ a w) : ∀ {ks : List PK} {xs : List AV} {p : (tupT (insL ks)).den} {vs : List Value}, grabArgs false σ ks xs = some p → All2 (RepAV w ok ι N) xs vs →
    ArgsRep w ok ks p vs (bsOf ι (held ks xs)) ∧ ∀ id ∈ held ks xs, ∃ o, σ.ob id = some o
  | [], [], x, [], _, _ => ⟨⟨rfl, rfl⟩, fun id hi => by cases hi⟩
  | [], [], x, _ :: _, _, hv => hv.elim
  | [], _ :: _, x, vs, hg, _ => by simp [grabArgs] at hg
  | _ :: _, [], x, vs, hg, _ => by simp [grabArgs] at hg
  | _ :: _, _ :: _, x, [], _, hv => hv.elim
  | k :: r, x :: xs, p, v :: vs, hg, hv => by
    simp only [grabArgs] at hg
    split at hg
    · rename_i y hy
      split at hg
      · rename_i z hz
        cases hg
        obtain ⟨q1, q2⟩ := grabArg_repS h hy hv.1
        obtain ⟨q3, q4⟩ := grabArgs_repS h hz hv.2
        refine ⟨⟨v, vs, bsOf ι (held1 k x), bsOf ι (held r xs), rfl, bsOf_app _ _ _, by rw [tfst_tapp]; exact q1, by rw [tsnd_tapp]; exact q3⟩, fun i hi => ?_⟩
        rw [held, app_eq] at hi
        rcases List.mem_append.1 hi with hi | hi
        · exact q2 i hi
        · exact q4 i hi
      · cases hg
    · cases hg

theorem memB_iff (n : Nat) : ∀ l : List Nat, memB n l = true ↔ n ∈ l
  | [] => by simp [memB]
  | a :: r => by
    simp only [memB, Bool.or_eq_true, memB_iff n r, List.mem_cons]
    constructor
    · rintro (h | h)
      · exact .inl (Nat.eq_of_beq_eq_true h).symm
      · exact .inr h
    · rintro (h | h)
      · subst h; simp
      · exact .inr h

theorem nodupB_iff : ∀ l : List Nat, nodupB l = true ↔ l.Nodup
  | [] => by simp [nodupB]
  | a :: r => by
    simp only [nodupB, Bool.and_eq_true, Bool.not_eq_true', nodupB_iff r, List.nodup_cons]
    constructor
    · rintro ⟨h1, h2⟩
      exact ⟨(fun hm => by rw [(memB_iff a r).2 hm] at h1; cases h1), h2⟩
    · rintro ⟨h1, h2⟩
      refine ⟨?_, h2⟩
      cases hm : memB a r with
      | false => rfl
      | true => exact absurd ((memB_iff a r).1 hm) h1

/-- Objects lie apart. -/
theorem Sim.nodup (h : Sim F ι ok N σ a w) : ∀ {ids : List Nat}, ids.Nodup → (∀ id ∈ ids, ∃ o, σ.ob id = some o) → (bsOf ι ids).Nodup
  | [], _, _ => by simp [bsOf]
  | i :: r, hn, ho => by
    rw [List.nodup_cons] at hn
    have ih := Sim.nodup h hn.2 (fun id hi => ho id (List.mem_cons_of_mem _ hi))
    show ((blk (ι i)).toList ++ bsOf ι r).Nodup
    rw [List.nodup_append]
    refine ⟨by cases blk (ι i) <;> simp, ih, fun b hb c hc e => ?_⟩
    subst e
    have hb : blk (ι i) = some b := by simpa using hb
    simp only [bsOf, List.mem_flatMap] at hc
    obtain ⟨j, hj, hbj⟩ := hc
    have hbj : blk (ι j) = some b := by simpa using hbj
    obtain ⟨o1, h1⟩ := ho i (by simp)
    obtain ⟨o2, h2⟩ := ho j (List.mem_cons_of_mem _ hj)
    exact h.apart i j o1 o2 b h1 h2 (fun e => hn.1 (e ▸ hj)) hb hbj
end
end Go.Abs

/- Abs, part S: calls, II: what comes back. -/
namespace Go.Abs

section
variable {P : Program} {R : Type} {F : Fr} {ι : Nat → Value} {ok : Ok} {N : Nat → Prop} {σ : St} {a : Act} {w : World} {o : Oper} {r : R}

/-- A call has come back: what was not handed over is as it was. -/
theorem Sim.after (h : Sim F ι ok N σ a w) {bs : List Nat} {ok1 : Ok} {ok2 : Ok} {w' : World} (hk : Keeps ⟨w, bs, ok1, []⟩ ok2 w') {okB : Ok} (hx : Ext w ok w' okB)
    (hbs : ∀ b ∈ bs, F.w0.heap.size ≤ b ∨ b ∈ F.S) (hA : ∀ b, b < w.heap.size → b ∉ bs → okB.At ok b) (hB : ∀ b j, okB b j → ok b j ∨ w.heap.size ≤ b ∨ b ∈ bs)
    (hpl : Pls F okB w') (hlt : ∀ b j, okB b j → b < w'.heap.size) {σ' : St} (htm : ∀ t, σ'.get t = σ.get t) (hn : σ'.n = σ.n)
    (hob : ∀ i p, σ'.ob i = some p → σ.ob i = some p ∧ ∀ b, blk (ι i) = some b → b ∉ bs) : Sim F ι okB N σ' a w' := by
  refine ⟨fun t => by rw [htm]; exact RepAV.mono hx (fun _ _ => rfl) (fun _ h => h) (h.tms t), fun i p hp => ?_, fun i j p q b hp hq => h.apart i j p q b (hob i p hp).1 (hob j q hq).1, hlt, ?_, by rw [hn]; exact h.size, h.defs, h.pins, hpl⟩
  · obtain ⟨g0, gb⟩ := hob i p hp
    obtain ⟨g1, g2, g3⟩ := h.objs i p g0
    refine ⟨g1, ObjRep.mono hx (fun _ _ => rfl) (fun _ h => h) (fun b hb => ?_) g2, g3⟩
    have hbl := g2.lt hb
    exact ⟨hk.old b hbl (gb b hb), hA b hbl (gb b hb)⟩
  · obtain ⟨k1, k2, k3, k4, k5, k6, k7⟩ := h.keep
    obtain ⟨m1, m2, m3, m4, m5, m6, m7⟩ := hk
    refine ⟨Nat.le_trans k1 m1, fun b hb hs => ?_, m3.trans k3, m4.trans k4, m5.trans k5, fun b j hj => ⟨(hx.1 b j (k6 b j hj).1).1, ?_⟩, fun b j hj => ?_⟩
    · rw [m2 b (Nat.lt_of_lt_of_le hb k1) (fun hm => by
        rcases hbs b hm with h | h
        · exact absurd hb (Nat.not_lt.2 h)
        · exact hs h)]
      exact k2 b hb hs
    · rw [(hx.1 b j (k6 b j hj).1).2]; exact (k6 b j hj).2
    · rcases hB b j hj with hh | hh | hh
      · exact k7 b j hh
      · exact .inr (.inl (Nat.le_trans k1 hh))
      · exact .inr (hbs b hh)

/-- A box comes back. 'τ' is the state before the call. -/
theorem Sim.back {τ : St} {okT : Ok} {wT : World} (hT : Sim F ι okT N τ a wT) (h : Sim F ι ok N σ a w) (hsub : ∀ i p, σ.ob i = some p → ∃ p', τ.ob i = some p')
    {id : Nat} {o0 o1 : AO} (hid : τ.ob id = some o0) (ho : ObjRep w ok ι N o1 (ι id)) : Sim F ι ok N (σ.set id o1) a w ∧ ∀ i p, (σ.set id o1).ob i = some p → ∃ p', τ.ob i = some p' := by
  have hs : ∀ i p, (σ.set id o1).ob i = some p → ∃ p', τ.ob i = some p' := fun i p hp => by
    rw [St.ob_set] at hp
    split at hp
    · rename_i e; subst e; exact ⟨o0, hid⟩
    · exact hsub i p hp
  refine ⟨⟨h.tms, fun i p hp => ?_, fun i j p q b hp hq hij hbi hbj => ?_, h.oks, h.keep, h.size, h.defs, h.pins, h.pls⟩, hs⟩
  · rw [St.ob_set] at hp
    split at hp
    · rename_i e; subst e; cases hp
      obtain ⟨g1, _, g3⟩ := hT.objs id o0 hid
      exact ⟨g1, ho, g3⟩
    · exact h.objs i p hp
  · obtain ⟨p', hp'⟩ := hs i p hp
    obtain ⟨q', hq'⟩ := hs j q hq
    exact hT.apart i j p' q' b hp' hq' hij hbi hbj

theorem St.set_get (σ : St) (id : Nat) (o : AO) (t : Nat) : (σ.set id o).get t = σ.get t := rfl

/-- Data in a row, as cells. -/
theorem datCells_rep : ∀ {ts : List Ty} {x : (tupT ts).den} {vs : List Value}, RepTs w ok ts x vs → All2 (RepC w ok ι N) (datCells ts x) vs
  | [], x, vs, h => by cases (show vs = [] from h); trivial
  | t :: r, x, vs, ⟨v, vs', e, h1, h2⟩ => by subst e; exact ⟨h1, datCells_rep h2⟩

theorem BoxRep.obj {ts : List Ty} {x : (tupT ts).den} {v : Value} {B : Nat} (h : BoxRep w ok ts x v B) : ObjRep w ok ι N (.box (datCells ts x)) v := by
  obtain ⟨e, c, T, h1, h2, h3⟩ := h
  exact ⟨B, c, T, e, h1, datCells_rep h2, h3⟩

structure Backs (F : Fr) (ι : Nat → Value) (ok : Ok) (N : Nat → Prop) (τ : St) (BB : List Nat) (σ : St) (a : Act) (w : World) (σ0 : St) : Prop where
  sim : Sim F ι ok N σ a w
  sub : ∀ i p, σ.ob i = some p → ∃ p', τ.ob i = some p'
  frm : OpFrm σ0 σ
  bb : ∀ i p, σ.ob i = some p → σ0.ob i = some p ∨ ∀ b, blk (ι i) = some b → b ∈ BB

theorem Backs.refl {τ : St} {σ : St} {BB : List Nat} (h : Sim F ι ok N σ a w) (hs : ∀ i p, σ.ob i = some p → ∃ p', τ.ob i = some p') : Backs F ι ok N τ BB σ a w σ :=
  ⟨h, hs, OpFrm.refl _, fun _ _ h => .inl h⟩

theorem Backs.step {τ : St} {okT : Ok} {wT : World} (hT : Sim F ι okT N τ a wT) {BB : List Nat} {σ σ0 : St} (h : Backs F ι ok N τ BB σ a w σ0) {id off : Nat} {o0 : AO} (h0 : τ.ob id = some o0)
    {ts : List Ty} {x : (tupT ts).den} {v : Value} {B : Nat} (hp : ptrAt ι N (id, off) v) (hb : BoxRep w ok ts x v B) (hBB : ∀ b, blk v = some b → b ∈ BB) : Backs F ι ok N τ BB (σ.set id (.box (datCells ts x))) a w σ0 := by
  have hvi : v = ι id := by
    obtain ⟨_, B', e1, e2⟩ := hp
    have := hb.1
    rw [e2] at this; cases this
    rw [e2]; exact e1.symm
  rw [hvi] at hb
  obtain ⟨h1, h2⟩ := Sim.back hT h.sim h.sub h0 hb.obj
  refine ⟨h1, h2, h.frm.trans (OpFrm.set _ _ _), fun i p hp => ?_⟩
  rw [St.ob_set] at hp
  split at hp
  · rename_i e; subst e; exact .inr (fun b hb => hBB b (by rw [hvi]; exact hb))
  · exact h.bb i p hp

theorem setCaps_ok {τ : St} {okT : Ok} {wT : World} (hT : Sim F ι okT N τ a wT) {BB : List Nat} : ∀ {caps : List (List Ty)} {ps : List (Nat × Nat)} {x : (tupT (concatT caps)).den} {vs : List Value} {σ σ0 : St},
    Backs F ι ok N τ BB σ a w σ0 → CapsOut w ok caps x vs → All2 (ptrAt ι N) ps vs → (∀ id ∈ fsts ps, ∃ o, τ.ob id = some o) → (∀ v ∈ vs, ∀ b, blk v = some b → b ∈ BB) → Backs F ι ok N τ BB (setCaps σ caps ps x) a w σ0
  | [], ps, x, vs, σ, σ0, h, _, _, _, _ => by cases ps <;> exact h
  | ts :: r, [], x, vs, σ, σ0, h, _, _, _, _ => h
  | ts :: r, (id, off) :: ps, x, vs, σ, σ0, h, ⟨v, vs', B, e, hb, hr⟩, hp, ho, hbx => by
    subst e
    obtain ⟨o0, h0⟩ := ho id (by simp [fsts])
    have h1 := h.step hT h0 hp.1 hb (hbx v (by simp))
    exact setCaps_ok hT (caps := r) (ps := ps) (x := tsnd ts (concatT r) x) h1 hr hp.2 (fun i hi => ho i (by rw [fsts]; exact List.mem_cons_of_mem _ hi)) (fun v hv => hbx v (List.mem_cons_of_mem _ hv))

theorem setBoxes_ok {τ : St} {okT : Ok} {wT : World} (hT : Sim F ι okT N τ a wT) {BB : List Nat} : ∀ {ks : List PK} {xs : List AV} {p : (tupT (outsP ks)).den} {vs : List Value} {σ σ0 : St},
    Backs F ι ok N τ BB σ a w σ0 → OutsRep w ok ks p vs → All2 (RepAV wT okT ι N) xs vs → (∀ id ∈ held ks xs, ∃ o, τ.ob id = some o) → (∀ b ∈ boxBs ks vs, b ∈ BB) →
    Backs F ι ok N τ BB (setBoxes σ ks xs p) a w σ0
  | [], xs, p, vs, σ, σ0, h, _, _, _, _ => by cases xs <;> exact h
  | .val ag ts :: r, [], p, vs, σ, σ0, h, _, _, _, _ => h
  | .own t :: r, [], p, vs, σ, σ0, h, _, _, _, _ => h
  | .ow t :: r, [], p, vs, σ, σ0, h, _, _, _, _ => h
  | .box ts :: r, [], p, vs, σ, σ0, h, _, _, _, _ => h
  | .fn f caps :: r, [], p, vs, σ, σ0, h, _, _, _, _ => h
  | .val ag ts :: r, x :: xs, p, vs, σ, σ0, h, ⟨v, vs', e, hr⟩, hx, ho, hb => by
    subst e
    exact setBoxes_ok hT (ks := r) (xs := xs) (p := p) h hr hx.2 (fun i hi => ho i (by rw [held, app_eq]; exact List.mem_append_right _ hi)) (fun b hb' => hb b (by simpa [boxBs] using hb'))
  | .own t :: r, x :: xs, p, vs, σ, σ0, h, ⟨v, vs', e, hr⟩, hx, ho, hb => by
    subst e
    exact setBoxes_ok hT (ks := r) (xs := xs) (p := p) h hr hx.2 (fun i hi => ho i (by rw [held, app_eq]; exact List.mem_append_right _ hi)) (fun b hb' => hb b (by simpa [boxBs] using hb'))
  | .ow t :: r, x :: xs, p, vs, σ, σ0, h, ⟨v, vs', e, hr⟩, hx, ho, hb => by
    subst e
    exact setBoxes_ok hT (ks := r) (xs := xs) (p := p) h hr hx.2 (fun i hi => ho i (by rw [held, app_eq]; exact List.mem_append_right _ hi)) (fun b hb' => hb b (by simpa [boxBs] using hb'))
  | .box ts :: r, x :: xs, p, vs, σ, σ0, h, ⟨v, vs', B, e, hbox, hr⟩, hx, ho, hb => by
    subst e
    have hb2 : ∀ b ∈ boxBs r vs', b ∈ BB := fun b hb' => hb b (by simp [boxBs, hb'])
    cases x with
    | tup l => exact h
    | val x => cases x with
      | agg cs => exact h
      | one c =>
        cases c with
        | ptr id off =>
          obtain ⟨o0, h0⟩ := ho id (by simp [held, held1, app_eq])
          have h1 := h.step hT h0 hx.1 hbox (fun b hb' => hb b (by simp [boxBs, hb']))
          exact setBoxes_ok hT (ks := r) (xs := xs) (p := tsnd ts (outsP r) p) h1 hr hx.2 (fun i hi => ho i (by rw [held, app_eq]; exact List.mem_append_right _ hi)) hb2
        | _ => exact h
  | .fn f caps :: r, x :: xs, p, vs, σ, σ0, h, ⟨vs1, vs', v, e, ev, hc, hr⟩, hx, ho, hb => by
    subst e
    subst ev
    have hb2 : ∀ b ∈ boxBs r vs', b ∈ BB := fun b hb' => hb b (by simp [boxBs, hb'])
    cases x with
    | tup l => exact h
    | val x => cases x with
      | agg cs => exact h
      | one c =>
        cases c with
        | fn g ps =>
          obtain ⟨vs2, e2, h2⟩ := hx.1
          have e3 : vs1 = vs2 := by
            injection e2 with _ _ h3
            simpa using congrArg Array.toList h3
          subst e3
          have h1 := setCaps_ok hT (x := tfst (concatT caps) (outsP r) p) h hc h2 (fun i hi => ho i (by rw [held, app_eq]; exact List.mem_append_left _ hi)) (fun v hv b hb' => hb b (by
            simp only [boxBs, List.mem_append, List.mem_flatMap]
            exact .inl ⟨v, by simpa using hv, by simpa using hb'⟩))
          exact setBoxes_ok hT (ks := r) (xs := xs) (p := tsnd (concatT caps) (outsP r) p) h1 hr hx.2 (fun i hi => ho i (by rw [held, app_eq]; exact List.mem_append_right _ hi)) hb2
        | _ => exact h
end
end Go.Abs

/- Abs, part T: calls, III: results. -/
namespace Go.Abs

/-! ## What comes back, as the caller tells it -/
theorem hasSlL_app : ∀ (a b : List Ty), hasSlL (app a b) = (hasSlL a || hasSlL b)
  | [], b => by simp [app, hasSlL]
  | t :: r, b => by simp [app, hasSlL, hasSlL_app r b, Bool.or_assoc]
theorem holdsL_app : ∀ (a b : List Ty), holdsL (app a b) = (holdsL a || holdsL b)
  | [], b => by simp [app, holdsL]
  | t :: r, b => by simp [app, holdsL, holdsL_app r b, Bool.or_assoc]

section
variable {w : World} {ok ok' : Ok}
/-- What holds on to nothing that is told for good. -/
theorem RepD.noP (hc : ∀ b o, ok.c b o → ok'.c b o) (hd : ∀ b o, ok.d b o → ok'.d b o) : ∀ {t : Ty}, holds t = false → ∀ {x : t.den} {vs : List Value}, RepD w ok t x vs → RepD w ok' t x vs := by
  intro t
  induction t with
  | int k => intro _ x vs h; exact h
  | bool => intro _ x vs h; exact h
  | str => intro _ x vs h; exact h
  | sl e ih => intro hf; simp [holds] at hf
  | pr a b iha ihb => intro hf x vs h; simp [holds] at hf; obtain ⟨v1, v2, e, h1, h2⟩ := h; exact ⟨v1, v2, e, iha hf.1 h1, ihb hf.2 h2⟩
  | un => intro _ x vs h; exact h
  | pl q =>
    intro _ x vs h
    cases q with
    | false =>
      obtain ⟨a, c, e1, h1, h2, h3⟩ := h
      refine ⟨a, c, e1, h1, h2, ?_⟩
      rcases h3 with h3 | ⟨b, o, ha, us, hr, hat, hk⟩
      · exact .inl h3
      · exact .inr ⟨b, o, ha, us, hr, hat, fun j hj => hc _ _ (hk j hj)⟩
    | true =>
      obtain ⟨a, c, e1, h1, h2, h3⟩ := h
      refine ⟨a, c, e1, h1, h2, ?_⟩
      rcases h3 with h3 | ⟨b, o, ha, hk⟩
      · exact .inl h3
      · exact .inr ⟨b, o, ha, fun j hj => hd _ _ (hk j hj)⟩

/-- How the caller tells what a callee told: sl: all that is told for good, too. -/
structure Conv (w : World) (sl : Bool) (Q : Nat → Prop) (ok ok' : Ok) : Prop where
  c : ∀ b o, ok.c b o → ok'.c b o
  d : ∀ b o, ok.d b o → ok'.d b o
  p : sl = true → ∀ b o, ok.p b o → ok'.p b o
  at' : ∀ b, Q b → ok'.At ok b
variable {sl : Bool} {Q : Nat → Prop}
theorem Conv.dat (h : Conv w sl Q ok ok') {t : Ty} (hs : sl = true ∨ holds t = false) {x : t.den} {vs : List Value} (hr : RepD w ok t x vs) : RepD w ok' t x vs := by
  rcases hs with hs | hs
  · exact RepD.ext (Ext.of ⟨h.p hs, h.c, h.d⟩ fun _ _ _ => rfl) hr
  · exact RepD.noP h.c h.d hs hr
theorem Conv.ts (h : Conv w sl Q ok ok') : ∀ {ts : List Ty}, (sl = true ∨ holdsL ts = false) → ∀ {x : (tupT ts).den} {vs : List Value}, RepTs w ok ts x vs → RepTs w ok' ts x vs
  | [], _, _, _, h => h
  | t :: r, hf, x, vs, ⟨v, vs', e, h1, h2⟩ => by
    have hf1 : (sl = true ∨ holds t = false) ∧ (sl = true ∨ holdsL r = false) := by
      rcases hf with hf | hf
      · exact ⟨.inl hf, .inl hf⟩
      · simp only [holdsL, Bool.or_eq_false_iff] at hf
        exact ⟨.inr hf.1, .inr hf.2⟩
    exact ⟨v, vs', e, h.dat hf1.1 h1, h.ts hf1.2 h2⟩
theorem Conv.box (h : Conv w sl Q ok ok') {ts : List Ty} (hf : sl = true ∨ holdsL ts = false) {x : (tupT ts).den} {v : Value} {B : Nat} (hb : BoxRep w ok ts x v B) (hB : Q B) : BoxRep w ok' ts x v B := by
  obtain ⟨e, c, T, h1, h2, h3⟩ := hb
  exact ⟨e, c, T, h1, h.ts hf h2, fun j hj => h3 j ((h.at' B hB).any j hj)⟩
theorem orL {sl a b : Bool} (h : sl = true ∨ (a || b) = false) : (sl = true ∨ a = false) ∧ (sl = true ∨ b = false) := by
  rcases h with h | h
  · exact ⟨.inl h, .inl h⟩
  · rw [Bool.or_eq_false_iff] at h
    exact ⟨.inr h.1, .inr h.2⟩
theorem Conv.caps (h : Conv w sl Q ok ok') : ∀ {caps : List (List Ty)}, (sl = true ∨ holdsL (concatT caps) = false) → ∀ {x : (tupT (concatT caps)).den} {vs : List Value}, (∀ v ∈ vs, ∀ b, blk v = some b → Q b) → CapsOut w ok caps x vs → CapsOut w ok' caps x vs
  | [], _, _, _, _, h => h
  | ts :: r, hf, x, vs, hq, ⟨v, vs', B, e, h1, h2⟩ => by
    rw [concatT, holdsL_app] at hf
    obtain ⟨f1, f2⟩ := orL hf
    subst e
    exact ⟨v, vs', B, rfl, h.box f1 h1 (hq v (by simp) B (by rw [h1.1]; rfl)), h.caps f2 (fun u hu => hq u (List.mem_cons_of_mem _ hu)) h2⟩
theorem Conv.outs (h : Conv w sl Q ok ok') : ∀ {ks : List PK}, (sl = true ∨ holdsL (outsP ks) = false) → ∀ {x : (tupT (outsP ks)).den} {vs : List Value}, (∀ b ∈ boxBs ks vs, Q b) → OutsRep w ok ks x vs → OutsRep w ok' ks x vs
  | [], _, _, _, _, h => h
  | .box ts :: r, hf, x, vs, hq, ⟨v, vs', B, e, h1, h2⟩ => by
    rw [outsP, holdsL_app] at hf
    obtain ⟨f1, f2⟩ := orL hf
    subst e
    exact ⟨v, vs', B, rfl, h.box f1 h1 (hq B (by rw [h1.1]; simp [boxBs, blk])), h.outs f2 (fun b hb => hq b (by simp [boxBs, hb])) h2⟩
  | .fn f caps :: r, hf, x, vs, hq, ⟨vs1, vs', v, e, e2, h1, h2⟩ => by
    rw [outsP, holdsL_app] at hf
    obtain ⟨f1, f2⟩ := orL hf
    subst e; subst e2
    refine ⟨vs1, vs', _, rfl, rfl, h.caps f1 (fun v hv b hb => hq b ?_) h1, h.outs f2 (fun b hb => hq b (by simp [boxBs, hb])) h2⟩
    simp only [boxBs, List.mem_append, List.mem_flatMap]
    exact .inl ⟨v, by simpa using hv, by simpa using hb⟩
  | .val _ _ :: r, hf, x, vs, hq, ⟨v, vs', e, h2⟩ => by
    rw [outsP, holdsL_app] at hf
    subst e
    exact ⟨v, vs', rfl, h.outs (orL hf).2 (fun b hb => hq b (by simpa [boxBs] using hb)) h2⟩
  | .own _ :: r, hf, x, vs, hq, ⟨v, vs', e, h2⟩ => by
    rw [outsP, holdsL_app] at hf
    subst e
    exact ⟨v, vs', rfl, h.outs (orL hf).2 (fun b hb => hq b (by simpa [boxBs] using hb)) h2⟩
  | .ow _ :: r, hf, x, vs, hq, ⟨v, vs', e, h2⟩ => by
    rw [outsP, holdsL_app] at hf
    subst e
    exact ⟨v, vs', rfl, h.outs (orL hf).2 (fun b hb => hq b (by simpa [boxBs] using hb)) h2⟩

theorem noC {w' : World} {c : Cell} {v : Value} (h : RepC w ok noι noN c v) (hf : ∀ t x, c ≠ .dat t x) (hg : ∀ t x o, c ≠ .vptr t x o) (hw : c ≠ .wptr) : RepC w' ok' noι noN c v := by
  cases c with
  | any => trivial
  | skip => exact h
  | dat t x => exact absurd rfl (hf t x)
  | nils => exact h
  | nilp => exact h
  | own t id => exact h.1.elim
  | ptr id off => exact h.1.elim
  | vptr t x off => exact absurd rfl (hg t x off)
  | eptr t id i off => exact h.1.elim
  | win t id lo n => exact h.1.elim
  | bsl id n => exact h.1.elim
  | wptr => exact absurd rfl hw
  | wint => exact h
  | nilf => exact h
  | fn f caps => exact h
theorem RepE.flat {ag : Bool} {t : Ty} (hf : hasSl t = false) {x : t.den} {v : Value} (h : RepE w ok ag t x v) : RepE w ok' ag t x v := by
  cases ag with
  | false => exact RepD.flat hf h
  | true => obtain ⟨vs, e, h1⟩ := h; exact ⟨vs, e, RepD.flat hf h1⟩
theorem MpRep.flat {ka va : Bool} {t : Ty} {xs : List t.den} {V : Value} (hle : ∀ b, blk V = some b → ∀ j, ok' b j → ok b j) (h : MpRep w ok ka va t xs V) : MpRep w ok' ka va t xs V := by
  obtain ⟨b, es, clock, rfl, h1, h2, h3, h4⟩ := h
  refine ⟨b, es, clock, rfl, h1, All2.mono (fun x y hx => ?_) h2, fun j hj => h3 j (hle b rfl j hj), h4⟩
  cases t with
  | pr k v => exact ⟨hx.1, hx.2.1, RepE.flat hx.1 hx.2.2.1, RepE.flat hx.2.1 hx.2.2.2⟩
  | _ => exact hx.elim
def muFree (t : Ty) : MK → Bool
  | .wr => !holds t
  | .mp _ _ => true
  | _ => false
theorem Conv.obj (h : Conv w sl Q ok ok') {t : Ty} {xs : List t.den} {mu : MK} {V : Value} {ι : Nat → Value} {N : Nat → Prop} (hs : sl = true ∨ muFree t mu = true) (hq : ∀ b, blk V = some b → Q b)
    (ho : ObjRep w ok ι N (.arr t xs mu) V) : ObjRep w ok' ι N (.arr t xs mu) V := by
  cases mu with
  | mp ka va => exact MpRep.flat (fun b hb j hj => (h.at' b (hq b hb)).any j hj) ho
  | cp c =>
    have hs : sl = true := by simpa [muFree] using hs
    exact ObjRep.mono (Ext.of ⟨h.p hs, h.c, h.d⟩ fun _ _ _ => rfl) (fun _ _ => rfl) (fun _ h => h) (fun b hb => ⟨rfl, h.at' b (hq b hb)⟩) ho
  | fr =>
    have hs : sl = true := by simpa [muFree] using hs
    exact ObjRep.mono (Ext.of ⟨h.p hs, h.c, h.d⟩ fun _ _ _ => rfl) (fun _ _ => rfl) (fun _ h => h) (fun b hb => ⟨rfl, h.at' b (hq b hb)⟩) ho
  | wr =>
    have hs : sl = true ∨ holds t = false := by simpa [muFree] using hs
    obtain ⟨a, cap, e, h1, h2, h3⟩ := ho
    subst e
    refine ⟨a, cap, rfl, h1, h2, ?_⟩
    rcases h3 with h3 | ⟨b, o, rfl, c, T, fz, k1, k2, k3, ⟨us, k4, k5⟩, k6, _⟩
    · exact .inl h3
    · exact .inr ⟨b, o, rfl, c, T, fz, k1, k2, k3, ⟨us, Reps.mono (fun _ _ hx => h.dat hs hx) k4, k5⟩, fun hm j hj => k6 hm j ((h.at' b (hq b rfl)).any j hj), fun hm => by cases hm⟩
theorem Conv.cks (h : Conv w sl Q ok ok') : ∀ {ks : List CK}, (sl = true ∨ ckSl ks = false) → cstB ks = true → ∀ {p : (tupT (pay ks)).den} {vs : List Value} {bs : List Nat}, (∀ b ∈ bs, Q b) → CksRep w ok ks p vs bs → CksRep w ok' ks p vs bs
  | [], _, _, _, _, _, _, h => h
  | .cst c :: ks, hf, hc, p, vs, bs, hq, ⟨v, vs', e, h1, h2⟩ => by
    have hc1 : (∀ t x, c ≠ .dat t x) ∧ (∀ t x o, c ≠ .vptr t x o) ∧ c ≠ .wptr ∧ cstB ks = true := by
      cases c with
      | fn f caps => cases caps <;> simp_all [cstB]
      | _ => simp_all [cstB]
    exact ⟨v, vs', e, noC h1 hc1.1 hc1.2.1 hc1.2.2.1, h.cks (ks := ks) (by simpa [ckSl] using hf) hc1.2.2.2 hq h2⟩
  | .dat t :: ks, hf, hc, p, vs, bs, hq, ⟨v, vs', e, h1, h2⟩ => by
    obtain ⟨f1, f2⟩ := orL (show sl = true ∨ (holds t || ckSl ks) = false by simpa [ckSl] using hf)
    exact ⟨v, vs', e, h.dat f1 h1, h.cks f2 (by simpa [cstB] using hc) hq h2⟩
  | .own t tg mu :: ks, hf, hc, p, vs, bs, hq, ⟨v, vs', bs', e1, e2, h1, h2⟩ => by
    subst e2
    have hq1 : ∀ b, blk v = some b → Q b := fun b hb => hq b (by simp [hb])
    have hq2 : ∀ b ∈ bs', Q b := fun b hb => hq b (by simp [hb])
    have hf1 : (sl = true ∨ muFree t mu = true) ∧ (sl = true ∨ ckSl ks = false) := by
      rcases hf with hf | hf
      · exact ⟨.inl hf, .inl hf⟩
      · cases mu with
        | fr => simp [ckSl] at hf
        | cp c => simp [ckSl] at hf
        | wr => simp only [ckSl, Bool.or_eq_false_iff] at hf; exact ⟨.inr (by simp [muFree, hf.1]), .inr hf.2⟩
        | mp ka va => exact ⟨.inr rfl, .inr (by simpa [ckSl] using hf)⟩
    exact ⟨v, vs', bs', e1, rfl, h.obj hf1.1 hq1 h1, h.cks hf1.2 (by simpa [cstB] using hc) hq2 h2⟩
theorem Conv.res (h : Conv w sl Q ok ok') : ∀ {l : List (Bool × List CK)}, (sl = true ∨ resSl l = false) → resCst l = true → ∀ {p : (tupT (resTs l)).den} {vs : List Value} {bs : List Nat}, (∀ b ∈ bs, Q b) → ResRep w ok l p vs bs → ResRep w ok' l p vs bs
  | [], _, _, _, _, _, _, h => h
  | (ag, ks) :: r, hf, hc, p, vs, bs, hq, ⟨v, vs', b1, b2, e1, e2, h1, h2⟩ => by
    obtain ⟨f1, f2⟩ := orL (show sl = true ∨ (ckSl ks || resSl r) = false by simpa [resSl] using hf)
    simp only [resCst, Bool.and_eq_true] at hc
    subst e2
    refine ⟨v, vs', b1, b2, e1, rfl, ?_, h.res f2 hc.2 (fun b hb => hq b (by simp [hb])) h2⟩
    cases ag with
    | false => exact ⟨h1.1, h.cks f1 hc.1 (fun b hb => hq b (by simp [hb])) h1.2⟩
    | true => obtain ⟨us, e3, h3⟩ := h1; exact ⟨us, e3, h.cks f1 hc.1 (fun b hb => hq b (by simp [hb])) h3⟩
end

/-! ## New objects -/
section
variable {P : Program} {R : Type} {F : Fr} {ι : Nat → Value} {ok : Ok} {N : Nat → Prop} {σ : St} {a : Act} {w : World} {o : Oper} {r : R}

theorem noC_rep {c : Cell} {v : Value} (h : RepC w ok noι noN c v) : RepC w ok ι N c v := by
  cases c with
  | any => trivial
  | skip => exact h
  | dat t x => exact h
  | nils => exact h
  | nilp => exact h
  | own t id => exact h.1.elim
  | ptr id off => exact h.1.elim
  | vptr t x off => exact h
  | eptr t id i off => exact h.1.elim
  | win t id lo n => exact h.1.elim
  | bsl id n => exact h.1.elim
  | wptr => exact h
  | wint => exact h
  | nilf => exact h
  | fn f caps =>
    obtain ⟨vs, e, h⟩ := h
    refine ⟨vs, e, All2.mono (fun c v hc => hc.1.elim) h⟩

structure Grown (F : Fr) (ι : Nat → Value) (ok : Ok) (N : Nat → Prop) (a : Act) (w : World) (σ : St) (nb k : Nat) (bs : List Nat) (ι' : Nat → Value) (N' : Nat → Prop) (σ' : St) : Prop where
  sim : Sim F ι' ok N' σ' a w
  same : ∀ i, N i → ι' i = ι i
  le : ∀ i, N i → N' i
  ge : ∀ i, N' i → N i ∨ (nb ≤ i ∧ i < nb + k)
  frm : OpFrm σ σ'
  bb : ∀ i p, σ'.ob i = some p → σ.ob i = some p ∨ ∀ b, blk (ι' i) = some b → b ∈ bs

theorem Grown.refl (h : Sim F ι ok N σ a w) (nb : Nat) : Grown F ι ok N a w σ nb 0 [] ι N σ := ⟨h, fun _ _ => rfl, fun _ h => h, fun _ h => .inl h, OpFrm.refl _, fun _ _ h => .inl h⟩

theorem Grown.trans {nb k k' : Nat} {b1 b2 : List Nat} {ι1 ι2 : Nat → Value} {N1 N2 : Nat → Prop} {σ1 σ2 : St} (h : Grown F ι ok N a w σ nb k b1 ι1 N1 σ1) (h' : Grown F ι1 ok N1 a w σ1 (nb + k) k' b2 ι2 N2 σ2) :
    Grown F ι ok N a w σ nb (k + k') (b1 ++ b2) ι2 N2 σ2 :=
  ⟨h'.sim, fun i hi => (h'.same i (h.le i hi)).trans (h.same i hi), fun i hi => h'.le i (h.le i hi), fun i hi => by
    rcases h'.ge i hi with hh | hh
    · rcases h.ge i hh with h2 | h2
      · exact .inl h2
      · exact .inr ⟨h2.1, by omega⟩
    · exact .inr ⟨by omega, by omega⟩, h.frm.trans h'.frm, fun i p hp => by
    rcases h'.bb i p hp with hh | hh
    · rcases h.bb i p hh with h2 | h2
      · exact .inl h2
      · refine .inr fun b hb => ?_
        have hN := (h.sim.objs i p hh).1
        rw [h'.same i hN] at hb
        exact List.mem_append_left _ (h2 b hb)
    · exact .inr fun b hb => List.mem_append_right _ (hh b hb)⟩

theorem obsN_ok : ∀ {ks : List CK} {nb : Nat} {p : (tupT (pay ks)).den} {vs : List Value} {bs : List Nat} {ι : Nat → Value} {N : Nat → Prop} {σ : St}, Sim F ι ok N σ a w → (∀ i, nb ≤ i → i < nb + owns ks → ¬N i) → CksRep w ok ks p vs bs → bs.Nodup →
    (∀ b ∈ bs, (F.w0.heap.size ≤ b ∨ b ∈ F.S) ∧ ∀ i p, σ.ob i = some p → blk (ι i) ≠ some b) →
    ∃ ι' N', Grown F ι ok N a w σ nb (owns ks) bs ι' N' (obsN nb σ ks p) ∧ All2 (RepC w ok ι' N') (plantN nb ks p) vs
  | [], nb, p, vs, bs, ι, N, σ, h, _, ⟨e1, e2⟩, _, _ => by subst e1; subst e2; exact ⟨ι, N, Grown.refl h nb, trivial⟩
  | .cst c :: ks, nb, p, vs, bs, ι, N, σ, h, hN, ⟨v, vs', e, h1, h2⟩, hd, hb => by
    subst e
    obtain ⟨ι', N', g, hr⟩ := obsN_ok (ks := ks) h hN h2 hd hb
    exact ⟨ι', N', g, noC_rep h1, hr⟩
  | .dat t :: ks, nb, p, vs, bs, ι, N, σ, h, hN, ⟨v, vs', e, h1, h2⟩, hd, hb => by
    subst e
    obtain ⟨ι', N', g, hr⟩ := obsN_ok (ks := ks) h hN h2 hd hb
    exact ⟨ι', N', g, h1, hr⟩
  | .own t tg mu :: ks, nb, p, vs, bs, ι, N, σ, h, hN, ⟨v, vs', bs', e, eb, h1, h2⟩, hd, hb => by
    subst e
    subst eb
    have hl : nb < nb + (owns ks + 1) := by omega
    have hnb : ¬N nb := hN nb (Nat.le_refl _) hl
    have hnew := h.newOb (id := nb) hnb (o := .arr t (thd (.sl t) (pay ks) p) mu) (V := v) h1.arr (fun b hbv => hb b (by simp [hbv]))
    rw [List.nodup_append] at hd
    have g1 : Grown F ι ok N a w σ nb 1 (blk v).toList (upd ι nb v) (plus N nb) (σ.set nb (.arr t (thd (.sl t) (pay ks) p) mu)) :=
      ⟨hnew, fun i hi => upd_other _ _ _ (fun e => hnb (e ▸ hi)), le_plus, fun i hi => hi.imp id (fun e => by subst e; exact ⟨Nat.le_refl _, by omega⟩), OpFrm.set _ _ _, fun i q hq => by
        rw [St.ob_set] at hq
        split at hq
        · rename_i e; subst e; right; intro b hbv; rw [upd_same] at hbv; simp [hbv]
        · exact .inl hq⟩
    obtain ⟨ι', N', g, hr⟩ := obsN_ok (ks := ks) (nb := nb + 1) hnew (fun i h1 h2 hi => by
      rcases hi with hi | hi
      · exact hN i (by omega) (by simp only [owns]; omega) hi
      · omega) h2 hd.2.1 (fun b hbm => ⟨(hb b (List.mem_append_right _ hbm)).1, fun i q hq hbi => by
        rw [St.ob_set] at hq
        split at hq
        · rename_i e; subst e
          rw [upd_same] at hbi
          exact hd.2.2 b (by simp [hbi]) b hbm rfl
        · rw [upd_other ι nb v (fun e => hnb (e ▸ (h.objs i q hq).1))] at hbi
          exact (hb b (List.mem_append_right _ hbm)).2 i q hq hbi⟩)
    have gg := g1.trans g
    rw [Nat.add_comm 1] at gg
    refine ⟨ι', N', gg, ⟨?_, hr⟩⟩
    refine ⟨g.le nb plus_self, ?_, ?_⟩
    · rw [g.same nb plus_self, upd_same]
    · exact h1.val

theorem mkV1_ok {ag : Bool} {ks : List CK} {p : (tupT (pay ks)).den} {v : Value} {bs : List Nat} {nb : Nat} (hlen : ∀ q : (tupT (pay ks)).den, ks.length = 1 → (plantN nb ks q).length = 1) (h : V1Rep w ok ag ks p v bs) :
    ∃ vs, CksRep w ok ks p vs bs ∧ ∀ (ι : Nat → Value) (N : Nat → Prop), All2 (RepC w ok ι N) (plantN nb ks p) vs → RepV1 w ok ι N (mkV1 ag (plantN nb ks p)) v := by
  cases ag with
  | false =>
    obtain ⟨hk, h⟩ := h
    refine ⟨[v], h, fun ι N hv => ?_⟩
    have hl := hlen p hk
    cases hc : plantN nb ks p with
    | nil => rw [hc] at hl; cases hl
    | cons c r => cases r with
      | nil => rw [hc] at hv; exact hv.1
      | cons _ _ => rw [hc] at hl; simp at hl
  | true =>
    obtain ⟨vs, e, h⟩ := h
    exact ⟨vs, h, fun ι N hv => ⟨vs, e, hv⟩⟩

theorem plantN_len : ∀ (ks : List CK) (nb : Nat) (p : (tupT (pay ks)).den), (plantN nb ks p).length = ks.length
  | [], _, _ => rfl
  | .cst c :: ks, nb, p => by simp [plantN, plantN_len ks nb]
  | .dat t :: ks, nb, p => by simp [plantN, plantN_len ks nb]
  | .own t tg mu :: ks, nb, p => by simp [plantN, plantN_len ks (nb + 1)]

theorem resObs_ok : ∀ {l : List (Bool × List CK)} {nb : Nat} {p : (tupT (resTs l)).den} {vs : List Value} {bs : List Nat} {ι : Nat → Value} {N : Nat → Prop} {σ : St}, Sim F ι ok N σ a w → (∀ i, nb ≤ i → i < nb + resOwns l → ¬N i) → ResRep w ok l p vs bs → bs.Nodup →
    (∀ b ∈ bs, (F.w0.heap.size ≤ b ∨ b ∈ F.S) ∧ ∀ i p, σ.ob i = some p → blk (ι i) ≠ some b) →
    ∃ ι' N', Grown F ι ok N a w σ nb (resOwns l) bs ι' N' (resObs nb σ l p) ∧ All2 (RepV1 w ok ι' N') (resVals nb l p) vs
  | [], nb, p, vs, bs, ι, N, σ, h, _, ⟨e1, e2⟩, _, _ => by subst e1; subst e2; exact ⟨ι, N, Grown.refl h nb, trivial⟩
  | (ag, ks) :: r, nb, p, vs, bs, ι, N, σ, h, hN, ⟨v, vs', b1, b2, e1, e2, h1, h2⟩, hd, hb => by
    subst e1
    subst e2
    rw [List.nodup_append] at hd
    obtain ⟨us, hu, hval⟩ := mkV1_ok (nb := nb) (fun q hk => by rw [plantN_len]; exact hk) h1
    obtain ⟨ι1, N1, g1, hr1⟩ := obsN_ok (ks := ks) h (fun i h1 h2 => hN i h1 (by simp only [resOwns]; omega)) hu hd.1 (fun b hbm => hb b (List.mem_append_left _ hbm))
    obtain ⟨ι2, N2, g2, hr2⟩ := resObs_ok (l := r) (nb := nb + owns ks) g1.sim (fun i h1 h2 hi => by
      rcases g1.ge i hi with hh | hh
      · exact hN i (by omega) (by simp only [resOwns]; omega) hh
      · omega) h2 hd.2.1 (fun b hbm => ⟨(hb b (List.mem_append_right _ hbm)).1, fun i q hq hbi => by
        rcases g1.bb i q hq with hh | hh
        · rw [g1.same i (h.objs i q hh).1] at hbi
          exact (hb b (List.mem_append_right _ hbm)).2 i q hh hbi
        · exact hd.2.2 b (hh b hbi) b hbm rfl⟩)
    refine ⟨ι2, N2, g1.trans g2, ?_, hr2⟩
    exact hval ι2 N2 (All2.mono (fun _ _ hc => RepC.mono (Ext.refl _ _) g2.same g2.le hc) hr1)
end
end Go.Abs

/- Abs, part U: calls, IV: the operation; all operations. -/
namespace Go.Abs
section
variable {P : Program} {R : Type} {F : Fr} {ι : Nat → Value} {ok : Ok} {N : Nat → Prop} {σ : St} {a : Act} {w : World} {o : Oper} {r : R}

theorem aCallF_some {m : Fu} {nb : Nat} {g : FuncId} {args : List AV} {K : AV → St → Option R} : ∀ {Γ : List Summ}, aCallF m nb g args σ K Γ = some r → ∃ S ∈ Γ, S.f = g ∧ winFn S = none ∧ aCallS m nb S args σ K = some (some r)
  | [], h => by simp [aCallF] at h
  | S :: Γ, h => by
    simp only [aCallF] at h
    cases hb : Nat.beq S.f g && (winFn S).isNone with
    | true =>
      simp only [hb, cond_true] at h
      simp only [Bool.and_eq_true, Option.isNone_iff_eq_none] at hb
      split at h
      · rename_i x hx; exact ⟨S, by simp, Nat.eq_of_beq_eq_true hb.1, hb.2, by rw [hx, h]⟩
      · obtain ⟨S', h1, h2⟩ := aCallF_some h; exact ⟨S', by simp [h1], h2⟩
    | false =>
      simp only [hb, cond_false] at h
      obtain ⟨S', h1, h2⟩ := aCallF_some h; exact ⟨S', by simp [h1], h2⟩

theorem capAVs_rep : ∀ {caps : List (Nat × Nat)} {vs : List Value}, All2 (ptrAt ι N) caps vs → All2 (RepAV w ok ι N) (capAVs caps) vs
  | [], [], _ => trivial
  | (_, _) :: _, _ :: _, h => ⟨h.1, capAVs_rep h.2⟩
  | [], _ :: _, h => h.elim
  | _ :: _, [], h => h.elim

theorem resAV_rep {l : List V1} {vs : List Value} (h : All2 (RepV1 w ok ι N) l vs) : RepAV w ok ι N (resAV l) (tupV vs) := by
  cases l with
  | nil => cases vs with
    | nil => exact (rfl : tupV [] = _)
    | cons _ _ => exact h.elim
  | cons x l => cases vs with
    | nil => exact h.elim
    | cons v vs => cases l with
      | nil => cases vs with
        | nil => exact h.1
        | cons _ _ => exact h.2.elim
      | cons y l => cases vs with
        | nil => exact h.2.elim
        | cons u vs => exact ⟨v :: u :: vs, rfl, h⟩

theorem killAll_get : ∀ (l : List Nat) (σ : St) (t : Nat), (killAll σ l).get t = σ.get t
  | [], _, _ => rfl
  | i :: r, σ, t => (killAll_get r (σ.kill i) t).trans rfl
theorem killAll_n : ∀ (l : List Nat) (σ : St), (killAll σ l).n = σ.n
  | [], _ => rfl
  | i :: r, σ => (killAll_n r (σ.kill i)).trans rfl
theorem killAll_ob : ∀ (l : List Nat) (σ : St) (i : Nat) (p : AO), (killAll σ l).ob i = some p → σ.ob i = some p ∧ i ∉ l
  | [], _, _, _, h => ⟨h, by simp⟩
  | j :: r, σ, i, p, h => by
    obtain ⟨h1, h2⟩ := killAll_ob r (σ.kill j) i p h
    rw [St.ob_kill] at h1
    split at h1
    · cases h1
    · rename_i hne; exact ⟨h1, by simp [h2]; exact fun e => hne e.symm⟩
theorem killAll_frm : ∀ (l : List Nat) (σ : St), OpFrm σ (killAll σ l)
  | [], σ => OpFrm.refl σ
  | i :: r, σ => (OpFrm.kill σ i).trans (killAll_frm r _)

/-- What the caller tells when a call has come back. -/
def okBack (sl : Bool) (okT ok2 : Ok) : Ok := ⟨fun b j => (sl = true ∧ ok2.p b j) ∨ (sl = false ∧ okT.p b j), fun b j => okT.c b j ∨ ok2.c b j, fun b j => okT.d b j ∨ ok2.d b j⟩
theorem caps_boxBs : ∀ {caps : List (List Ty)} {x : (tupT (concatT caps)).den} {vs : List Value} {bs : List Nat}, CapsRep w ok caps x vs bs → ∀ v ∈ vs, ∀ b, blk v = some b → b ∈ bs
  | [], _, _, _, ⟨e, _⟩, v, hv, _, _ => by rw [e] at hv; cases hv
  | ts :: r, x, vs, bs, ⟨u, vs', B, bs', e1, e2, h1, h2⟩, v, hv, b, hb => by
    subst e1; subst e2
    rcases List.mem_cons.1 hv with rfl | hv
    · rw [h1.1] at hb; cases hb; simp
    · exact List.mem_cons_of_mem _ (caps_boxBs h2 v hv b hb)
theorem args_boxBs : ∀ {ks : List PK} {p : (tupT (insL ks)).den} {vs : List Value} {bs : List Nat}, ArgsRep w ok ks p vs bs → ∀ b ∈ boxBs ks vs, b ∈ bs
  | [], _, _, _, ⟨e, _⟩, b, hb => by simp [boxBs] at hb
  | k :: r, p, vs, bs, ⟨v, vs', b1, b2, e1, e2, h1, h2⟩, b, hb => by
    subst e1; subst e2
    have ih := args_boxBs h2
    cases k with
    | val ag ts => exact List.mem_append_right _ (ih b (by simpa [boxBs] using hb))
    | own t => exact List.mem_append_right _ (ih b (by simpa [boxBs] using hb))
    | ow t => exact List.mem_append_right _ (ih b (by simpa [boxBs] using hb))
    | box ts =>
      obtain ⟨B, e, h3⟩ := h1
      subst e
      simp only [boxBs, List.mem_append] at hb
      rcases hb with hb | hb
      · rw [h3.1] at hb
        have : b = B := by simpa [blk] using hb
        subst this
        simp
      · exact List.mem_append_right _ (ih b hb)
    | fn f caps =>
      obtain ⟨us, e, h3⟩ := h1
      subst e
      simp only [boxBs, List.mem_append, List.mem_flatMap] at hb
      rcases hb with ⟨v, hv, hb⟩ | hb
      · exact List.mem_append_left _ (caps_boxBs h3 v (by simpa using hv) b (by simpa using hb))
      · exact List.mem_append_right _ (ih b hb)
/-- What the caller has when a call has come back. -/
theorem call_gen {τ : St} {okT okB ok1 : Ok} (h1 : Sim F ι okT N τ a w) {sig : Sig} {args : List AV} {vs : List Value} (hargs : All2 (RepAV w okT ι N) args vs) (hheld : ∀ id ∈ held sig.pars args, ∃ o, τ.ob id = some o)
    {cs : List Nat} (hcs : ∀ b ∈ cs, ∃ j, okT.c b j ∨ okT.d b j)
    {rr : sig.outs.den} {v : Value} {w' : World} {ok2 : Ok} {rs : List Value} {rbs : List Nat} (hA : After w (bsOf ι (held sig.pars args) ++ cs) ok1 sig vs rr v w' ok2 rs rbs)
    (hx : Ext w okT w' okB) (hAt : ∀ b, b < w.heap.size → b ∉ bsOf ι (held sig.pars args) ++ cs → okB.At okT b) (hB : ∀ b j, okB b j → okT b j ∨ w.heap.size ≤ b ∨ b ∈ bsOf ι (held sig.pars args) ++ cs)
    (hpl : Pls F okB w') (hlt : ∀ b j, okB b j → b < w'.heap.size) (a4' : ResRep w' okB sig.res (tfst (resTs sig.res) (outsP sig.pars) rr) rs rbs) (a5' : OutsRep w' okB sig.pars (tsnd (resTs sig.res) (outsP sig.pars) rr) vs)
    {nb : Nat} (hN : Fresh N nb) (h16 : resOwns sig.res ≤ 16) :
    ∃ ι' N', Sim F ι' okB N' (resObs nb (setBoxes (killAll τ (held sig.pars args)) sig.pars args (tsnd (resTs sig.res) (outsP sig.pars) rr)) sig.res (tfst (resTs sig.res) (outsP sig.pars) rr)) a w' ∧
      (∀ i, N' i → span N nb i) ∧ RepAV w' okB ι' N' (resAV (resVals nb sig.res (tfst (resTs sig.res) (outsP sig.pars) rr))) v ∧
      OpFrm τ (resObs nb (setBoxes (killAll τ (held sig.pars args)) sig.pars args (tsnd (resTs sig.res) (outsP sig.pars) rr)) sig.res (tfst (resTs sig.res) (outsP sig.pars) rr)) := by
  obtain ⟨a1, a2, a3, a4, a5, a6, apl, a7⟩ := hA
  have hbs0 : ∀ b ∈ bsOf ι (held sig.pars args), ∃ id o, τ.ob id = some o ∧ blk (ι id) = some b := fun b hb => by
    simp only [bsOf, List.mem_flatMap] at hb
    obtain ⟨id, hid, hb⟩ := hb
    obtain ⟨o, ho⟩ := hheld id hid
    exact ⟨id, o, ho, by simpa using hb⟩
  have hbs : ∀ b ∈ bsOf ι (held sig.pars args) ++ cs, F.w0.heap.size ≤ b ∨ b ∈ F.S := fun b hb => by
    rcases List.mem_append.1 hb with hb | hb
    · obtain ⟨id, o, ho, hb⟩ := hbs0 b hb
      exact (h1.objs id o ho).2.2 b hb
    · obtain ⟨j, hk⟩ := hcs b hb
      exact (h1.pls.cs b j hk).2.1
  have hno : ∀ i p b, τ.ob i = some p → blk (ι i) = some b → b ∉ cs := fun i p b hp hb hm => by
    obtain ⟨j, hk⟩ := hcs b hm
    have := (h1.objs i p hp).2.1.nocd hb j
    exact hk.elim this.1 this.2
  have hk : Sim F ι okB N (killAll τ (held sig.pars args)) a w' :=
    h1.after a2 hx hbs hAt hB hpl hlt (killAll_get _ _) (killAll_n _ _) (fun i p hp => by
      obtain ⟨g1, g2⟩ := killAll_ob _ _ _ _ hp
      refine ⟨g1, fun b hb hm => ?_⟩
      rcases List.mem_append.1 hm with hm | hm
      · simp only [bsOf, List.mem_flatMap] at hm
        obtain ⟨id, hid, hb2⟩ := hm
        obtain ⟨o, ho⟩ := hheld id hid
        exact h1.apart i id p o b g1 ho (fun e => g2 (e ▸ hid)) hb (by simpa using hb2)
      · exact hno i p b g1 hb hm)
  have hback := setBoxes_ok h1 (BB := boxBs sig.pars vs) (Backs.refl (τ := τ) hk (fun i p hp => ⟨p, (killAll_ob _ _ _ _ hp).1⟩)) a5' hargs hheld (fun b hb => hb)
  obtain ⟨ι', N', g, hr⟩ := resObs_ok (l := sig.res) (nb := nb) hback.sim (fun i h1 h2 => hN i h1 (by omega)) a4' a6 (fun b hb => by
    obtain ⟨n1, n2⟩ := a7 b hb
    refine ⟨?_, fun i p hp hbi => ?_⟩
    · rcases n1 with n1 | n1
      · exact .inl (Nat.le_trans h1.keep.size n1)
      · exact hbs b n1
    · rcases hback.bb i p hp with hh | hh
      · obtain ⟨g1, g2⟩ := killAll_ob _ _ _ _ hh
        rcases n1 with n1 | n1
        · exact absurd ((h1.objs i p g1).2.1.lt hbi) (Nat.not_lt.2 n1)
        · rcases List.mem_append.1 n1 with n1 | n1
          · simp only [bsOf, List.mem_flatMap] at n1
            obtain ⟨id, hid, hb2⟩ := n1
            obtain ⟨o, ho⟩ := hheld id hid
            exact h1.apart i id p o b g1 ho (fun e => g2 (e ▸ hid)) hbi (by simpa using hb2)
          · exact hno i p b g1 hbi n1
      · exact n2 (hh b hbi))
  refine ⟨ι', N', g.sim, fun i hi => ?_, by rw [a1]; exact resAV_rep hr, ((killAll_frm _ _).trans hback.frm).trans g.frm⟩
  rcases g.ge i hi with hh | hh
  · exact .inl hh
  · exact .inr ⟨hh.1, by omega⟩

/-- Bytes of our own go with the call. -/
theorem call_thru {τ : St} {okT : Ok} (h1 : Sim F ι okT N τ a w) {sig : Sig} {args : List AV} {vs : List Value} (hargs : All2 (RepAV w okT ι N) args vs) (hheld : ∀ id ∈ held sig.pars args, ∃ o, τ.ob id = some o)
    {cs : List Nat} (hcs : ∀ b ∈ cs, ∃ j, okT.c b j ∨ okT.d b j) (hcs2 : ∀ b j, okT.c b j ∨ okT.d b j → b ∈ cs)
    {rr : sig.outs.den} {v : Value} {w' : World} {ok2 : Ok} {rs : List Value} {rbs : List Nat} (hA : After w (bsOf ι (held sig.pars args) ++ cs) okT sig vs rr v w' ok2 rs rbs) {nb : Nat} (hN : Fresh N nb) (h16 : resOwns sig.res ≤ 16) :
    ∃ ι' N', Sim F ι' ok2 N' (resObs nb (setBoxes (killAll τ (held sig.pars args)) sig.pars args (tsnd (resTs sig.res) (outsP sig.pars) rr)) sig.res (tfst (resTs sig.res) (outsP sig.pars) rr)) a w' ∧
      (∀ i, N' i → span N nb i) ∧ RepAV w' ok2 ι' N' (resAV (resVals nb sig.res (tfst (resTs sig.res) (outsP sig.pars) rr))) v ∧
      OpFrm τ (resObs nb (setBoxes (killAll τ (held sig.pars args)) sig.pars args (tsnd (resTs sig.res) (outsP sig.pars) rr)) sig.res (tfst (resTs sig.res) (outsP sig.pars) rr)) := by
  have hbs : ∀ b ∈ bsOf ι (held sig.pars args) ++ cs, F.w0.heap.size ≤ b ∨ b ∈ F.S := fun b hb => by
    rcases List.mem_append.1 hb with hb | hb
    · simp only [bsOf, List.mem_flatMap] at hb
      obtain ⟨id, hid, hb⟩ := hb
      obtain ⟨o, ho⟩ := hheld id hid
      exact (h1.objs id o ho).2.2 b (by simpa using hb)
    · obtain ⟨j, hk⟩ := hcs b hb
      exact (h1.pls.cs b j hk).2.1
  refine call_gen h1 hargs hheld hcs hA ⟨fun b j hk => hA.keep.kept b j hk, fun b j hk => hA.pls.kc b j hk, fun b j hk => hA.pls.kd b j hk⟩ (fun b hb hm j => ?_) (fun b j hk => hA.keep.new b j hk)
    ⟨fun b j hk => ⟨(hA.pls.cs b j hk).1, ?_, (hA.pls.cs b j hk).2.2⟩, hA.pls.ds, fun b j hk => ⟨(hA.pls.kc b j (h1.pls.kc b j hk).1).1, (hA.pls.kc b j (h1.pls.kc b j hk).1).2.trans (h1.pls.kc b j hk).2⟩, fun b j hk => hA.pls.kd b j (h1.pls.kd b j hk)⟩
    hA.oks hA.res hA.outs hN h16
  · refine ⟨fun hk => ?_, fun hk => ?_, fun hk => ?_⟩
    · rcases hA.keep.new b j (.inl hk) with hh | hh | hh
      · rcases hh with hh | hh
        · exact hh
        · exact absurd (List.mem_append_right _ (hcs2 b j hh)) hm
      · exact absurd hb (Nat.not_lt.2 hh)
      · exact absurd hh hm
    · rcases (hA.pls.cs b j (.inl hk)).2.1 with hh | hh
      · exact absurd hb (Nat.not_lt.2 hh)
      · exact absurd hh hm
    · rcases (hA.pls.cs b j (.inr hk)).2.1 with hh | hh
      · exact absurd hb (Nat.not_lt.2 hh)
      · exact absurd hh hm
  · rcases (hA.pls.cs b j hk).2.1 with hh | hh
    · exact .inl (Nat.le_trans h1.keep.size hh)
    · exact hbs b hh

/-- They are lent, or do not go. -/
theorem call_core {τ : St} {okT : Ok} {q1 : Nat → Nat → Prop} {sl : Bool} (h1 : Sim F ι okT N τ a w) (hle1 : ∀ b j, okT.p b j → q1 b j) (hq1 : sl = true → ∀ b j, q1 b j → okT.p b j) {sig : Sig} {args : List AV} {vs : List Value} (hargs : All2 (RepAV w okT ι N) args vs) (hheld : ∀ id ∈ held sig.pars args, ∃ o, τ.ob id = some o)
    (hbox : ∀ b ∈ boxBs sig.pars vs, b ∈ bsOf ι (held sig.pars args))
    {rr : sig.outs.den} {v : Value} {w' : World} {ok2 : Ok} {rs : List Value} {rbs : List Nat} (hA : After w (bsOf ι (held sig.pars args) ++ []) (Ok.of q1) sig vs rr v w' ok2 rs rbs) {nb : Nat} (hN : Fresh N nb) (h16 : resOwns sig.res ≤ 16) (hcst : resCst sig.res = true)
    (hfl : (sl = true ∨ resSl sig.res = false) ∧ (sl = true ∨ holdsL (outsP sig.pars) = false)) :
    ∃ ι' N', Sim F ι' (okBack sl okT ok2) N' (resObs nb (setBoxes (killAll τ (held sig.pars args)) sig.pars args (tsnd (resTs sig.res) (outsP sig.pars) rr)) sig.res (tfst (resTs sig.res) (outsP sig.pars) rr)) a w' ∧
      (∀ i, N' i → span N nb i) ∧ RepAV w' (okBack sl okT ok2) ι' N' (resAV (resVals nb sig.res (tfst (resTs sig.res) (outsP sig.pars) rr))) v ∧
      OpFrm τ (resObs nb (setBoxes (killAll τ (held sig.pars args)) sig.pars args (tsnd (resTs sig.res) (outsP sig.pars) rr)) sig.res (tfst (resTs sig.res) (outsP sig.pars) rr)) := by
  have hA0 := hA
  rw [List.append_nil] at hA
  obtain ⟨a1, a2, a3, a4, a5, a6, apl, a7⟩ := hA
  have hbs0 : ∀ b ∈ bsOf ι (held sig.pars args), ∃ id o, τ.ob id = some o ∧ blk (ι id) = some b := fun b hb => by
    simp only [bsOf, List.mem_flatMap] at hb
    obtain ⟨id, hid, hb⟩ := hb
    obtain ⟨o, ho⟩ := hheld id hid
    exact ⟨id, o, ho, by simpa using hb⟩
  have hbs : ∀ b ∈ bsOf ι (held sig.pars args), F.w0.heap.size ≤ b ∨ b ∈ F.S := fun b hb => by
    obtain ⟨id, o, ho, hb⟩ := hbs0 b hb
    exact (h1.objs id o ho).2.2 b hb
  have hcd : ∀ b ∈ bsOf ι (held sig.pars args), ∀ j, ¬okT.c b j ∧ ¬okT.d b j := fun b hb j => by
    obtain ⟨id, o, ho, hb⟩ := hbs0 b hb
    exact (h1.objs id o ho).2.1.nocd hb j
  -- a block that the callee may have written
  let Q : Nat → Prop := fun b => w.heap.size ≤ b ∨ b ∈ bsOf ι (held sig.pars args)
  have hQcd : ∀ b, Q b → ∀ j, ¬okT.c b j ∧ ¬okT.d b j := fun b hb j => by
    rcases hb with hb | hb
    · exact ⟨fun k => absurd (h1.oks b j (.inr (.inl k))) (Nat.not_lt.2 hb), fun k => absurd (h1.oks b j (.inr (.inr k))) (Nat.not_lt.2 hb)⟩
    · exact hcd b hb j
  have hQ2 : ∀ b j, ok2.c b j ∨ ok2.d b j → Q b := fun b j hk => (apl.cs b j hk).2.1
  have hp2 : ∀ b j, okT.p b j → ok2.p b j := fun b j hk => (a2.kept b j (hle1 b j hk)).1
  have hle : okT.Le (okBack sl okT ok2) := by
    refine ⟨fun b j hk => ?_, fun b j hk => .inl hk, fun b j hk => .inl hk⟩
    cases sl with
    | true => exact .inl ⟨rfl, hp2 b j hk⟩
    | false => exact .inr ⟨rfl, hk⟩
  have hbackp : ∀ b j, (okBack sl okT ok2).p b j → okT.p b j ∨ Q b := fun b j hk => by
    rcases hk with ⟨e, hk⟩ | ⟨_, hk⟩
    · rcases a2.new b j (.inl hk) with hh | hh
      · exact .inl (hq1 e b j (Ok.of_any hh))
      · exact .inr hh
    · exact .inl hk
  have hback2 : ∀ b j, (okBack sl okT ok2).p b j → ok2.p b j := fun b j hk => by
    rcases hk with ⟨_, hk⟩ | ⟨_, hk⟩
    · exact hk
    · exact hp2 b j hk
  have hAt : ∀ b, b < w.heap.size → b ∉ bsOf ι (held sig.pars args) → (okBack sl okT ok2).At okT b := fun b hb hm j => by
    have hnq : ¬Q b := fun h => h.elim (fun h => absurd hb (Nat.not_lt.2 h)) hm
    refine ⟨fun hk => (hbackp b j hk).resolve_right hnq, fun hk => ?_, fun hk => ?_⟩
    · exact hk.resolve_right fun k => hnq (hQ2 b j (.inl k))
    · exact hk.resolve_right fun k => hnq (hQ2 b j (.inr k))
  have hB : ∀ b j, okBack sl okT ok2 b j → okT b j ∨ w.heap.size ≤ b ∨ b ∈ bsOf ι (held sig.pars args) := fun b j hk => by
    rcases hk with hk | hk | hk
    · exact (hbackp b j hk).imp .inl id
    · rcases hk with hk | hk
      · exact .inl (.inr (.inl hk))
      · exact .inr (hQ2 b j (.inl hk))
    · rcases hk with hk | hk
      · exact .inl (.inr (.inr hk))
      · exact .inr (hQ2 b j (.inr hk))
  have hheap : ∀ b j, okT.c b j ∨ okT.d b j → w'.heap[b]? = w.heap[b]? := fun b j hk => a2.old b (h1.oks b j (.inr hk)) fun hm => hk.elim (hcd b hm j).1 (hcd b hm j).2
  have hpl : Pls F (okBack sl okT ok2) w' := by
    refine ⟨fun b j hk => ?_, fun b j hk => ?_, fun b j k => ⟨.inl (h1.pls.kc b j k).1, (cell_heap (hheap b j (.inl (h1.pls.kc b j k).1)) j).trans (h1.pls.kc b j k).2⟩, fun b j k => .inl (h1.pls.kd b j k)⟩
    · have hk : (okT.c b j ∨ okT.d b j) ∨ (ok2.c b j ∨ ok2.d b j) := by
        rcases hk with (hk | hk) | (hk | hk)
        · exact .inl (.inl hk)
        · exact .inr (.inl hk)
        · exact .inl (.inr hk)
        · exact .inr (.inr hk)
      rcases hk with hk | hk
      · obtain ⟨s1, s2, s3⟩ := h1.pls.cs b j hk
        refine ⟨fun k => ?_, s2, s3.heap (hheap b j hk)⟩
        rcases hbackp b j k with k | k
        · exact s1 k
        · exact hk.elim (hQcd b k j).1 (hQcd b k j).2
      · obtain ⟨s1, s2, s3⟩ := apl.cs b j hk
        refine ⟨fun k => s1 (hback2 b j k), ?_, s3⟩
        rcases s2 with s2 | s2
        · exact .inl (Nat.le_trans h1.keep.size s2)
        · exact hbs b s2
    · rintro (k | k)
      · rcases hk with hk | hk
        · exact h1.pls.ds b j hk k
        · exact (hQcd b (hQ2 b j (.inr hk)) j).1 k
      · rcases hk with hk | hk
        · exact (hQcd b (hQ2 b j (.inl k)) j).2 hk
        · exact apl.ds b j hk k
  have hlt : ∀ b j, okBack sl okT ok2 b j → b < w'.heap.size := fun b j hk => by
    rcases hk with hk | (hk | hk) | (hk | hk)
    · exact a3 b j (.inl (hback2 b j hk))
    · exact Nat.lt_of_lt_of_le (h1.oks b j (.inr (.inl hk))) a2.size
    · exact a3 b j (.inr (.inl hk))
    · exact Nat.lt_of_lt_of_le (h1.oks b j (.inr (.inr hk))) a2.size
    · exact a3 b j (.inr (.inr hk))
  have hconv : Conv w' sl Q ok2 (okBack sl okT ok2) := by
    refine ⟨fun b j hk => .inr hk, fun b j hk => .inr hk, fun e b j hk => .inl ⟨e, hk⟩, fun b hb j => ⟨hback2 b j, fun hk => ?_, fun hk => ?_⟩⟩
    · exact hk.resolve_left (hQcd b hb j).1
    · exact hk.resolve_left (hQcd b hb j).2
  have a4' : ResRep w' (okBack sl okT ok2) sig.res (tfst (resTs sig.res) (outsP sig.pars) rr) rs rbs := hconv.res hfl.1 hcst (fun b hb => (a7 b hb).1) a4
  have a5' : OutsRep w' (okBack sl okT ok2) sig.pars (tsnd (resTs sig.res) (outsP sig.pars) rr) vs := hconv.outs hfl.2 (fun b hb => .inr (hbox b hb)) a5
  exact call_gen h1 hargs hheld (cs := []) (fun b hb => by cases hb) hA0 ⟨fun b j hb => ⟨hle.1 b j hb, (a2.kept b j (hle1 b j hb)).2⟩, fun b j hb => ⟨hle.2.1 b j hb, cell_of_heap (a2.old b (h1.oks b j (.inr (.inl hb))) fun hm => (hcd b hm j).1 hb) j⟩, hle.2.2⟩
    (fun b hb hm => hAt b hb (by simpa using hm)) (fun b j hk => (hB b j hk).imp id (fun hh => hh.imp id (fun hh => by simpa using hh))) hpl hlt a4' a5' hN h16

theorem winOf_some {g : FuncId} {q : Spc} : ∀ {Γ : List Summ}, winOf g Γ = some q → ∃ S ∈ Γ, S.f = g ∧ winFn S = some q
  | [], h => by cases h
  | S :: Γ, h => by
    simp only [winOf] at h
    cases hb : Nat.beq S.f g with
    | true =>
      simp only [hb, cond_true] at h
      split at h
      · rename_i x hx; cases h; exact ⟨S, by simp, Nat.eq_of_beq_eq_true hb, hx⟩
      · obtain ⟨S', h1, h2⟩ := winOf_some h; exact ⟨S', by simp [h1], h2⟩
    | false =>
      simp only [hb, cond_false] at h
      obtain ⟨S', h1, h2⟩ := winOf_some h; exact ⟨S', by simp [h1], h2⟩

theorem leads_win {m : Fu} {Γ : List Summ} (hΓ : ∀ S ∈ Γ, KnownAt P F S) (h : Sim F ι ok N σ a w) {nb : Nat} {c : Call} (ho : o.op = .call c) {f : Operand} (hc : c.callee = .value f) {g : FuncId} (hf : σ.ev f = .val (.one (.fn g []))) {q : Spc} (hq : winOf g Γ = some q) {K : AV → St → Option R}
    (hr : aWin m q (evs σ c.args.toList) σ (fun v => K v σ) = some r) : Leads P o F (span N nb) a w σ K r := by
  obtain ⟨S, hSm, rfl, hSw⟩ := winOf_some hq
  have hS : SpcSound P S.f q := by
    have := hΓ S hSm
    unfold KnownAt at this
    rw [hSw] at this
    exact this
  have hfv := h.ev f
  rw [hf] at hfv
  obtain ⟨vsc, hfe, hcaps⟩ := hfv
  have hvsc : vsc = [] := by cases vsc with | nil => rfl | cons _ _ => exact hcaps.elim
  subst hvsc
  unfold aWin at hr
  cases q with
  | rd k fn =>
    dsimp only at hr
    split at hr
    · rename_i id n hargs
      split at hr
      · rename_i cs hob
        split at hr
        · rename_i y hy
          cases hfn : fn m (y, n) with
          | none => rw [hfn] at hr; cases hr
          | some z =>
            rw [hfn] at hr
            simp only [Option.bind_some] at hr
            obtain ⟨ya, yb, hl, e1, e2⟩ := evs_two hargs
            have ha := h.ev ya
            have hb := h.ev yb
            rw [e1] at ha
            rw [e2] at hb
            obtain ⟨_, B, hB, hva⟩ := ha
            obtain ⟨_, ⟨B', c, T, hV, m1, m2, m3⟩, _⟩ := h.objs id _ hob
            rw [hB] at hV; cases hV
            have hvb : a.eval yb = .int .i64 n ∧ IntKind.i64.wrap n = n := by
              refine ⟨?_, hb.2⟩
              have := hb.1
              simpa using this
            obtain ⟨u, hu, hru⟩ := m2.nth hy
            have hu2 : u = .int .i64 y ∧ IntKind.i64.wrap y = y := by
              refine ⟨?_, hru.2⟩
              have := hru.1
              simpa using this
            obtain ⟨hz, hE⟩ := hS m y n z hfn
            have hexec : ∀ w, (execOp a.eval o).run P w = (callFunc S.f #[.pointer (some ⟨B, 0, none⟩), .int .i64 n]).run P w := fun w => by
              simp [execOp, ho, resolve, hc, hfe, Deferred.ofValue, invoke, hl, hva, hvb.1]
            have hE := hE w B (by rw [cell_in m1, ← hu2.1, ← hu]; simp) hu2.2 hvb.2
            intro next Q hnext
            have core : ∀ v w', (v = .int .i64 z ∧ Grows w w') → next (a.put o.dst v) w' := by
              rintro v w' ⟨rfl, hgr⟩
              exact hnext _ _ _ w' ι ok ((h.grow hgr).more le_span) (RepAV.mono (Ext.refl _ _) (fun _ _ => rfl) le_span (show RepAV w' ok ι N (one (.int .i64) z) _ from ⟨rfl, hz⟩)) (OpFrm.refl _) hr
            unfold Oper.wp
            rw [hexec]
            unfold Ends at hE
            generalize (callFunc S.f #[.pointer (some ⟨B, 0, none⟩), .int .i64 n]).run P w = res at hE ⊢
            cases res with
            | halt x w' => exact hE.elim
            | ok n w' =>
              cases n <;> simp only at hE
              case value v => exact core v w' hE
              case enter g as =>
                refine Calls.mono hE ?_
                rintro e w'' ⟨v, he, hR⟩
                subst he
                exact core v w'' hR
        · cases hr
      · cases hr
    · cases hr
  | win t fn =>
  dsimp only at hr
  split at hr
  · rename_i e id n hargs
    split at hr
    · rename_i t0 xs hob
      split at hr
      · rename_i xs' hxs
        obtain ⟨f1, f2⟩ := Ty.to_some hxs
        cases f1
        simp only [cast_eq] at f2
        subst f2
        cases hfn : fn m (xs, n) with
        | none => rw [hfn] at hr; cases hr
        | some y =>
          rw [hfn] at hr
          simp only [Option.bind_some] at hr
          obtain ⟨ya, yb, hl, e1, e2⟩ := evs_two hargs
          have ha := h.ev ya
          have hb := h.ev yb
          rw [e1] at ha
          rw [e2] at hb
          obtain ⟨vs, hva, hvs⟩ := ha
          obtain ⟨g1, ⟨A, cap, hV, l1, l2, h3⟩, g3⟩ := h.objs id _ hob
          have hva' : a.eval ya = .agg #[.slice A (List.length xs) cap] := by
            cases vs with
            | nil => exact hvs.elim
            | cons v0 vs =>
              cases vs with
              | cons _ _ => exact hvs.2.elim
              | nil => rw [hva, hvs.1.2.1, hV]
          have hvb : a.eval yb = .int .i64 n ∧ IntKind.i64.wrap n = n := by
            refine ⟨?_, hb.2⟩
            have := hb.1
            simpa using this
          obtain ⟨hpos, hE⟩ := hS m xs n y hfn
          rcases h3 with ⟨_, hx0, _⟩ | ⟨b, oo, rfl, h4⟩
          · rw [hx0] at hpos; simp at hpos
          · have hexec : ∀ w, (execOp a.eval o).run P w = (callFunc S.f #[.agg #[.slice (some ⟨b, oo, none⟩) (List.length xs) cap], .int .i64 n]).run P w := fun w => by
              simp [execOp, ho, resolve, hc, hfe, Deferred.ofValue, invoke, hl, hva', hvb.1]
            have hE := hE w b oo cap l1 l2 hvb.2
            intro next Q hnext
            have core : ∀ v w', ((∃ c', v = .slice (some ⟨b, oo + y.1.toNat * t.sz, none⟩) y.2.toNat c') ∧ Grows w w') → next (a.put o.dst v) w' := by
              rintro v w' ⟨⟨c', rfl⟩, hgr⟩
              exact hnext _ _ _ w' ι ok ((h.grow hgr).more le_span) (RepAV.mono (Ext.refl _ _) (fun _ _ => rfl) le_span (show RepAV w' ok ι N (.val (.one (.win t id y.1.toNat y.2.toNat))) _ from ⟨g1, b, oo, _, cap, c', hV, rfl⟩)) (OpFrm.refl _) hr
            unfold Oper.wp
            rw [hexec]
            unfold Ends at hE
            generalize (callFunc S.f #[.agg #[.slice (some ⟨b, oo, none⟩) (List.length xs) cap], .int .i64 n]).run P w = res at hE ⊢
            cases res with
            | halt x w' => exact hE.elim
            | ok n w' =>
              cases n <;> simp only at hE
              case value v => exact core v w' hE
              case enter g as =>
                refine Calls.mono hE ?_
                rintro e w'' ⟨v, he, hR⟩
                subst he
                exact core v w'' hR
      · cases hr
    · cases hr
  · cases hr

theorem leads_call {m : Fu} {Γ : List Summ} (hΓ : ∀ S ∈ Γ, KnownAt P F S) (h : Sim F ι ok N σ a w) {nb : Nat} (hN : Fresh N nb) {c : Call} (ho : o.op = .call c) {f : Operand} (hc : c.callee = .value f) {g : FuncId} {caps : List (Nat × Nat)} (hf : σ.ev f = .val (.one (.fn g caps))) {K : AV → St → Option R}
    (hr0 : aCallF m nb g (app (evs σ c.args.toList) (capAVs caps)) σ K Γ = some r) : Leads P o F (span N nb) a w σ K r := by
  obtain ⟨S, hSm, rfl, hSw, hr⟩ := aCallF_some hr0
  clear hr0
  have hS : KnownF P F S := by
    have := hΓ S hSm
    unfold KnownAt at this
    rw [hSw] at this
    exact this
  have hfv := h.ev f
  rw [hf] at hfv
  obtain ⟨vsc, hfe, hcaps⟩ := hfv
  have hexec : ∀ w, (execOp a.eval o).run P w = (callFunc S.f (c.args.toList.map a.eval ++ vsc).toArray).run P w := fun w => by
    have e1 : (c.args.toList.map a.eval ++ vsc).toArray = c.args.map a.eval ++ vsc.toArray := by
      apply Array.ext'; simp
    rw [e1]
    simp [execOp, ho, resolve, hc, hfe, Deferred.ofValue, invoke]
  rw [app_eq] at hr
  have hargs : All2 (RepAV w ok ι N) (evs σ c.args.toList ++ capAVs caps) (c.args.toList.map a.eval ++ vsc) := All2.app (h.evs _) (capAVs_rep hcaps)
  generalize evs σ c.args.toList ++ capAVs caps = args at hr hargs
  generalize c.args.toList.map a.eval ++ vsc = vs at hexec hargs
  unfold aCallS at hr
  split at hr
  · cases hr
  · rename_i p hp
    simp only at hr
    cases hb : nodupB (held S.sig.pars args) && Nat.ble (resOwns S.sig.res) 16 && resCst S.sig.res with
    | false => simp [hb] at hr
    | true =>
      simp only [hb, cond_true] at hr
      simp only [Bool.and_eq_true] at hb
      obtain ⟨⟨b1, b2⟩, b3⟩ := hb
      have b1 := (nodupB_iff _).1 b1
      have b2 := Nat.le_of_ble_eq_true b2
      obtain ⟨ok1, h1, l1⟩ := h.freezeArgs S.sig.pars args
      have hargs1 : All2 (RepAV w ok1 ι N) args vs := All2.mono (fun _ _ hc => RepAV.mono (ext_ok l1) (fun _ _ => rfl) (fun _ h => h) hc) hargs
      have hfo : ∀ i o, (freezeArgs σ S.sig.pars args).ob i = some o → ∃ o', σ.ob i = some o' := freezeArgs_ob _ _ _
      cases hfn : S.fn m p with
      | none => simp [hfn] at hr
      | some rr =>
        simp only [hfn, Option.bind_some, Option.some.injEq] at hr
        intro next Q hnext
        have tail : ∀ (T : Value → World → Prop), Ends P S.f vs.toArray w T → (∀ v w', T v w' → next (a.put o.dst v) w') → o.wp P a w next Q := fun T hE core => by
          unfold Oper.wp
          rw [hexec]
          unfold Ends at hE
          generalize (callFunc S.f vs.toArray).run P w = res at hE ⊢
          cases res with
          | halt x w' => exact hE.elim
          | ok n w' =>
            cases n <;> simp only at hE
            case value v => exact core v w' hE
            case enter g as =>
              refine Calls.mono hE ?_
              rintro e w'' ⟨v, he, hR⟩
              subst he
              exact core v w'' hR
        cases hnp : parsNoPl S.sig.pars with
        | true =>
          obtain ⟨q1, q2⟩ := grabArgs_rep h1 hnp hp hargs1
          have hE := hS m p rr hfn w (Ok.of (lentP (!sigSl S.sig) ok1)) vs (bsOf ι (held S.sig.pars args)) [] (fun b j hk => ⟨.inl (h1.keep.kept b j hk).1, (h1.keep.kept b j hk).2⟩) q1 (h1.nodup b1 q2) (fun b j hk => h1.oks b j (lentP_any (Ok.of_any hk))) (Pls.of _ _ _ (fun _ _ k => k) (fun _ _ k => k)) (fun _ _ _ k => k)
          have hboxB := args_boxBs q1
          refine tail _ hE ?_
          rintro v w' ⟨ok2, rs, rbs, hA⟩
          cases hsl : sigSl S.sig with
          | true =>
            simp only [hsl, cond_true] at hr
            obtain ⟨ι', N', k1, k2, k3, k4⟩ := call_core (sl := true) h1 (fun _ _ h => .inl h) (fun _ b j hk => by
              rw [hsl] at hk
              rcases hk with hk | hk
              · exact hk
              · cases hk.1) hargs1 q2 hboxB hA hN b2 b3 ⟨.inl rfl, .inl rfl⟩
            exact hnext _ _ v w' ι' _ (k1.more k2) (RepAV.mono (Ext.refl _ _) (fun _ _ => rfl) k2 k3) ((freezeArgs_frm _ _ _).trans k4) hr
          | false =>
            simp only [hsl, cond_false] at hr
            have hsl2 : resSl S.sig.res = false ∧ holdsL (outsP S.sig.pars) = false := by
              unfold sigSl at hsl
              simp only [Bool.or_eq_false_iff] at hsl
              exact hsl.1
            obtain ⟨ι', N', k1, k2, k3, k4⟩ := call_core (sl := false) h (fun b j hk => .inl (l1.1 b j hk)) (fun e => by cases e) hargs (fun id hid => by obtain ⟨o', ho'⟩ := q2 id hid; exact hfo id o' ho') hboxB hA hN b2 b3 ⟨.inr hsl2.1, .inr hsl2.2⟩
            exact hnext _ _ v w' ι' _ (k1.more k2) (RepAV.mono (Ext.refl _ _) (fun _ _ => rfl) k2 k3) k4 hr
        | false =>
          have hsl : sigSl S.sig = true := by unfold sigSl; rw [hnp]; simp
          rw [hsl] at hp
          obtain ⟨q1, q2⟩ := grabArgs_repS h1 hp hargs1
          let cs : List Nat := (List.range w.heap.size).filter fun b => @decide (∃ j, ok1.c b j ∨ ok1.d b j) (Classical.propDecidable _)
          have hcs2 : ∀ b j, ok1.c b j ∨ ok1.d b j → b ∈ cs := fun b j hk => List.mem_filter.2 ⟨List.mem_range.2 (h1.oks b j (.inr hk)), by simp; exact ⟨j, hk⟩⟩
          have hcs : ∀ b ∈ cs, ∃ j, ok1.c b j ∨ ok1.d b j := fun b hb => by
            have := (List.mem_filter.1 hb).2
            simpa using this
          have hE := hS m p rr hfn w ok1 vs (bsOf ι (held S.sig.pars args)) cs (fun b j hk => h1.keep.kept b j hk) q1 (h1.nodup b1 q2) h1.oks
            ⟨fun b j hk => ⟨(h1.pls.cs b j hk).1, .inr (List.mem_append_right _ (hcs2 b j hk)), (h1.pls.cs b j hk).2.2⟩, h1.pls.ds, fun b j k => ⟨k, rfl⟩, fun b j k => k⟩ (fun e => by rw [hnp] at e; cases e)
          refine tail _ hE ?_
          rintro v w' ⟨ok2, rs, rbs, hA⟩
          simp only [hsl, cond_true] at hr
          obtain ⟨ι', N', k1, k2, k3, k4⟩ := call_thru h1 hargs1 q2 hcs hcs2 hA hN b2
          exact hnext _ _ v w' ι' _ (k1.more k2) (RepAV.mono (Ext.refl _ _) (fun _ _ => rfl) k2 k3) ((freezeArgs_frm _ _ _).trans k4) hr
end
end Go.Abs

/- Abs, part V: all operations. -/
namespace Go.Abs
section
variable {P : Program} {R : Type} {F : Fr} {ι : Nat → Value} {ok : Ok} {N : Nat → Prop} {σ : St} {a : Act} {w : World} {o : Oper} {r : R}

/-- An operation that only yields a value. -/
theorem leads_ok (h : Sim F ι ok N σ a w) {nb : Nat} {K : AV → Option R} (hx : ∃ av z, K av = some r ∧ (execOp a.eval o).run P w = .ok (.value z) w ∧ RepAV w ok ι N av z) :
    Leads P o F (span N nb) a w σ (fun v _ => K v) r := by
  obtain ⟨av, z, h1, h2, h3⟩ := hx
  exact Leads.value h2 h h3 (OpFrm.refl _) h1 le_span

theorem leads_st (h : Sim F ι ok N σ a w) {nb : Nat} {K : AV → St → Option R} (hx : ∃ av z, K av σ = some r ∧ (execOp a.eval o).run P w = .ok (.value z) w ∧ RepAV w ok ι N av z) :
    Leads P o F (span N nb) a w σ K r := by
  obtain ⟨av, z, h1, h2, h3⟩ := hx
  exact Leads.value h2 h h3 (OpFrm.refl _) h1 le_span

theorem ptrsOf_ok : ∀ {l : List AV} {ps : List (Nat × Nat)} {vs : List Value}, ptrsOf l = some ps → All2 (RepAV w ok ι N) l vs → All2 (ptrAt ι N) ps vs := by
  intro l
  induction l with
  | nil => intro ps vs hp hv; cases hp; cases vs with
    | nil => trivial
    | cons _ _ => exact hv.elim
  | cons x l ih =>
    intro ps vs hp hv
    cases vs with
    | nil => exact hv.elim
    | cons v vs =>
      unfold ptrsOf at hp
      split at hp
      · rename_i h; cases h
      · rename_i i o r h
        cases h
        split at hp
        · rename_i l' hl
          cases hp
          exact ⟨hv.1, ih hl hv.2⟩
        · cases hp
      · cases hp

theorem aOp_sound {m : Fu} {Γ : List Summ} (hΓ : ∀ S ∈ Γ, KnownAt P F S) (h : Sim F ι ok N σ a w) {nb : Nat} (hN : Fresh N nb) {K : AV → St → Option R} (hr : aOp P Γ m nb o σ K = some r) : Leads P o F (span N nb) a w σ K r := by
  unfold aOp at hr
  split at hr
  case h_1 x hop => exact leads_st h ⟨_, a.eval x, hr, by simp [execOp, hop], h.ev x⟩
  case h_2 x hop => exact leads_st h ⟨_, a.eval x, hr, by simp [execOp, hop], h.ev x⟩
  case h_3 c x y hop =>
    obtain ⟨av, b, h1, h2, h3⟩ := aPick_ok (h.ev c) (h.ev x) (h.ev y) hr
    exact leads_st h ⟨av, _, h1, by simp [execOp, hop, h2, asBool], h3⟩
  case h_4 t hop => exact leads_alloc h hN hop hr
  case h_5 t x hop => exact leads_box h hN hop hr
  case h_6 t ps hop =>
    obtain ⟨av, z, h1, h2, h3⟩ := aBuild_ok (qs := ps.map fun (i, x) => (i, a.eval x)) (by simpa using h.evPs ps.toList) hr
    exact leads_st h ⟨av, z, h1, by simp [execOp, hop, h2], h3⟩
  case h_7 t n ps hop =>
    split at hr
    · exact leads_buildPl h hN hop hr
    · exact leads_buildSlice h hN hop hr
  case h_8 t x hop =>
    obtain ⟨av, z, h1, h2, h3⟩ := aLoad_ok (P := P) h (h.ev x) hr
    exact leads_st h ⟨av, z, h1, by simp [execOp, hop, h2], h3⟩
  case h_9 t x y hop => exact leads_store h hN hop hr
  case h_10 x hop =>
    have hx := h.ev x
    split at hr
    case h_1 i f hx' =>
      rw [hx'] at hx
      obtain ⟨_, B, _, e⟩ := id hx
      exact leads_st h ⟨_, a.eval x, hr, by simp [execOp, hop, e], hx⟩
    case h_2 t d f hx' =>
      rw [hx'] at hx
      obtain ⟨b, oo, us, e, _⟩ := id hx
      exact leads_st h ⟨_, a.eval x, hr, by simp [execOp, hop, e], hx⟩
    case h_3 t i j f hx' =>
      rw [hx'] at hx
      obtain ⟨_, b, oo, n, cap, _, e⟩ := id hx
      exact leads_st h ⟨_, a.eval x, hr, by simp [execOp, hop, e], hx⟩
    case h_4 f cs hx' =>
      rw [hx'] at hx
      obtain ⟨vs, e, _⟩ := id hx
      exact leads_st h ⟨_, a.eval x, hr, by simp [execOp, hop, e], hx⟩
    case h_5 => cases hr
  case h_11 op xt x y yt hop =>
    have hx := h.ev x
    have hy := h.ev y
    have hnilv : (σ.ev y) = .val (.one .nils) → a.eval y = .slice none 0 0 := fun e => by rw [e] at hy; exact hy
    unfold aNil at hr
    split at hr
    case h_1 _ e e' xs hu hx' hy' =>
      rw [hx'] at hx
      obtain ⟨A, cap, e1, _, _, h3⟩ := hx
      have e1 : a.eval x = .slice A xs.length cap := by simpa using e1
      have hg := run_eqGuard_plain (P := P) (w := w) .eql xt x y (.slice A xs.length cap) (.slice none 0 0) (by simp) (by simp)
      have hrun : (execOp a.eval o).run P w = .ok (.value (.bool A.isNone)) w := by
        simp [execOp, hop, e1, hnilv hy', hg, Lib.run_eql_slice_nil w xt _ A xs.length cap 0 0 hu]
      split at hr
      · obtain ⟨r1, r2⟩ := same2_some hr
        refine leads_st h ⟨one .bool A.isNone, _, ?_, hrun, rep_bool _⟩
        cases A with
        | none => exact r1
        | some _ => exact r2
      · rename_i y0 ys
        rcases h3 with h3 | ⟨b, oo, rfl, _⟩
        · cases h3
        · exact leads_st h ⟨one .bool false, _, hr, hrun, rep_bool _⟩
    case h_2 _ e e' xs hu hx' hy' =>
      rw [hx'] at hx
      obtain ⟨A, cap, e1, _, _, h3⟩ := hx
      have e1 : a.eval x = .slice A xs.length cap := by simpa using e1
      have hg := run_eqGuard_plain (P := P) (w := w) .neq xt x y (.slice A xs.length cap) (.slice none 0 0) (by simp) (by simp)
      have hrun : (execOp a.eval o).run P w = .ok (.value (.bool (!A.isNone))) w := by
        simp [execOp, hop, e1, hnilv hy', hg, run_neq_slice_nil_any w xt _ A xs.length cap 0 0 hu]
      split at hr
      · obtain ⟨r1, r2⟩ := same2_some hr
        refine leads_st h ⟨one .bool (!A.isNone), _, ?_, hrun, rep_bool _⟩
        cases A with
        | none => exact r2
        | some _ => exact r1
      · rename_i y0 ys
        rcases h3 with h3 | ⟨b, oo, rfl, _⟩
        · cases h3
        · exact leads_st h ⟨one .bool true, _, hr, hrun, rep_bool _⟩
    case h_3 _ e hu hx' hy' =>
      rw [hx'] at hx
      have e1 : a.eval x = .slice none 0 0 := hx
      have hg := run_eqGuard_plain (P := P) (w := w) .eql xt x y (.slice none 0 0) (.slice none 0 0) (by simp) (by simp)
      exact leads_st h ⟨one .bool true, .bool true, hr, by simp [execOp, hop, e1, hnilv hy', hg, Lib.run_eql_slice_nil w xt _ none 0 0 0 0 hu], rep_bool _⟩
    case h_4 _ e hu hx' hy' =>
      rw [hx'] at hx
      have e1 : a.eval x = .slice none 0 0 := hx
      have hg := run_eqGuard_plain (P := P) (w := w) .neq xt x y (.slice none 0 0) (.slice none 0 0) (by simp) (by simp)
      exact leads_st h ⟨one .bool false, .bool false, hr, by simp [execOp, hop, e1, hnilv hy', hg, run_neq_slice_nil_any w xt _ none 0 0 0 0 hu], rep_bool _⟩
    case h_5 =>
      obtain ⟨av, z, h1, h2, h3⟩ := aBin_ok hx hy hr x y
      exact leads_st h ⟨av, z, h1, by simp only [execOp, hop, Sem.run_bind, h2, Result.andThen_ok]; rfl, h3⟩
  case h_12 op xt x hop =>
    obtain ⟨av, z, h1, h2, h3⟩ := aUn_ok (P := P) (h.ev x) hr
    exact leads_st h ⟨av, z, h1, by simp [execOp, hop, h2], h3⟩
  case h_13 s d x hop => exact leads_convert h hN hop hr
  case h_14 t x lo hi mx hop =>
    split at hr
    · rename_i q hq
      exact leads_cut h hN hop hq hr
    · exact leads_slice h hN hop hr
  case h_15 s x f hop =>
    obtain ⟨av, z, h1, h2, h3⟩ := aFieldAddr_ok (h.ev x) hr
    exact leads_st h ⟨av, z, h1, by simp [execOp, hop, h2], h3⟩
  case h_16 s x f hop =>
    obtain ⟨av, z, h1, h2, h3⟩ := aField_ok (h.ev x) hr
    exact leads_st h ⟨av, z, h1, by simp [execOp, hop, h2], h3⟩
  case h_17 t x i hop =>
    obtain ⟨av, z, h1, h2, h3⟩ := aIndexAddr_ok h (h.ev x) (h.ev i) hr
    exact leads_st h ⟨av, z, h1, by simp [execOp, hop, h2], h3⟩
  case h_18 t x i hop =>
    obtain ⟨av, z, h1, h2, h3⟩ := aIndex_ok (h.ev x) (h.ev i) hr
    exact leads_st h ⟨av, z, h1, by simp [execOp, hop, h2], h3⟩
  case h_19 x i hop =>
    obtain ⟨av, z, h1, h2, h3⟩ := aExtract_ok (P := P) (h.ev x) hr
    exact leads_st h ⟨av, z, h1, by simp [execOp, hop, h2], h3⟩
  case h_20 t l c hop =>
    split at hr
    · rename_i n hn
      exact leads_makeCap h hN hop hn hr
    · split at hr
      · exact leads_makePl h hN hop hr
      · exact leads_makeSlice h hN hop hr
  case h_21 f first caps hop =>
    split at hr
    · rename_i ps hfirst hps
      have hv := ptrsOf_ok hps (h.evs caps.toList)
      have hf0 : first = #[] := by cases first; simp_all
      subst hf0
      refine leads_st h ⟨_, .func (.func f) #[] (caps.toList.map a.eval).toArray, hr, ?_, ⟨_, rfl, hv⟩⟩
      have e1 : (caps.toList.map a.eval).toArray = caps.map a.eval := by apply Array.ext'; simp
      rw [e1]
      simp [execOp, hop, Instr.makeFunc]
    · cases hr
  case h_22 c hop =>
    split at hr
    case h_1 hc =>
      split at hr
      · rename_i x t hx ht
        split at hr
        · exact leads_lenMap h hop hc hx ht hr
        obtain ⟨y, hl, he⟩ := evs_one hx
        have hx := h.ev y
        rw [he] at hx
        obtain ⟨av, z, h1, h2, h3⟩ := aLen_ok (ty := o.type) h hx hr
        have e1 : c.argTypes = #[t] := by apply Array.ext'; simpa using ht
        exact leads_st h ⟨av, z, h1, by simp [execOp, hop, resolve, hc, invoke, builtin, hl, e1, h2], h3⟩
      · cases hr
    case h_2 hc =>
      split at hr
      · rename_i s x hx
        split at hr
        · rename_i q hq
          exact leads_appendC h hN hop hc hx hq hr
        · exact leads_append h hN hop hc hx hr
      · cases hr
    case h_3 hc =>
      have hv := h.evs c.args.toList
      obtain ⟨av, z, v0, rest, h1, h2, h3, h4⟩ := aMinMax_ok (P := P) (g := Builtin.max2) (fun k x y => by simp [Builtin.max2, mxI]) mx_in hv hr
      refine leads_st h ⟨av, z, h1, ?_, h4⟩
      simp [execOp, hop, resolve, hc, invoke, builtin, Builtin.max_, h2, h3]
    case h_4 hc =>
      have hv := h.evs c.args.toList
      obtain ⟨av, z, v0, rest, h1, h2, h3, h4⟩ := aMinMax_ok (P := P) (g := Builtin.min2) (fun k x y => by simp [Builtin.min2, mnI]) mn_in hv hr
      refine leads_st h ⟨av, z, h1, ?_, h4⟩
      simp [execOp, hop, resolve, hc, invoke, builtin, Builtin.min_, h2, h3]
    case h_5 f hc =>
      split at hr
      · rename_i g caps hf
        split at hr
        · rename_i q hq
          exact leads_win hΓ h hop hc hf hq hr
        · exact leads_call hΓ h hN hop hc hf hr
      · cases hr
    case h_6 hc =>
      split at hr
      · rename_i x y t ts hx ht
        exact leads_delete h hop hc hx ht hr
      · cases hr
    case h_7 hc =>
      split at hr
      · rename_i d x hx
        exact leads_copy h hop hc hx hr
      · cases hr
    case h_8 => cases hr
  case h_23 t hop => exact leads_makeMap h hN hop hr
  case h_24 t x y okb hop => exact leads_lookup h hop hr
  case h_25 t x y z hop => exact leads_mapUpdate h hop hr
  case h_26 => cases hr
end
end Go.Abs

/- Abs, part W: what a spec takes. -/
namespace Go.Abs

def Cell.idsIn (M : Nat → Prop) : Cell → Prop
  | .own _ id => M id
  | .ptr id _ => M id
  | .eptr _ id _ _ => M id
  | .win _ id _ _ => M id
  | .bsl id _ => M id
  | .fn _ caps => ∀ c ∈ caps, M c.1
  | _ => True
def V1.idsIn (M : Nat → Prop) : V1 → Prop
  | .one c => c.idsIn M
  | .agg cs => ∀ c ∈ cs, c.idsIn M
def AV.idsIn (M : Nat → Prop) : AV → Prop
  | .val x => x.idsIn M
  | .tup l => ∀ x ∈ l, x.idsIn M
def AO.idsIn (M : Nat → Prop) : AO → Prop
  | .box cs => ∀ c ∈ cs, c.idsIn M
  | .arr _ _ _ => True

section
variable {P : Program} {R : Type} {F : Fr} {ι ι' : Nat → Value} {ok : Ok} {N M : Nat → Prop} {σ σ0 : St} {a : Act} {w : World} {o : Oper} {r : R}

theorem All2.left {α β : Type} {Q : α → β → Prop} {Z : α → Prop} (hz : ∀ a b, Q a b → Z a) : ∀ {l : List α} {m : List β}, All2 Q l m → ∀ x ∈ l, Z x
  | [], [], _, x, hx => by cases hx
  | a :: l, b :: m, h, x, hx => by
    rcases List.mem_cons.1 hx with rfl | hx
    · exact hz _ _ h.1
    · exact All2.left hz h.2 x hx
  | [], _ :: _, h, _, _ => h.elim
  | _ :: _, [], h, _, _ => h.elim

theorem All2.monoL {α β : Type} {Q Q' : α → β → Prop} : ∀ {l : List α} {m : List β}, (∀ a ∈ l, ∀ b, Q a b → Q' a b) → All2 Q l m → All2 Q' l m
  | [], [], _, _ => trivial
  | a :: l, b :: m, hq, h => ⟨hq a (by simp) b h.1, All2.monoL (fun x hx => hq x (by simp [hx])) h.2⟩
  | [], _ :: _, _, h => h.elim
  | _ :: _, [], _, h => h.elim

theorem RepC.ids {c : Cell} {v : Value} (h : RepC w ok ι N c v) : c.idsIn N := by
  cases c with
  | own t id => exact h.1
  | ptr id off => exact h.1
  | eptr t id i off => exact h.1
  | win t id lo n => exact h.1
  | bsl id n => exact h.1
  | fn f caps => obtain ⟨vs, _, h⟩ := h; exact All2.left (fun _ _ hc => hc.1) h
  | _ => trivial
theorem RepV1.ids {x : V1} {v : Value} (h : RepV1 w ok ι N x v) : x.idsIn N := by
  cases x with
  | one c => exact RepC.ids h
  | agg cs => obtain ⟨vs, _, h⟩ := h; exact All2.left (fun _ _ hc => RepC.ids hc) h
theorem RepAV.ids {x : AV} {v : Value} (h : RepAV w ok ι N x v) : x.idsIn N := by
  cases x with
  | val x => exact RepV1.ids h
  | tup l => obtain ⟨vs, _, h⟩ := h; exact All2.left (fun _ _ hc => RepV1.ids hc) h
theorem ObjRep.ids {o : AO} {v : Value} (h : ObjRep w ok ι N o v) : o.idsIn N := by
  cases o with
  | box cs => obtain ⟨B, c, T, _, _, h, _⟩ := h; exact All2.left (fun _ _ hc => RepC.ids hc) h
  | arr t xs mu => trivial

theorem ptrAt.chg (hι : ∀ i, M i → ι' i = ι i) {c : Nat × Nat} {v : Value} (h : ptrAt ι N c v) (hi : M c.1) : ptrAt ι' M c v := by
  obtain ⟨_, B, h1, h2⟩ := h
  exact ⟨hi, B, by rw [hι _ hi]; exact h1, h2⟩

theorem RepC.chg (hι : ∀ i, M i → ι' i = ι i) {c : Cell} {v : Value} (h : RepC w ok ι N c v) (hi : c.idsIn M) : RepC w ok ι' M c v := by
  cases c with
  | any => trivial
  | skip => exact h
  | dat t x => exact h
  | nils => exact h
  | nilp => exact h
  | own t id => exact ⟨hi, by rw [hι _ hi]; exact h.2.1, h.2.2⟩
  | ptr id off => exact ptrAt.chg hι h hi
  | vptr t x off => exact h
  | eptr t id i off => obtain ⟨_, b, o, n, cap, h1, h2⟩ := h; exact ⟨hi, b, o, n, cap, by rw [hι _ hi]; exact h1, h2⟩
  | win t id lo n => obtain ⟨_, b, o, len, cap, c', h1, h2⟩ := h; exact ⟨hi, b, o, len, cap, c', by rw [hι _ hi]; exact h1, h2⟩
  | bsl id n => obtain ⟨_, B, h1, h2⟩ := h; exact ⟨hi, B, by rw [hι _ hi]; exact h1, h2⟩
  | wptr => exact h
  | wint => exact h
  | nilf => exact h
  | fn f caps => obtain ⟨vs, e, h⟩ := h; exact ⟨vs, e, All2.monoL (fun c hc v hv => ptrAt.chg hι hv (hi c hc)) h⟩
theorem RepV1.chg (hι : ∀ i, M i → ι' i = ι i) {x : V1} {v : Value} (h : RepV1 w ok ι N x v) (hi : x.idsIn M) : RepV1 w ok ι' M x v := by
  cases x with
  | one c => exact RepC.chg hι h hi
  | agg cs => obtain ⟨vs, e, h⟩ := h; exact ⟨vs, e, All2.monoL (fun c hc v hv => RepC.chg hι hv (hi c hc)) h⟩
theorem RepAV.chg (hι : ∀ i, M i → ι' i = ι i) {x : AV} {v : Value} (h : RepAV w ok ι N x v) (hi : x.idsIn M) : RepAV w ok ι' M x v := by
  cases x with
  | val x => exact RepV1.chg hι h hi
  | tup l => obtain ⟨vs, e, h⟩ := h; exact ⟨vs, e, All2.monoL (fun c hc v hv => RepV1.chg hι hv (hi c hc)) h⟩
theorem ObjRep.chg (hι : ∀ i, M i → ι' i = ι i) {o : AO} {v : Value} (h : ObjRep w ok ι N o v) (hi : o.idsIn M) : ObjRep w ok ι' M o v := by
  cases o with
  | box cs => obtain ⟨B, c, T, e, h1, h2, h3⟩ := h; exact ⟨B, c, T, e, h1, All2.monoL (fun c hc v hv => RepC.chg hι hv (hi c hc)) h2, h3⟩
  | arr t xs mu => exact h.arr

theorem allLt_iff (n : Nat) : ∀ l : List Nat, allLt n l = true ↔ ∀ a ∈ l, a < n
  | [] => by simp [allLt]
  | a :: r => by simp [allLt, allLt_iff n r]
theorem allGe_iff (n : Nat) : ∀ l : List Nat, allGe n l = true ↔ ∀ a ∈ l, n ≤ a
  | [] => by simp [allGe]
  | a :: r => by simp [allGe, allGe_iff n r]
theorem mem_fsts {α : Type} : ∀ {l : List (Nat × α)} {c : Nat × α}, c ∈ l → c.1 ∈ fsts l
  | [], _, h => by cases h
  | (i, x) :: r, c, h => by
    rcases List.mem_cons.1 h with rfl | h
    · simp [fsts]
    · simp [fsts, mem_fsts h]

/-! ### Who gets whose number -/
def pairs : List CK → List Cell → List (Nat × Option Nat)
  | .own _ t _ :: ks, .own _ id :: cs => (t, some id) :: pairs ks cs
  | .own _ t _ :: ks, _ :: cs => (t, none) :: pairs ks cs
  | _ :: ks, _ :: cs => pairs ks cs
  | _, _ => []

def valOf (ι : Nat → Value) : Option Nat → Value
  | some id => ι id
  | none => .slice none 0 0

theorem pairs_cst (c : Cell) (ks : List CK) (d : Cell) (cs : List Cell) : pairs (.cst c :: ks) (d :: cs) = pairs ks cs := by cases d <;> rfl
theorem pairs_dat (t : Ty) (ks : List CK) (d : Cell) (cs : List Cell) : pairs (.dat t :: ks) (d :: cs) = pairs ks cs := by cases d <;> rfl

theorem pairs_tgts : ∀ {ks : List CK} {cs : List Cell}, ks.length = cs.length → (pairs ks cs).map (·.1) = tgts ks
  | [], [], _ => rfl
  | [], _ :: _, h => by simp at h
  | _ :: _, [], h => by simp at h
  | .cst c :: ks, d :: cs, h => by rw [pairs_cst]; exact pairs_tgts (ks := ks) (by simpa using h)
  | .dat t :: ks, d :: cs, h => by rw [pairs_dat]; exact pairs_tgts (ks := ks) (by simpa using h)
  | .own t g mu :: ks, d :: cs, h => by
    have ih := pairs_tgts (ks := ks) (cs := cs) (by simpa using h)
    cases d <;> simp [pairs, tgts, ih]

theorem pairs_srcs : ∀ {ks : List CK} {cs : List Cell}, ks.length = cs.length → (pairs ks cs).filterMap (·.2) = srcs ks cs
  | [], [], _ => rfl
  | [], _ :: _, h => by simp at h
  | _ :: _, [], h => by simp at h
  | .cst c :: ks, d :: cs, h => by
    have ih := pairs_srcs (ks := ks) (cs := cs) (by simpa using h)
    rw [pairs_cst, ih]; cases d <;> rfl
  | .dat t :: ks, d :: cs, h => by
    have ih := pairs_srcs (ks := ks) (cs := cs) (by simpa using h)
    rw [pairs_dat, ih]; cases d <;> rfl
  | .own t g mu :: ks, d :: cs, h => by
    have ih := pairs_srcs (ks := ks) (cs := cs) (by simpa using h)
    cases d <;> simp [pairs, srcs, ih]

theorem look_nodup {α : Type} : ∀ {l : List (Nat × α)} {i : Nat} {s : α}, (l.map (·.1)).Nodup → (i, s) ∈ l → look l i = some s
  | [], _, _, _, h => by cases h
  | (j, u) :: r, i, s, hn, h => by
    rw [List.map_cons, List.nodup_cons] at hn
    rw [look_cons]
    rcases List.mem_cons.1 h with e | h
    · cases e; simp
    · have : j ≠ i := fun e => hn.1 (by subst e; exact List.mem_map.2 ⟨_, h, rfl⟩)
      rw [if_neg this]; exact look_nodup hn.2 h

theorem pairs_inj : ∀ {l : List (Nat × Option Nat)} {i j s : Nat}, (l.filterMap (·.2)).Nodup → (l.map (·.1)).Nodup → (i, some s) ∈ l → (j, some s) ∈ l → i = j
  | [], _, _, _, _, _, h, _ => by cases h
  | (k, none) :: r, i, j, s, hn, hm, h1, h2 => by
    rw [List.map_cons, List.nodup_cons] at hm
    have a1 : (i, some s) ∈ r := by rcases List.mem_cons.1 h1 with e | h; · cases e
                                    · exact h
    have a2 : (j, some s) ∈ r := by rcases List.mem_cons.1 h2 with e | h; · cases e
                                    · exact h
    exact pairs_inj (by simpa using hn) hm.2 a1 a2
  | (k, some u) :: r, i, j, s, hn, hm, h1, h2 => by
    rw [List.map_cons, List.nodup_cons] at hm
    simp only [List.filterMap_cons] at hn
    rw [List.nodup_cons] at hn
    have key : ∀ {x : Nat}, (x, some s) ∈ r → s ∈ r.filterMap (·.2) := fun h => List.mem_filterMap.2 ⟨_, h, rfl⟩
    rcases List.mem_cons.1 h1 with e1 | h1
    · rcases List.mem_cons.1 h2 with e2 | h2
      · cases e1; cases e2; rfl
      · cases e1; exact absurd (key h2) hn.1
    · rcases List.mem_cons.1 h2 with e2 | h2
      · cases e2; exact absurd (key h1) hn.1
      · exact pairs_inj hn.2 hm.2 h1 h2

theorem grab_len : ∀ {ks : List CK} {cs : List Cell} {p : (tupT (pay ks)).den}, grab σ ks cs = some p → ks.length = cs.length
  | [], [], _, _ => rfl
  | [], _ :: _, _, h => by simp [grab] at h
  | .cst c :: ks, [], _, h => by simp [grab] at h
  | .dat t :: ks, [], _, h => by simp [grab] at h
  | .own t g mu :: ks, [], _, h => by simp [grab] at h
  | .cst c :: ks, d :: cs, p, h => by
    simp only [grab] at h
    cases hb : c.same d with
    | false => simp [hb] at h
    | true => simp only [hb, cond_true] at h; simp [grab_len h]
  | .dat t :: ks, d :: cs, p, h => by
    simp only [grab] at h
    split at h
    · split at h
      · rename_i y hy; simp [grab_len hy]
      · cases h
    · cases h
  | .own t g mu :: ks, d :: cs, p, h => by
    simp only [grab] at h
    split at h
    · split at h
      · rename_i y hy; simp [grab_len hy]
      · cases h
    · cases h

theorem toOwn_obj (h : Sim F ι ok N σ a w) {t : Ty} {mu : MK} {c : Cell} {x : List t.den} (hc : c.toOwn σ t mu = some x) {v : Value} (hv : RepC w ok ι N c v) :
    ((∃ a n k, v = .slice a n k) ∨ ∃ b, v = .map (some b)) ∧ ((∃ e id, c = .own e id ∧ v = ι id ∧ (∃ e' xs m, σ.ob id = some (.arr e' xs m)) ∧ ObjRep w ok ι N (.arr t x mu) v) ∨ (c = .nils ∧ v = .slice none 0 0 ∧ x = [] ∧ mu.isSl = true)) := by
  cases c with
  | own e id =>
    simp only [Cell.toOwn] at hc
    split at hc
    · rename_i e' xs m ho
      cases hb : e'.beq e && m.beq mu with
      | false => simp [hb] at hc
      | true =>
        simp only [hb, cond_true] at hc
        obtain ⟨e1, hx⟩ := Ty.to_some hc
        cases e1; subst hx
        simp only [Bool.and_eq_true] at hb
        have hm : m = mu := MK.eq_of_beq hb.2
        subst hm
        obtain ⟨_, g2, _⟩ := h.objs id _ ho
        refine ⟨hv.2.2, .inl ⟨e, id, rfl, hv.2.1, ⟨_, _, _, ho⟩, by rw [hv.2.1]; exact g2⟩⟩
    · cases hc
  | nils =>
    change (bif mu.isSl then some ([] : List t.den) else none) = some x at hc
    cases hm : mu.isSl with
    | false => rw [hm] at hc; cases hc
    | true =>
      rw [hm] at hc
      cases hc
      cases (show v = _ from hv)
      exact ⟨.inl ⟨_, _, _, rfl⟩, .inr ⟨rfl, rfl, rfl, rfl⟩⟩
  | _ => simp [Cell.toOwn] at hc

/-- What is planted. -/
theorem grab_plant (h : Sim F ι ok N σ a w) {n0 : Nat} (hM : ∀ i, i < n0 → N i → M i ∧ ι' i = ι i) : ∀ {ks : List CK} {cs : List Cell} {vs : List Value} {p : (tupT (pay ks)).den}, grab σ ks cs = some p → All2 (RepC w ok ι N) cs vs → cstOk n0 ks = true →
    (∀ i s, (i, s) ∈ pairs ks cs → M i ∧ ι' i = valOf ι s) → All2 (RepC w ok ι' M) (plant ks p) vs
  | [], [], [], _, _, _, _, _ => trivial
  | [], [], _ :: _, _, _, hv, _, _ => hv.elim
  | [], _ :: _, _, _, hg, _, _, _ => by simp [grab] at hg
  | .cst c :: ks, [], _, _, hg, _, _, _ => by simp [grab] at hg
  | .dat t :: ks, [], _, _, hg, _, _, _ => by simp [grab] at hg
  | .own t g mu :: ks, [], _, _, hg, _, _, _ => by simp [grab] at hg
  | _ :: _, _ :: _, [], _, _, hv, _, _ => hv.elim
  | .cst c :: ks, d :: cs, v :: vs, p, hg, hv, hc, hp => by
    simp only [grab] at hg
    rw [pairs_cst] at hp
    cases hb : c.same d with
    | false => simp [hb] at hg
    | true =>
      simp only [hb, cond_true] at hg
      have hc2 : cstOk n0 ks = true := by cases c <;> simp_all [cstOk]
      refine ⟨?_, grab_plant h hM (ks := ks) hg hv.2 hc2 hp⟩
      cases c with
      | any => trivial
      | skip => cases d <;> simp [Cell.same] at hb; exact hv.1
      | nils => cases d <;> simp [Cell.same] at hb; exact hv.1
      | nilp => cases d <;> simp [Cell.same] at hb; exact hv.1
      | ptr i off =>
        cases d <;> simp [Cell.same] at hb
        obtain ⟨rfl, rfl⟩ := hb
        have hlt : i < n0 := by simp [cstOk] at hc; exact hc.1
        have h1 := hv.1
        obtain ⟨g1, B, g2, g3⟩ := h1
        obtain ⟨k1, k2⟩ := hM i hlt g1
        exact ⟨k1, B, by rw [k2]; exact g2, g3⟩
      | own t i =>
        cases d <;> simp [Cell.same] at hb
        subst hb
        have hlt : i < n0 := by simp [cstOk] at hc; exact hc.1
        obtain ⟨g1, g2, g3⟩ := hv.1
        obtain ⟨k1, k2⟩ := hM i hlt g1
        exact ⟨k1, by rw [k2]; exact g2, g3⟩
      | fn f caps =>
        cases d with
        | fn g ds =>
          simp [Cell.same] at hb
          obtain ⟨e1, rfl⟩ := hb
          have e1 : f = g := e1
          subst e1
          obtain ⟨us, e, h1⟩ := hv.1
          have hall : ∀ c ∈ caps, c.1 < n0 := by
            simp only [cstOk, Bool.and_eq_true] at hc
            have hc1 := hc.1
            exact fun c hc => (allLt_iff n0 _).1 hc1 c.1 (mem_fsts hc)
          exact ⟨us, e, All2.monoL (fun c hc v hv => by
            obtain ⟨g1, B, g2, g3⟩ := hv
            obtain ⟨k1, k2⟩ := hM c.1 (hall c hc) g1
            exact ⟨k1, B, by rw [k2]; exact g2, g3⟩) h1⟩
        | _ => simp [Cell.same] at hb
      | bsl id k =>
        cases d with
        | bsl id2 k2 =>
          simp [Cell.same] at hb
          obtain ⟨e1, e2⟩ := hb
          subst e1 e2
          have hlt : id < n0 := by simp [cstOk] at hc; exact hc.1
          obtain ⟨g1, B, g2, g3⟩ := hv.1
          obtain ⟨k1, k3⟩ := hM id hlt g1
          exact ⟨k1, B, by rw [k3]; exact g2, g3⟩
        | _ => simp [Cell.same] at hb
      | _ => simp [cstOk] at hc
  | .dat t :: ks, d :: cs, v :: vs, p, hg, hv, hc, hp => by
    simp only [grab] at hg
    rw [pairs_dat] at hp
    split at hg
    · rename_i x hx
      split at hg
      · rename_i y hy
        cases hg
        refine ⟨?_, ?_⟩
        · show RepD w ok t _ [v]
          rw [thd_tcons]; exact h.toDatS hx hv.1
        · rw [ttl_tcons]; exact grab_plant h hM (ks := ks) hy hv.2 (by simpa [cstOk] using hc) hp
      · cases hg
    · cases hg
  | .own t g mu :: ks, d :: cs, v :: vs, p, hg, hv, hc, hp => by
    simp only [grab] at hg
    split at hg
    · rename_i x hx
      split at hg
      · rename_i y hy
        cases hg
        obtain ⟨g1, g2⟩ := toOwn_obj h hx hv.1
        refine ⟨?_, ?_⟩
        · rcases g2 with ⟨e, id, rfl, e2, _, _⟩ | ⟨rfl, e2, _⟩
          · obtain ⟨k1, k2⟩ := hp g (some id) (by simp [pairs])
            exact ⟨k1, by rw [k2]; exact e2, g1⟩
          · obtain ⟨k1, k2⟩ := hp g none (by simp [pairs])
            exact ⟨k1, by rw [k2]; exact e2, g1⟩
        · rw [ttl_tcons]
          refine grab_plant h hM (ks := ks) hy hv.2 (by simpa [cstOk] using hc) (fun i s hi => hp i s ?_)
          cases d <;> simp [pairs, hi]
      · cases hg
    · cases hg

/-- The objects that are planted. -/
theorem grab_obs (h : Sim F ι ok N σ a w) : ∀ {ks : List CK} {cs : List Cell} {vs : List Value} {p : (tupT (pay ks)).den}, grab σ ks cs = some p → All2 (RepC w ok ι N) cs vs →
    (∀ i b, look (plantObs ks p) i = some b → ∃ s t xs mu, (i, s) ∈ pairs ks cs ∧ b = some ⟨true, .arr t xs mu⟩ ∧ ObjRep w ok ι N (.arr t xs mu) (valOf ι s) ∧ ∀ id, s = some id → ∃ e' ys m, σ.ob id = some (.arr e' ys m)) ∧
    (∀ i, look (plantObs ks p) i = none → i ∉ tgts ks)
  | [], [], [], _, _, _ => ⟨fun i b hb => by simp [plantObs, look] at hb, fun i _ => by simp [tgts]⟩
  | [], [], _ :: _, _, _, hv => hv.elim
  | [], _ :: _, _, _, hg, _ => by simp [grab] at hg
  | .cst c :: ks, [], _, _, hg, _ => by simp [grab] at hg
  | .dat t :: ks, [], _, _, hg, _ => by simp [grab] at hg
  | .own t g mu :: ks, [], _, _, hg, _ => by simp [grab] at hg
  | _ :: _, _ :: _, [], _, _, hv => hv.elim
  | .cst c :: ks, d :: cs, v :: vs, p, hg, hv => by
    simp only [grab] at hg
    rw [pairs_cst]
    cases hb : c.same d with
    | false => simp [hb] at hg
    | true =>
      simp only [hb, cond_true] at hg
      exact grab_obs h (ks := ks) hg hv.2
  | .dat t :: ks, d :: cs, v :: vs, p, hg, hv => by
    simp only [grab] at hg
    rw [pairs_dat]
    split at hg
    · rename_i x hx
      split at hg
      · rename_i y hy
        cases hg
        have := grab_obs h (ks := ks) hy hv.2
        simp only [plantObs, ttl_tcons]
        exact this
      · cases hg
    · cases hg
  | .own t g mu :: ks, d :: cs, v :: vs, p, hg, hv => by
    simp only [grab] at hg
    split at hg
    · rename_i x hx
      split at hg
      · rename_i y hy
        cases hg
        obtain ⟨g1, g2⟩ := toOwn_obj h hx hv.1
        obtain ⟨q1, q2⟩ := grab_obs h (ks := ks) hy hv.2
        simp only [plantObs, ttl_tcons, thd_tcons]
        refine ⟨fun i b hb => ?_, fun i hi => ?_⟩
        · rw [look_cons] at hb
          split at hb
          · rename_i e; subst e; cases hb
            rcases g2 with ⟨e, id, rfl, e2, e3, e4⟩ | ⟨rfl, e2, e3, e5⟩
            · refine ⟨some id, t, x, mu, by simp [pairs], rfl, by rw [e2] at e4; exact e4, fun j hj => by cases hj; exact e3⟩
            · refine ⟨none, t, x, mu, by simp [pairs], rfl, ObjRep.of_sl e5 ⟨none, 0, ?_⟩, fun j hj => by cases hj⟩
              subst e3
              exact ⟨rfl, Nat.le_refl _, Nat.zero_le _, .inl ⟨rfl, rfl, rfl⟩⟩
          · obtain ⟨s, t', xs, mu', m1, m2⟩ := q1 i b hb
            exact ⟨s, t', xs, mu', by cases d <;> simp [pairs, m1], m2⟩
        · rw [look_cons] at hi
          split at hi
          · cases hi
          · rename_i hne
            simp only [tgts, List.mem_cons, not_or]
            exact ⟨fun e => hne e.symm, q2 i hi⟩
      · cases hg
    · cases hg
end
end Go.Abs

/- Abs, part X: a state that was made of what a spec took. -/
namespace Go.Abs

theorem look_app {α : Type} : ∀ (l m : List (Nat × α)) (n : Nat), look (app l m) n = match look l n with | some v => some v | none => look m n
  | [], _, _ => rfl
  | (i, v) :: r, m, n => by
    simp only [app, look_cons]
    split
    · rfl
    · exact look_app r m n
theorem look_anys : ∀ (d : List Nat) (l : List (Nat × AV)) (t : Nat), look (anys d l) t = if t ∈ d then some (.val (.one .any)) else look l t
  | [], _, _ => by simp [anys]
  | i :: r, l, t => by
    simp only [anys, look_cons, look_anys r l t, List.mem_cons]
    by_cases e : i = t
    · subst e; simp
    · have : ¬ t = i := fun h => e h.symm
      simp [e, this]
theorem look_nones : ∀ (d : List Nat) (l : List (Nat × Option Ob)) (t : Nat), look (nones d l) t = if t ∈ d then some none else look l t
  | [], _, _ => by simp [nones]
  | i :: r, l, t => by
    simp only [nones, look_cons, look_nones r l t, List.mem_cons]
    by_cases e : i = t
    · subst e; simp
    · have : ¬ t = i := fun h => e h.symm
      simp [e, this]

section
variable {P : Program} {R : Type} {F : Fr} {ι ι' : Nat → Value} {ok : Ok} {N M : Nat → Prop} {σ σ0 : St} {a : Act} {w : World} {o : Oper} {r : R}

theorem freezeCk_ind {Q : St → St → Prop} (hr : ∀ σ, Q σ σ) (ht : ∀ a b c, Q a b → Q b c → Q a c) (h1 : ∀ σ c, Q σ (σ.freeze1 c)) : ∀ (ks : List CK) (cs : List Cell) (σ : St), Q σ (freezeCk σ ks cs)
  | [], [], σ => hr σ
  | [], _ :: _, σ => hr σ
  | .cst _ :: _, [], σ => hr σ
  | .dat _ :: _, [], σ => hr σ
  | .own _ _ .wr :: _, [], σ => hr σ
  | .own _ _ (.mp _ _) :: _, [], σ => hr σ
  | .own _ _ (.cp _) :: _, [], σ => hr σ
  | .own _ _ .fr :: _, [], σ => hr σ
  | .cst _ :: ks, _ :: cs, σ => freezeCk_ind hr ht h1 ks cs σ
  | .dat _ :: ks, c :: cs, σ => ht _ _ _ (h1 σ c) (freezeCk_ind hr ht h1 ks cs _)
  | .own _ _ .fr :: ks, c :: cs, σ => ht _ _ _ (h1 σ c) (freezeCk_ind hr ht h1 ks cs _)
  | .own _ _ .wr :: ks, _ :: cs, σ => freezeCk_ind hr ht h1 ks cs σ
  | .own _ _ (.mp _ _) :: ks, _ :: cs, σ => freezeCk_ind hr ht h1 ks cs σ
  | .own _ _ (.cp _) :: ks, _ :: cs, σ => freezeCk_ind hr ht h1 ks cs σ

theorem Sim.freezeCk : ∀ (ks : List CK) (cs : List Cell) {ok : Ok} {σ : St}, Sim F ι ok N σ a w → ∃ ok', Sim F ι ok' N (freezeCk σ ks cs) a w ∧ ok.Le ok' := by
  intro ks cs ok σ h
  exact freezeCk_ind (Q := fun σ σ' => ∀ ok, Sim F ι ok N σ a w → ∃ ok', Sim F ι ok' N σ' a w ∧ ok.Le ok') (fun σ ok h => ⟨ok, h, Ok.Le.refl ok⟩)
    (fun _ _ _ h1 h2 ok h => by
      obtain ⟨o1, s1, l1⟩ := h1 ok h
      obtain ⟨o2, s2, l2⟩ := h2 o1 s1
      exact ⟨o2, s2, l1.trans l2⟩) (fun σ c ok h => h.freeze1 c) ks cs σ ok h

theorem freeze1_box (σ : St) (c : Cell) (i : Nat) (ds : List Cell) (h : σ.ob i = some (.box ds)) : (σ.freeze1 c).ob i = some (.box ds) := by
  unfold St.freeze1
  split
  · split
    · rename_i id _ t xs hl
      have e : id ≠ i := fun e => by subst e; rw [hl] at h; cases h
      simpa [St.ob, look_cons, e] using h
    · exact h
  · exact h
theorem freezeCk_box (ks : List CK) (cs : List Cell) (σ : St) : ∀ (i : Nat) (ds : List Cell), σ.ob i = some (.box ds) → (Abs.freezeCk σ ks cs).ob i = some (.box ds) :=
  freezeCk_ind (Q := fun σ σ' => ∀ (i : Nat) (ds : List Cell), σ.ob i = some (.box ds) → σ'.ob i = some (.box ds)) (fun _ _ _ h => h) (fun _ _ _ h1 h2 i ds h => h2 i ds (h1 i ds h)) freeze1_box ks cs σ
theorem freeze1_arr (σ : St) (c : Cell) (i : Nat) (h : ∃ t xs mu, σ.ob i = some (.arr t xs mu)) : ∃ t xs mu, (σ.freeze1 c).ob i = some (.arr t xs mu) := by
  unfold St.freeze1
  split
  · split
    · rename_i id _ t xs hl
      by_cases e : id = i
      · subst e; exact ⟨t, xs, .fr, by simp [St.ob, look_cons]⟩
      · obtain ⟨t', xs', mu', h⟩ := h; exact ⟨t', xs', mu', by simpa [St.ob, look_cons, e] using h⟩
    · exact h
  · exact h
theorem freezeCk_arr (ks : List CK) (cs : List Cell) (σ : St) : ∀ (i : Nat), (∃ t xs mu, σ.ob i = some (.arr t xs mu)) → ∃ t xs mu, (Abs.freezeCk σ ks cs).ob i = some (.arr t xs mu) :=
  freezeCk_ind (Q := fun σ σ' => ∀ (i : Nat), (∃ t xs mu, σ.ob i = some (.arr t xs mu)) → ∃ t xs mu, σ'.ob i = some (.arr t xs mu)) (fun _ _ h => h) (fun _ _ _ h1 h2 i h => h2 i (h1 i h)) freeze1_arr ks cs σ
theorem freezeCk_frm (ks : List CK) (cs : List Cell) (σ : St) : OpFrm σ (Abs.freezeCk σ ks cs) :=
  freezeCk_ind OpFrm.refl (fun _ _ _ => OpFrm.trans) OpFrm.freeze1 ks cs σ

theorem OpFrm.get {σ σ' : St} (h : OpFrm σ σ') (t : Nat) : σ'.get t = σ.get t := by unfold St.get; rw [h.tm]

/-! ### Slots -/
def Tvs (a : Act) : List (Nat × Bool × List CK) → List Value → Prop
  | [], vs => vs = []
  | (t, false, ks) :: r, vs => ks.length = 1 ∧ ∃ vs', vs = a.tmps.getD t undef :: vs' ∧ Tvs a r vs'
  | (t, true, ks) :: r, vs => ∃ us vs' : List Value, vs = us ++ vs' ∧ us.length = ks.length ∧ a.tmps.getD t undef = .agg us.toArray ∧ Tvs a r vs'

theorem cellsT_ok (h : Sim F ι ok N σ a w) : ∀ {tms : List (Nat × Bool × List CK)} {cs : List Cell}, cellsT σ tms = some cs → ∃ vs, All2 (RepC w ok ι N) cs vs ∧ Tvs a tms vs ∧ cs.length = (cksT tms).length
  | [], cs, hc => by cases hc; exact ⟨[], trivial, rfl, rfl⟩
  | (t, ag, ks) :: r, cs, hc => by
    simp only [cellsT] at hc
    split at hc
    · cases hc
    · rename_i cs' hcs
      obtain ⟨vs, h1, h2, h3⟩ := cellsT_ok h hcs
      have ht := h.tms t
      split at hc
      · rename_i c hg
        rw [hg] at ht
        cases hb : Nat.beq ks.length 1 with
        | false => simp [hb] at hc
        | true =>
          simp only [hb, cond_true] at hc
          cases hc
          have hb := Nat.eq_of_beq_eq_true hb
          exact ⟨_ :: vs, ⟨ht, h1⟩, ⟨hb, vs, rfl, h2⟩, by simp [cksT, h3, hb]; omega⟩
      · rename_i ds hg
        rw [hg] at ht
        cases hb : Nat.beq ks.length ds.length with
        | false => simp [hb] at hc
        | true =>
          simp only [hb, cond_true] at hc
          cases hc
          have hb := Nat.eq_of_beq_eq_true hb
          obtain ⟨us, e, hu⟩ := ht
          exact ⟨us ++ vs, All2.app hu h1, ⟨us, vs, rfl, by rw [← hu.len, hb], e, h2⟩, by simp [cksT, h3, hb]⟩
      · cases hc

theorem putT_ok : ∀ {tms : List (Nat × Bool × List CK)} {cs : List Cell} {vs more : List Value}, Tvs a tms vs → All2 (RepC w ok ι N) cs (vs ++ more) →
    (∀ t av, look (putT tms cs) t = some av → RepAV w ok ι N av (a.tmps.getD t undef)) ∧ ∀ t, look (putT tms cs) t = none ↔ t ∉ fsts tms
  | [], cs, vs, more, _, _ => ⟨fun t av h => by simp [putT, look] at h, fun t => by simp [putT, look, fsts]⟩
  | (t0, false, ks) :: r, cs, vs, more, ⟨hk, vs', e, h2⟩, hv => by
    subst e
    cases cs with
    | nil => exact hv.elim
    | cons c cs =>
      obtain ⟨q1, q2⟩ := putT_ok (tms := r) (cs := cs) (vs := vs') (more := more) h2 hv.2
      have e1 : (c :: cs).drop ks.length = cs := by rw [hk]; rfl
      refine ⟨fun t av ht => ?_, fun t => ?_⟩
      · simp only [putT, look_cons, e1] at ht
        split at ht
        · rename_i e; subst e; cases ht; exact hv.1
        · exact q1 t av ht
      · simp only [putT, look_cons, e1, fsts, List.mem_cons, not_or]
        by_cases e : t0 = t
        · subst e; simp
        · have : ¬ t = t0 := fun h => e h.symm
          simp [e, this, q2 t]
  | (t0, true, ks) :: r, cs, vs, more, ⟨us, vs', e, hl, hag, h2⟩, hv => by
    subst e
    have hv1 := hv.take ks.length
    have hv2 := hv.drop ks.length
    rw [← hl] at hv1 hv2
    rw [List.append_assoc, List.take_left' rfl] at hv1
    rw [List.append_assoc, List.drop_left' rfl] at hv2
    obtain ⟨q1, q2⟩ := putT_ok (tms := r) (cs := cs.drop us.length) (vs := vs') (more := more) h2 hv2
    refine ⟨fun t av ht => ?_, fun t => ?_⟩
    · simp only [putT, look_cons, ← hl] at ht
      split at ht
      · rename_i e; subst e; cases ht; exact ⟨us, hag, hv1⟩
      · exact q1 t av ht
    · simp only [putT, look_cons, ← hl, fsts, List.mem_cons, not_or]
      by_cases e : t0 = t
      · subst e; simp
      · have : ¬ t = t0 := fun h => e h.symm
        simp [e, this, q2 t]

/-! ### Boxes -/
def Bvs (w : World) (ok : Ok) (ι : Nat → Value) (σ : St) : List (Nat × List CK) → List Value → Prop
  | [], vs => vs = []
  | (id, ks) :: r, vs => ∃ (us vs' : List Value) (B : Nat) (T : TypeId), vs = us ++ vs' ∧ us.length = ks.length ∧ ι id = .pointer (some ⟨B, 0, none⟩) ∧ w.heap[B]? = some (.cells us.toArray T (0, 0)) ∧ (∀ j, ¬ok B j) ∧ (∃ ds, σ.ob id = some (.box ds)) ∧ Bvs w ok ι σ r vs'

theorem cellsB_ok {τ : St} (hτ : ∀ id ds, τ.ob id = some (.box ds) → σ.ob id = some (.box ds)) (h : Sim F ι ok N σ a w) : ∀ {bxs : List (Nat × List CK)} {cs : List Cell}, cellsB τ bxs = some cs → ∃ vs, All2 (RepC w ok ι N) cs vs ∧ Bvs w ok ι σ bxs vs ∧ cs.length = (cksB bxs).length
  | [], cs, hc => by cases hc; exact ⟨[], trivial, rfl, rfl⟩
  | (id, ks) :: r, cs, hc => by
    simp only [cellsB] at hc
    split at hc
    · cases hc
    · rename_i cs' hcs
      obtain ⟨vs, h1, h2, h3⟩ := cellsB_ok hτ h hcs
      split at hc
      · rename_i ds hg
        have hg := hτ id ds hg
        obtain ⟨_, ⟨B, c, T, hV, m1, m2, m3⟩, _⟩ := h.objs id _ hg
        cases hb : Nat.beq ks.length ds.length with
        | false => simp [hb] at hc
        | true =>
          simp only [hb, cond_true] at hc
          cases hc
          have hb := Nat.eq_of_beq_eq_true hb
          exact ⟨c.toList ++ vs, All2.app m2 h1, ⟨c.toList, vs, B, T, rfl, by rw [← m2.len, hb], hV, by simpa using m1, m3, ⟨ds, hg⟩, h2⟩, by simp [cksB, h3, hb]⟩
      · cases hc

theorem putB_ok : ∀ {bxs : List (Nat × List CK)} {cs : List Cell} {vs more : List Value}, Bvs w ok ι σ bxs vs → All2 (RepC w ok ι' M) cs (vs ++ more) →
    (∀ id b, look (putB bxs cs) id = some b → ∃ ds, b = some ⟨true, .box ds⟩ ∧ ObjRep w ok ι' M (.box ds) (ι id) ∧ ∃ es, σ.ob id = some (.box es)) ∧ ∀ id, look (putB bxs cs) id = none ↔ id ∉ fsts bxs
  | [], cs, vs, more, _, _ => ⟨fun t av h => by simp [putB, look] at h, fun t => by simp [putB, look, fsts]⟩
  | (t0, ks) :: r, cs, vs, more, ⟨us, vs', B, T, e, hl, hV, m1, m3, hob, h2⟩, hv => by
    subst e
    have hv1 := hv.take ks.length
    have hv2 := hv.drop ks.length
    rw [← hl] at hv1 hv2
    rw [List.append_assoc, List.take_left' rfl] at hv1
    rw [List.append_assoc, List.drop_left' rfl] at hv2
    obtain ⟨q1, q2⟩ := putB_ok (bxs := r) (cs := cs.drop us.length) (vs := vs') (more := more) h2 hv2
    refine ⟨fun t av ht => ?_, fun t => ?_⟩
    · simp only [putB, look_cons, ← hl] at ht
      split at ht
      · rename_i e; subst e; cases ht
        exact ⟨_, rfl, ⟨B, us.toArray, T, hV, m1, by simpa using hv1, m3⟩, hob⟩
      · exact q1 t av ht
    · simp only [putB, look_cons, ← hl, fsts, List.mem_cons, not_or]
      by_cases e : t0 = t
      · subst e; simp
      · have : ¬ t = t0 := fun h => e h.symm
        simp [e, this, q2 t]

/-! ### Slices that keep their numbers -/
theorem cellsA_ok {τ : St} (hτ : ∀ id, (∃ t xs mu, τ.ob id = some (.arr t xs mu)) → ∃ t xs mu, σ.ob id = some (.arr t xs mu)) (h : Sim F ι ok N σ a w) : ∀ {ars : List (Nat × Ty × MK)} {cs : List Cell}, cellsA τ ars = some cs →
    All2 (RepC w ok ι N) cs ((fsts ars).map ι) ∧ cs.length = (cksA ars).length ∧ (∀ i s, (i, s) ∈ pairs (cksA ars) cs → s = some i) ∧ tgts (cksA ars) = fsts ars
  | [], cs, hc => by cases hc; exact ⟨trivial, rfl, fun i s h => by simp [pairs, cksA] at h, rfl⟩
  | (id, t, mu) :: r, cs, hc => by
    simp only [cellsA] at hc
    split at hc
    · cases hc
    · rename_i cs' hcs
      obtain ⟨h1, h2, h3, h4⟩ := cellsA_ok hτ h hcs
      split at hc
      · rename_i t' xs m hg
        cases hc
        obtain ⟨t2, xs2, m2, hg2⟩ := hτ id ⟨_, _, _, hg⟩
        obtain ⟨g1, hO, _⟩ := h.objs id _ hg2
        refine ⟨⟨⟨g1, rfl, hO.val⟩, h1⟩, by simp [cksA, h2], fun i s hi => ?_, by simp [cksA, tgts, fsts, h4]⟩
        simp only [cksA, pairs, List.mem_cons] at hi
        rcases hi with e | hi
        · cases e; rfl
        · exact h3 i s hi
      · cases hc

theorem pairs_app : ∀ {k1 : List CK} {c1 : List Cell} (k2 : List CK) (c2 : List Cell), k1.length = c1.length → pairs (k1 ++ k2) (c1 ++ c2) = pairs k1 c1 ++ pairs k2 c2
  | [], [], _, _, _ => rfl
  | [], _ :: _, _, _, h => by simp at h
  | _ :: _, [], _, _, h => by simp at h
  | .cst c :: ks, d :: cs, k2, c2, h => by
    rw [List.cons_append, List.cons_append, pairs_cst, pairs_cst]; exact pairs_app k2 c2 (by simpa using h)
  | .dat t :: ks, d :: cs, k2, c2, h => by
    rw [List.cons_append, List.cons_append, pairs_dat, pairs_dat]; exact pairs_app k2 c2 (by simpa using h)
  | .own t g mu :: ks, d :: cs, k2, c2, h => by
    have ih := pairs_app (k1 := ks) (c1 := cs) k2 c2 (by simpa using h)
    cases d <;> simp [pairs, ih]

theorem tgts_app : ∀ (a b : List CK), tgts (a ++ b) = tgts a ++ tgts b
  | [], _ => rfl
  | .cst _ :: r, b => by simpa [tgts] using tgts_app r b
  | .dat _ :: r, b => by simpa [tgts] using tgts_app r b
  | .own _ _ _ :: r, b => by simp [tgts, tgts_app r b]

theorem keptOk_iff {σ0 σ : St} {skip used : List Nat} : ∀ {l : List (Nat × Option Ob)}, keptOk σ0 σ skip used l = true → ∀ id b, (id, b) ∈ l → ∀ ob, look σ0.hp id = some (some ob) → id ∈ skip ∨ ∃ o, look σ.hp id = some (some ⟨false, o⟩) ∧ id ∉ used
  | [], _, _, _, h, _, _ => by cases h
  | (i, b0) :: r, hk, id, b, h, ob, hob => by
    simp only [keptOk, Bool.and_eq_true] at hk
    rcases List.mem_cons.1 h with e | h
    · cases e
      have hk1 := hk.1
      rw [hob] at hk1
      simp only [Bool.or_eq_true] at hk1
      rcases hk1 with hk1 | hk1
      · exact .inl ((memB_iff _ _).1 hk1)
      · split at hk1
        · rename_i o ho
          refine .inr ⟨o, ho, fun hm => ?_⟩
          rw [(memB_iff _ _).2 hm] at hk1; cases hk1
        · cases hk1
    · exact keptOk_iff hk.2 id b h ob hob
end
end Go.Abs

/- Abs, part Y: the state that is made of what a spec took stands for the same memory. -/
namespace Go.Abs
section
variable {P : Program} {R : Type} {F : Fr} {ι ι' : Nat → Value} {ok : Ok} {N M : Nat → Prop} {σ σ0 : St} {a : Act} {w : World} {o : Oper} {r : R}

theorem mem_of_look {α : Type} {l : List (Nat × α)} {n : Nat} {v : α} (h : look l n = some v) : (n, v) ∈ l := look_mem h

theorem ob_look {σ : St} {i : Nat} {o : AO} (h : σ.ob i = some o) : ∃ d, look σ.hp i = some (some ⟨d, o⟩) := by
  unfold St.ob at h
  split at h
  · rename_i b hb; cases h; exact ⟨b.dirty, hb⟩
  · cases h

theorem take_ok {sp : Spec} (h : Sim F ι ok N σ a w) (hpin : ∀ x ∈ F.pin, x.1 < σ0.nxt) (hn : σ.n = σ0.n) {dead : List Nat} (hids : ∀ t, t ∉ dead → (σ0.get t).idsIn (· < σ0.nxt)) (hobs : ∀ id o, σ0.ob id = some o → id < σ0.nxt ∧ o.idsIn (· < σ0.nxt))
    (htm : ∀ t, t ∉ dead → σ.get t = σ0.get t) (hcl : ∀ id o, look σ.hp id = some (some ⟨false, o⟩) → id < σ0.nxt → id ∉ sp.skip → σ0.ob id = some o)
    {p : sp.ty.den} (ht : sp.take σ0 σ = some p) :
    ∃ ι' ok' N', Sim F ι' ok' N' (sp.mk' σ0 dead p) a w ∧ (∀ i, N' i → i < sp.nxt) ∧ σ0.nxt ≤ sp.nxt := by
  unfold Spec.take at ht
  split at ht
  · cases ht
  · rename_i cs hcs
    simp only at ht
    cases hb : nodupB (srcs sp.cks cs) && nodupB (tgts (cksT sp.tms ++ cksB sp.bxs) ++ (fsts sp.ars ++ fsts sp.bxs)) && allGe σ0.nxt (tgts (cksT sp.tms ++ cksB sp.bxs)) && allLt sp.nxt (tgts (cksT sp.tms ++ cksB sp.bxs)) && Nat.ble σ0.nxt sp.nxt &&
        allLt σ0.nxt (fsts sp.ars ++ fsts sp.bxs) && cstOk σ0.nxt sp.cks && allLt σ0.n (fsts sp.tms) && keptOk σ0 (freezeCk σ sp.cks cs) sp.skip (srcs sp.cks cs) σ0.hp with
    | false => rw [hb] at ht; cases ht
    | true =>
      rw [hb] at ht
      simp only [cond_true] at ht
      simp only [Bool.and_eq_true] at hb
      obtain ⟨⟨⟨⟨⟨⟨⟨⟨b1, b2⟩, b3⟩, b4⟩, b5⟩, b6⟩, b7⟩, b8⟩, b9⟩ := hb
      have b1 := (nodupB_iff _).1 b1
      have b2 := (nodupB_iff _).1 b2
      have b3 := (allGe_iff _ _).1 b3
      have b4 := (allLt_iff _ _).1 b4
      have b5 := Nat.le_of_ble_eq_true b5
      have b6 := (allLt_iff _ _).1 b6
      have b9 := fun id b hm ob hob => keptOk_iff b9 id b hm ob hob
      -- the state when all that must be is frozen
      obtain ⟨ok1, h1, l1⟩ := h.freezeCk sp.cks cs
      have hbox := freezeCk_box sp.cks cs σ
      have harr := freezeCk_arr sp.cks cs σ
      have hfrm := freezeCk_frm sp.cks cs σ
      generalize hσ1 : freezeCk σ sp.cks cs = σ1 at *
      -- cells
      unfold Spec.cells at hcs
      split at hcs
      case h_2 => cases hcs
      rename_i csT csB csA hT hB hA
      cases hcs
      obtain ⟨vT, t1, t2, t3⟩ := cellsT_ok h hT
      have t1 : All2 (RepC w ok1 ι N) csT vT := All2.mono (fun _ _ hc => RepC.mono (ext_ok l1) (fun _ _ => rfl) (fun _ h => h) hc) t1
      obtain ⟨vB, u1, u2, u3⟩ := cellsB_ok (τ := σ) hbox h1 hB
      obtain ⟨v1, v2, v3, v4⟩ := cellsA_ok (τ := σ) harr h1 hA
      have hv : All2 (RepC w ok1 ι N) (csT ++ (csB ++ csA)) (vT ++ (vB ++ (fsts sp.ars).map ι)) := All2.app t1 (All2.app u1 v1)
      have hlen := grab_len ht
      have htg : tgts sp.cks = tgts (cksT sp.tms ++ cksB sp.bxs) ++ fsts sp.ars := by
        show tgts (cksT sp.tms ++ (cksB sp.bxs ++ cksA sp.ars)) = _
        rw [← List.append_assoc, tgts_app, v4]
      have hpr : pairs sp.cks (csT ++ (csB ++ csA)) = pairs (cksT sp.tms ++ cksB sp.bxs) (csT ++ csB) ++ pairs (cksA sp.ars) csA := by
        show pairs (cksT sp.tms ++ (cksB sp.bxs ++ cksA sp.ars)) (csT ++ (csB ++ csA)) = _
        rw [← List.append_assoc, ← List.append_assoc, pairs_app _ _ (by simp [t3, u3])]
      have hfst := pairs_tgts hlen
      have hsrc := pairs_srcs hlen
      have hnd : (tgts sp.cks).Nodup := by
        rw [htg]
        rw [← List.append_assoc] at b2
        exact (List.nodup_append.1 b2).1
      have hpn : ((pairs sp.cks (csT ++ (csB ++ csA))).map (·.1)).Nodup := by rw [hfst]; exact hnd
      have hps : ((pairs sp.cks (csT ++ (csB ++ csA))).filterMap (·.2)).Nodup := by rw [hsrc]; exact b1
      have hlow : ∀ i s, (i, s) ∈ pairs sp.cks (csT ++ (csB ++ csA)) → i < σ0.nxt → s = some i := fun i s hi hlt => by
        rw [hpr] at hi
        rcases List.mem_append.1 hi with hi | hi
        · have : i ∈ tgts (cksT sp.tms ++ cksB sp.bxs) := by
            rw [← pairs_tgts (cs := csT ++ csB) (by simp [t3, u3])]; exact List.mem_map.2 ⟨_, hi, rfl⟩
          exact absurd (b3 i this) (Nat.not_le.2 hlt)
        · exact v3 i s hi
      generalize hpq : pairs sp.cks (csT ++ (csB ++ csA)) = pq at *
      -- the new numbers
      let ι2 : Nat → Value := fun i => match look pq i with | some s => valOf ι s | none => ι i
      let N2 : Nat → Prop := fun i => (∃ s, (i, s) ∈ pq) ∨ (N i ∧ i < σ0.nxt)
      have hι2 : ∀ i, i < σ0.nxt → ι2 i = ι i := fun i hi => by
        show (match look pq i with | some s => valOf ι s | none => ι i) = ι i
        cases hl : look pq i with
        | none => rfl
        | some s => have := hlow i s (look_mem hl) hi; subst this; rfl
      have hpi : ∀ i s, (i, s) ∈ pq → N2 i ∧ ι2 i = valOf ι s := fun i s hi => by
        refine ⟨.inl ⟨s, hi⟩, ?_⟩
        show (match look pq i with | some s => valOf ι s | none => ι i) = valOf ι s
        rw [look_nodup hpn hi]
      have hM : ∀ i, i < σ0.nxt → N i → N2 i ∧ ι2 i = ι i := fun i hi hNi => ⟨.inr ⟨hNi, hi⟩, hι2 i hi⟩
      have hplant : All2 (RepC w ok1 ι2 N2) (plant sp.cks p) (vT ++ (vB ++ (fsts sp.ars).map ι)) := grab_plant h1 hM ht hv b7 (by rw [hpq]; exact hpi)
      obtain ⟨ob1, ob2⟩ := grab_obs h1 ht hv
      rw [hpq] at ob1
      obtain ⟨pt1, pt2⟩ := putT_ok t2 hplant
      have hdrop : All2 (RepC w ok1 ι2 N2) ((plant sp.cks p).drop (cksT sp.tms).length) (vB ++ (fsts sp.ars).map ι) := by
        have hl : (cksT sp.tms).length = vT.length := by rw [← t3, t1.len]
        have := hplant.drop (cksT sp.tms).length
        rw [show (vT ++ (vB ++ (fsts sp.ars).map ι)).drop (cksT sp.tms).length = vB ++ (fsts sp.ars).map ι from by rw [hl, List.drop_left' rfl]] at this
        exact this
      obtain ⟨pb1, pb2⟩ := putB_ok u2 hdrop
      -- ids
      have hkeepN : ∀ c : Cell, c.idsIn N → c.idsIn (· < σ0.nxt) → c.idsIn (fun i => N i ∧ i < σ0.nxt) := fun c h1 h2 => by
        cases c <;> first | trivial | exact ⟨h1, h2⟩ | exact fun c hc => ⟨h1 c hc, h2 c hc⟩
      have hle2 : ∀ i, (N i ∧ i < σ0.nxt) → N2 i := fun i hi => .inr hi
      -- one object
      have hobj : ∀ i o, (sp.mk' σ0 dead p).ob i = some o → N2 i ∧ ObjRep w ok1 ι2 N2 o (ι2 i) ∧ (blk (ι2 i) = none ∨ ∃ s q, σ1.ob s = some q ∧ ι2 i = ι s ∧ ((i ∈ fsts sp.bxs ∧ s = i ∧ ∃ ds, q = .box ds) ∨ ((i, some s) ∈ pq ∧ ∃ e ys m, q = .arr e ys m) ∨ (s = i ∧ i ∉ srcs sp.cks (csT ++ (csB ++ csA)) ∧ i ∉ fsts sp.bxs ∧ i ∉ tgts sp.cks))) := by
        intro i o ho
        obtain ⟨dd, ho⟩ := ob_look ho
        simp only [Spec.mk', look_app] at ho
        cases hlB : look (putB sp.bxs ((plant sp.cks p).drop (cksT sp.tms).length)) i with
        | some b =>
          rw [hlB] at ho
          obtain ⟨ds, rfl, q1, es, q2⟩ := pb1 i b hlB
          cases ho
          have hin : i ∈ fsts sp.bxs := Classical.byContradiction fun hh => by rw [(pb2 i).2 hh] at hlB; cases hlB
          have hlt := b6 i (List.mem_append_right _ hin)
          have hNi := (h1.objs i _ q2).1
          rw [hι2 i hlt]
          exact ⟨(hM i hlt hNi).1, q1, .inr ⟨i, _, q2, rfl, .inl ⟨hin, rfl, es, rfl⟩⟩⟩
        | none =>
          rw [hlB] at ho
          have hnb : i ∉ fsts sp.bxs := (pb2 i).1 hlB
          cases hlO : look (plantObs sp.cks p) i with
          | some b =>
            rw [hlO] at ho
            obtain ⟨s, t, xs, mu, m1, rfl, m2, m3⟩ := ob1 i b hlO
            cases ho
            obtain ⟨k1, k2⟩ := hpi i s m1
            rw [k2]
            refine ⟨k1, m2.arr, ?_⟩
            cases s with
            | none => exact .inl rfl
            | some s =>
              obtain ⟨e', ys, m, hs⟩ := m3 s rfl
              exact .inr ⟨s, _, hs, rfl, .inr (.inl ⟨m1, e', ys, m, rfl⟩)⟩
          | none =>
            rw [hlO, look_nones] at ho
            dsimp only at ho
            have hnt := ob2 i hlO
            split at ho
            · cases ho
            · rename_i hnd'
              cases hl0 : look σ0.hp i with
              | none => rw [hl0] at ho; cases ho
              | some x =>
                rw [hl0] at ho
                cases x with
                | none => cases ho
                | some b =>
                  cases ho
                  have hob0 : σ0.ob i = some o := by simp [St.ob, hl0]
                  obtain ⟨z1, z2⟩ := hobs i o hob0
                  have hnar : i ∉ fsts sp.ars := fun hh => hnt (by rw [htg]; exact List.mem_append_right _ hh)
                  have hnskip : i ∉ sp.skip := fun hh => by
                    rcases List.mem_append.1 hh with hh | hh
                    · exact hnd' hh
                    · rcases List.mem_append.1 hh with hh | hh
                      · exact hnb hh
                      · exact hnar hh
                  rcases b9 i _ (look_mem hl0) _ hl0 with hh | ⟨o', ho', hu⟩
                  · exact absurd hh hnskip
                  · have e1 := hcl i o' (hfrm.hp i o' ho') z1 hnskip
                    have e1 : o' = o := by rw [hob0] at e1; exact (Option.some.inj e1).symm
                    rw [e1] at ho'
                    have hs1 : σ1.ob i = some o := by simp [St.ob, ho']
                    obtain ⟨g1, g2, g3⟩ := h1.objs i _ hs1
                    rw [hι2 i z1]
                    refine ⟨(hM i z1 g1).1, ?_, .inr ⟨i, _, hs1, rfl, .inr (.inr ⟨rfl, hu, hnb, hnt⟩)⟩⟩
                    have hii : o.idsIn (fun i => N i ∧ i < σ0.nxt) := by
                      have z3 := g2.ids
                      cases hbo : o with
                      | box cs => rw [hbo] at z2 z3; exact fun c hc => hkeepN c (z3 c hc) (z2 c hc)
                      | arr t xs mu => trivial
                    exact ObjRep.mono (Ext.refl _ _) (fun i hi => rfl) hle2 (fun _ _ => ⟨rfl, Ok.At.refl _ _⟩) (g2.chg (ι' := ι2) (fun i hi => hι2 i hi.2) hii)
      refine ⟨ι2, ok1, N2, ⟨fun t => ?_, fun i o ho => ?_, fun i j oi oj b hi hj hij hbi hbj => ?_, h1.oks, h1.keep, ?_, h.defs, fun x hx => ⟨(hM _ (hpin x hx) (h.pins x hx).1).1, by rw [hι2 _ (hpin x hx)]; exact (h.pins x hx).2⟩, h1.pls⟩, fun i hi => ?_, b5⟩
      · simp only [St.get, Spec.mk', look_app, look_anys]
        cases hlT : look (putT sp.tms (plant sp.cks p)) t with
        | some av => exact pt1 t av hlT
        | none =>
          simp only
          split
          · exact trivial
          · rename_i hnd
            show RepAV w ok1 ι2 N2 (σ0.get t) _
            have hr := h1.tms t
            rw [hfrm.get, htm t hnd] at hr
            have hi1 := hr.ids
            have hi2 := hids t hnd
            have hii : (σ0.get t).idsIn (fun i => N i ∧ i < σ0.nxt) := by
              cases hx : σ0.get t with
              | val x =>
                rw [hx] at hi1 hi2
                cases x with
                | one c => exact hkeepN c hi1 hi2
                | agg cs => exact fun c hc => hkeepN c (hi1 c hc) (hi2 c hc)
              | tup l =>
                rw [hx] at hi1 hi2
                intro x hxl
                have j1 := hi1 x hxl
                have j2 := hi2 x hxl
                cases x with
                | one c => exact hkeepN c j1 j2
                | agg cs => exact fun c hc => hkeepN c (j1 c hc) (j2 c hc)
            exact RepAV.mono (Ext.refl _ _) (fun _ _ => rfl) hle2 (hr.chg (ι' := ι2) (fun i hi => hι2 i hi.2) hii)
      · obtain ⟨q1, q2, q3⟩ := hobj i o ho
        refine ⟨q1, q2, fun b hb => ?_⟩
        rcases q3 with q3 | ⟨s, q, hs, e, _⟩
        · rw [q3] at hb; cases hb
        · rw [e] at hb; exact (h1.objs s q hs).2.2 b hb
      · obtain ⟨_, _, q3⟩ := hobj i oi hi
        obtain ⟨_, _, q4⟩ := hobj j oj hj
        rcases q3 with q3 | ⟨s, q, hs, es, cs1⟩
        · rw [q3] at hbi; cases hbi
        rcases q4 with q4 | ⟨s', q', hs', es', cs2⟩
        · rw [q4] at hbj; cases hbj
        rw [es] at hbi
        rw [es'] at hbj
        refine h1.apart s s' q q' b hs hs' (fun e => ?_) hbi hbj
        subst e
        rw [hs] at hs'
        cases hs'
        have hsrcm : ∀ x, (x, some s) ∈ pq → s ∈ srcs sp.cks (csT ++ (csB ++ csA)) := fun x hx => by rw [← hsrc]; exact List.mem_filterMap.2 ⟨_, hx, rfl⟩
        rcases cs1 with ⟨m1, m2, ds, m3⟩ | ⟨m1, e', ys, m, m3⟩ | ⟨m1, m2, m3, m4⟩
        · rcases cs2 with ⟨n1, n2, es, n3⟩ | ⟨n1, e', ys, m, n3⟩ | ⟨n1, n2, n3, n4⟩
          · exact hij (m2.symm.trans n2)
          · rw [m3] at n3; cases n3
          · subst m2; subst n1; exact hij rfl
        · rcases cs2 with ⟨n1, n2, es, n3⟩ | ⟨n1, e', ys, m, n3⟩ | ⟨n1, n2, n3, n4⟩
          · rw [m3] at n3; cases n3
          · exact hij (pairs_inj hps hpn m1 n1)
          · subst n1; exact n2 (hsrcm _ m1)
        · rcases cs2 with ⟨n1, n2, es, n3⟩ | ⟨n1, e', ys, m, n3⟩ | ⟨n1, n2, n3, n4⟩
          · subst m1; subst n2; exact hij rfl
          · subst m1; exact m2 (hsrcm _ n1)
          · subst m1; subst n1; exact hij rfl
      · show a.tmps.size = σ0.n
        rw [h.size, hn]
      · rcases hi with ⟨s, hi⟩ | hi
        · have : i ∈ tgts sp.cks := by rw [← hfst]; exact List.mem_map.2 ⟨_, hi, rfl⟩
          rw [htg] at this
          rcases List.mem_append.1 this with hh | hh
          · exact b4 i hh
          · exact Nat.lt_of_lt_of_le (b6 i (List.mem_append_left _ hh)) b5
        · exact Nat.lt_of_lt_of_le hi.2 b5
end
end Go.Abs

