/- The walked functions as contracts. -/
import Derived.Test.YtekpgceagamjiaaDoorA3
import Derived.Test.YtekpgceagamjiaaDoorH5
namespace Go.Proofs.YtekpgceagamjiaaDoor
open Go.Abs Go.RowKit
set_option maxRecDepth 100000
theorem after_below {w w' : World} {ok : Nat → Nat → Prop} {sig : Sig} {args : List Value} {r : sig.outs.den} {v : Value} {vs : List Value} (hb : Below w.heap.size w w') (hk : ∀ b o, ok b o → b < w.heap.size) (hv : v = tupV vs)
    (hr : ResRep w' ok sig.res (tfst (resTs sig.res) (outsP sig.pars) r) vs []) (ho : OutsRep w' ok sig.pars (tsnd (resTs sig.res) (outsP sig.pars) r) args) : After w [] ok sig args r v w' ok vs [] where
  val := hv
  keep := ⟨hb.size, fun b h _ => hb.block b h, hb.os, hb.tape, hb.output, fun b o h => ⟨h, hb.cell (hk b o h)⟩, fun b o h => .inl h⟩
  oks b o h := Nat.lt_of_lt_of_le (hk b o h) hb.size
  res := hr
  outs := ho
  nodup := List.nodup_nil
  new b h := by cases h
theorem ends_of {P : Program} {f : FuncId} {fn : Func} (hf : P.funcs[f]? = some fn) (hname : (fn.name == "runtime.NumGoroutine") = false) (hbody : fn.body.isSome = true) {args : Array Value} {w : World} {Q : Ending → World → Prop} {R : Value → World → Prop}
    (h : Calls P f args w Q) (hq : ∀ e w', Q e w' → ∃ v, e = .returned v ∧ R v w') : Go.Abs.Ends P f args w R := by
  obtain ⟨body, hbody⟩ := Option.isSome_iff_exists.1 hbody
  have hrun : (callFunc f args).run P w = .ok (.enter f args) w := by
    have hn : ¬ fn.name = "runtime.NumGoroutine" := by simpa using hname
    simp [callFunc, hf, hn, hbody]
  unfold Go.Abs.Ends
  rw [hrun]
  exact h.mono fun e w' he => hq e w' he
/-- A number's digits: by a count of rounds. -/
def digs : Nat → Nat → List UInt8
  | 0, _ => []
  | k + 1, n => if n < 10 then [UInt8.ofNat (48 + n)] else digs k (n / 10) ++ [UInt8.ofNat (48 + n % 10)]
theorem digs_eq : ∀ (k n : Nat), n < 10 ^ k → 0 < k → digs k n = Lib.decDigits n
  | 0, n, _, h => by omega
  | k + 1, n, h, _ => by
    unfold digs
    rw [Lib.decDigits]
    by_cases h1 : n < 10
    · rw [if_pos h1, dif_pos h1]
    · have hk : 0 < k := by
        rcases Nat.eq_zero_or_pos k with rfl | h2
        · simp at h; omega
        · exact h2
      rw [if_neg h1, dif_neg h1, digs_eq k (n / 10) (by rw [Nat.pow_succ] at h; omega) hk]
def textL (n : Int) : List Int := (digs 20 n.toNat).map fun b => (b.toNat : Int)
theorem textL_bytes {n : Nat} (h : n < 18446744073709551616) : bytesOf ⟨(Lib.decDigits n).toArray⟩ = textL (n : Int) := by
  unfold textL
  rw [Int.toNat_natCast, digs_eq 20 n (by omega) (by omega)]
  simp [bytesOf]
theorem digs_len : ∀ (k n : Nat), (digs k n).length ≤ k
  | 0, _ => Nat.le_refl _
  | k + 1, n => by
    unfold digs
    split
    · simp
    · have := digs_len k (n / 10)
      simp; omega
def textSig : Sig := ⟨[.val false [.int .u64]], [(false, [.dat .str])]⟩
def textFn (_ : Fu) (p : Int) : Option (List Int) := some (textL p)
def numSig : Sig := ⟨[.val false [.str]], [(false, [.dat (.int .u64)]), (false, [.dat .bool])]⟩
def u8s (l : List Int) : List UInt8 := l.map fun x => UInt8.ofNat x.toNat
def numFn (_ : Fu) (p : List Int) : Option (Int × Bool) := some (((numR (u8s p)).1 : Int), (numR (u8s p)).2)
theorem u8s_bytes (s : ByteArray) : u8s (bytesOf s) = s.data.toList := by
  unfold u8s bytesOf
  rw [List.map_map]
  have : ((fun x : Int => UInt8.ofNat x.toNat) ∘ fun b : UInt8 => (b.toNat : Int)) = id := by
    funext b
    simp
  rw [this, List.map_id]
theorem sound_text {f : FuncId} {fn : Func} (hf : Tryd.prog.funcs[f]? = some fn) (hname : (fn.name == "runtime.NumGoroutine") = false) (hbody : fn.body.isSome = true)
    (h : ∀ (n : Nat), n < 18446744073709551616 → ∀ w, Pow10At w → 2 < w.heap.size → Calls Tryd.prog f #[.int .u64 n] w fun e w' => e = .returned (.string ⟨(Lib.decDigits n).toArray⟩) ∧ Below w.heap.size w w') : Sound Tryd.prog ⟨f, textSig, textFn⟩ := by
  refine SoundF.all ?_ (winFn_res fun ks h => by simp [textSig] at h)
  intro m p r hr w ok args bs hG hA hnd hoks
  obtain ⟨v, vs', b1, b2, rfl, rfl, ⟨rfl, v2, vs2, e2, ⟨hv, hw⟩, e3⟩, rfl, rfl⟩ := hA
  simp only [List.cons.injEq, and_true] at e2 hv
  obtain ⟨rfl, rfl⟩ := e2
  subst hv
  change Int at p
  have hw : IntKind.u64.wrap p = p := hw
  have hc : textL p = r := Option.some.inj (show textFn m p = some r from hr)
  rw [IntKind.wrap_u64] at hw
  obtain ⟨n, rfl⟩ : ∃ n : Nat, p = (n : Int) := ⟨p.toNat, by omega⟩
  have hn : n < 18446744073709551616 := by omega
  have hp := hG.pow 2 (by kernel_rfl)
  refine ends_of hf hname hbody (h n hn w (fun j hj => (hp j hj).2) (hoks 2 0 (hp 0 (by omega)).1)) fun e w' he => ?_
  obtain ⟨rfl, hb⟩ := he
  refine ⟨_, rfl, ok, [.string ⟨(Lib.decDigits n).toArray⟩], [], after_below hb hoks rfl ?_ ⟨_, [], rfl, rfl⟩⟩
  refine ⟨_, [], [], [], rfl, rfl, ⟨rfl, _, [], rfl, ?_, rfl, rfl⟩, rfl, rfl⟩
  refine ⟨_, rfl, ?_, ?_⟩
  · rw [textL_bytes hn, hc]; rfl
  · have : (textL (n : Int)).length ≤ 20 := by unfold textL; rw [List.length_map]; exact digs_len _ _
    rw [hc] at this
    exact Nat.le_trans this (by unfold big; omega)
theorem text_sound : Sound Tryd.prog ⟨13, textSig, textFn⟩ := sound_text (fn := Tryd.f13) (by kernel_rfl) (by kernel_rfl) (by kernel_rfl) fun n hn w hc h2 => (text_ok n hn w hc h2).mono fun e w' ⟨h1, k, os, h3⟩ => ⟨h1, by
  rw [h3]; exact Lib.below_grow w.heap.size w (Nat.le_refl _) k os⟩
theorem rtext_sound : Sound Tryd.prog ⟨14, textSig, textFn⟩ := sound_text (fn := Tryd.f14) (by kernel_rfl) (by kernel_rfl) (by kernel_rfl) fun n hn w _ _ => (rtext_ok n hn w).mono fun e w' ⟨h1, h2⟩ => ⟨h1, by
  rw [h2]; exact Below.refl _ _⟩
theorem decV_lt {l : List UInt8} : (numR l).1 < 18446744073709551616 := by
  unfold numR
  split
  · omega
  · split
    · rename_i h; exact h.2
    · omega
theorem number_sound : Sound Tryd.prog ⟨7, numSig, numFn⟩ := by
  refine SoundF.all ?_ (winFn_res fun ks h => by simp [numSig] at h)
  intro m p r hr w ok args bs hG hA hnd hoks
  obtain ⟨v, vs', b1, b2, rfl, rfl, ⟨rfl, v2, vs2, e2, ⟨s, hs, hsb, _⟩, e3⟩, rfl, rfl⟩ := hA
  simp only [List.cons.injEq, and_true] at e2 hs
  obtain ⟨rfl, rfl⟩ := e2
  subst hs
  change List Int at p
  have hsb : bytesOf s = p := hsb
  have hc := Option.some.inj (show numFn m p = some r from hr)
  rw [← hsb, u8s_bytes] at hc
  obtain ⟨h0, te, pe, hv⟩ := hG.err 1 (by kernel_rfl)
  refine ends_of (fn := Tryd.f7) (by kernel_rfl) (by kernel_rfl) (by kernel_rfl) (number_ok s w te pe hv (hoks 1 0 h0)) fun e w' he => ?_
  obtain ⟨rfl, hb⟩ := he
  refine ⟨_, rfl, ok, [.int .u64 ((numR s.data.toList).1 : Int), .bool (numR s.data.toList).2], [], after_below hb hoks rfl ?_ ⟨_, [], rfl, rfl⟩⟩
  refine ⟨_, [.bool (numR s.data.toList).2], [], [], rfl, rfl, ⟨rfl, _, [], rfl, ⟨?_, ?_⟩, rfl, rfl⟩, _, [], [], [], rfl, rfl, ⟨rfl, _, [], rfl, ?_, rfl, rfl⟩, rfl, rfl⟩
  · rw [← hc]; rfl
  · have := decV_lt (l := s.data.toList)
    rw [← hc]
    show IntKind.u64.wrap _ = _
    rw [IntKind.wrap_u64]
    show ((numR s.data.toList).1 : Int) % 18446744073709551616 = ((numR s.data.toList).1 : Int)
    omega
  · rw [← hc]; rfl
end Go.Proofs.YtekpgceagamjiaaDoor
