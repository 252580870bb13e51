/- Part 5 of the proof. -/
import Derived.Test.YtpfjjbpoikgocaaGreatP4
noncomputable section
namespace Go.Proofs.YtpfjjbpoikgocaaGreat
open Go.Abs
set_option maxRecDepth 100000
theorem Qdm {g : Int} : ∀ (F : Nat) (l : List Blk) (rs : List (List Int)) (bl : Nat) (la : Int), Jk l → l.length < F →
  ∃ P l' rs' la', rd g F l rs bl la = (l', rs', bl + P.length, la') ∧ l = P ++ l' ∧ Ch g rs la P rs' la' ∧ opn g ((rs'.length + 1 : Nat) : Int) la' l' = none ∧ (Z6 la → Z6 la') ∧ rs'.length ≤ rs.length + P.length
 | 0, _, _, _, _, _, h => by omega
 | F + 1, l, rs, bl, la, hl, hF => by
  cases ho : opn g ((rs.length + 1 : Nat) : Int) la l with
  | none => exact ⟨[], l, rs, la, by simp only [rd, ho]; rfl, rfl, .nil _ _, ho, id, by simp⟩
  | some x =>
   obtain ⟨r, s, k⟩ := x
   obtain ⟨h1, h2, h3, h4, h5, h6, h7, h8⟩ := (QdE hl).1 ho
   have hk := Qaj r
   obtain ⟨P, l', rs', la', q1, q2, q3, q4, q5, q6⟩ := Qdm F (l.drop k) (rs ++ [r]) (bl + k) s (fun b hb => hl b (List.mem_of_mem_drop hb)) (by rw [List.length_drop]; omega)
   refine ⟨frame g ((rs.length + 1 : Nat) : Int) s la r ++ P, l', rs', la', ?_, ?_, .cons rs la r s P rs' la' h1 h3 h4 h5 q3, q4, fun _ => q5 h4, ?_⟩
   ·simp only [rd, ho]
    rw [q1, List.length_append, Q2, ← h6, Nat.add_assoc]
   ·rw [List.append_assoc, ← q2, ← h8, List.take_append_drop]
   ·rw [List.length_append, Q2]
    rw [List.length_append, List.length_singleton] at q6
    omega
theorem Qm1 {g : Int} (hg : Z6 g) (gr : Int) : ∀ (F : Nat) (l : List Blk) (rs : List (List Int)) (bl : Nat) (la : Int) (n : Nat), Jk l → l.length < F → F ≤ n → Z6 la → rs.length + l.length ≤ 1000000 → bl + l.length ≤ 1000000 →
  QaG (Qz.a mx g) n (l, rs, (bl : Int), la, gr) = some ((rd g F l rs bl la).1, (rd g F l rs bl la).2.1, (((rd g F l rs bl la).2.2.1 : Nat) : Int), (rd g F l rs bl la).2.2.2, gr)
 | 0, _, _, _, _, _, _, h, _, _, _, _ => by omega
 | F + 1, l, rs, bl, la, n, hl, hF, hn, hla, hrs, hbl => by
  obtain ⟨n, rfl⟩ : ∃ m, n = m + 1 := ⟨n - 1, by omega⟩
  have e1 : IntKind.u32.wrap (IntKind.i64.wrap ((rs.length : Int) + 1)) = ((rs.length + 1 : Nat) : Int) := by
   rw [w64 (by omega) (by omega), wu32 (by omega) (by omega)]; omega
  have ho := QpK (g := g) (n := ((rs.length + 1 : Nat) : Int)) (p := la) hg.1 (by omega) hla.1 hl (by omega)
  cases hop : opn g ((rs.length + 1 : Nat) : Int) la l with
  | none =>
   rw [hop] at ho
   have : Qz.a mx g (l, rs, (bl : Int), la, gr) = some (.fin (l, rs, (bl : Int), la, gr)) := by
    simp only [Qz.a, e1, ho, Option.bind_some, Bool.not_false, cond_true]
   rw [Jr this]
   simp only [rd, hop]
  | some x =>
   obtain ⟨r, s, k⟩ := x
   rw [hop] at ho
   obtain ⟨h1, h2, h3, h4, h5, h6, h7, h8⟩ := (QdE hl).1 hop
   have hk := Qaj r
   have c1 : Nat.ble (rs.length + 1) 4294967296 = true := ZQ (by omega)
   have c2 : decide ((k : Int) ≤ (l.length : Int)) = true := decide_eq_true (by omega)
   have hlen : (l.drop k).length = l.length - k := List.length_drop
   have : Qz.a mx g (l, rs, (bl : Int), la, gr) = some (.next (l.drop k, rs ++ [r], ((bl + k : Nat) : Int), s, gr)) := by
    simp only [Qz.a, e1, ho, Option.bind_some, Bool.not_true, cond_false, List.length_singleton, c1, cond_true, lez, c2, Int.le_refl, decide_true, Bool.and_self, Int.toNat_natCast, List.take_length]
    rw [w64 (by omega) (by omega)]
    rfl
   rw [Jl this, Qm1 hg gr F (l.drop k) (rs ++ [r]) (bl + k) s n (fun b hb => hl b (List.mem_of_mem_drop hb)) (by omega) (by omega) h4 (by rw [List.length_append, List.length_singleton]; omega) (by omega)]
   simp only [rd, hop]
def grOf (g : Int) (l : List Blk) : Int := l.foldl (fun a b => if QaI b = g then mxI (mxI a (JY b)) (Qa1 b) else a) 0
theorem Qbv (a b : Int) : a ≤ mxI a b ∧ b ≤ mxI a b := by unfold mxI; split <;> omega
theorem QdG {a b c : Int} (h1 : a ≤ c) (h2 : b ≤ c) : mxI a b ≤ c := by unfold mxI; split <;> omega
theorem QnH {g : Int} : ∀ {l : List Blk} {a : Int}, a ≤ l.foldl (fun a b => if QaI b = g then mxI (mxI a (JY b)) (Qa1 b) else a) a ∧
  ∀ b ∈ l, QaI b = g → JY b ≤ l.foldl (fun a b => if QaI b = g then mxI (mxI a (JY b)) (Qa1 b) else a) a ∧ Qa1 b ≤ l.foldl (fun a b => if QaI b = g then mxI (mxI a (JY b)) (Qa1 b) else a) a
 | [], a => ⟨Int.le_refl _, fun b hb => by cases hb⟩
 | c :: l, a => by
  rw [List.foldl_cons]
  obtain ⟨h1, h2⟩ := QnH (l := l) (a := if QaI c = g then mxI (mxI a (JY c)) (Qa1 c) else a)
  refine ⟨Int.le_trans ?_ h1, fun b hb hbg => ?_⟩
  ·split
   ·exact Int.le_trans (Qbv a (JY c)).1 (Qbv _ (Qa1 c)).1
   ·exact Int.le_refl _
  ·rcases List.mem_cons.1 hb with rfl | hb
   ·rw [if_pos hbg] at h1 ⊢
    exact ⟨Int.le_trans (Int.le_trans (Qbv a (JY b)).2 (Qbv _ (Qa1 b)).1) h1, Int.le_trans (Qbv _ (Qa1 b)).2 h1⟩
   ·exact h2 b hb hbg
theorem QqH {g : Int} {l : List Blk} {b : Blk} (hb : b ∈ l) (hg : QaI b = g) : JY b ≤ grOf g l ∧ Qa1 b ≤ grOf g l := (QnH (l := l) (a := 0)).2 b hb hg
theorem QqX {b : Blk} (h : b.length = 64 ∧ QA b) : Z6 (JY b) := JQ (Z5 (Zf h.2 _) _) (by rw [List.length_drop, List.length_take]; omega)
theorem Qq0 {b : Blk} (h : b.length = 64 ∧ QA b) : Z6 (Qa1 b) := JQ (Z5 (Zf h.2 _) _) (by rw [List.length_drop, List.length_take]; omega)
theorem genU {b : Blk} (h : b.length = 64 ∧ QA b) : Z6 (QaI b) := JQ (Zf h.2 _) (by rw [List.length_take]; omega)
theorem Qpo {g : Int} : ∀ {l : List Blk} {a : Int}, Jk l → Z6 a → Z6 (l.foldl (fun a b => if QaI b = g then mxI (mxI a (JY b)) (Qa1 b) else a) a)
 | [], _, _, h => h
 | c :: l, a, hl, h => by
  rw [List.foldl_cons]
  refine Qpo (l := l) (fun b hb => hl b (by simp [hb])) ?_
  have h1 := QqX (hl c (by simp))
  have h2 := Qq0 (hl c (by simp))
  split
  ·have := Qbv a (JY c)
   exact ⟨Int.le_trans h.1 (Int.le_trans this.1 (Qbv _ _).1), QdG (QdG h.2 h1.2) h2.2⟩
  ·exact h
theorem Qlr {g : Int} {l : List Blk} (hl : Jk l) : Z6 (grOf g l) := Qpo hl ⟨by decide, by decide⟩
theorem get4 {b : Blk} (h : b.length = 64 ∧ QA b) : QJ mx ((b.take 4).drop 0) = some (QaI b) := QjB (Zf h.2 _) (by rw [List.drop_zero, List.length_take]; omega)
theorem Qrc {b : Blk} (h : b.length = 64 ∧ QA b) : QJ mx ((b.take 12).drop 8) = some (JY b) := QjB (Z5 (Zf h.2 _) _) (by rw [List.length_drop, List.length_take]; omega)
theorem Qrb {b : Blk} (h : b.length = 64 ∧ QA b) : QJ mx ((b.take 16).drop 12) = some (Qa1 b) := QjB (Z5 (Zf h.2 _) _) (by rw [List.length_drop, List.length_take]; omega)
theorem Qp1 {g : Int} {l : List Blk} (hl : Jk l) (hlen : l.length ≤ 1000000) (rs : List (List Int)) (bl la : Int) (x : List (List Int) × Int × Int × Int) :
  iter mx (Qz.b mx g (l, x) (l.length : Int)) ((0 : Int), rs, bl, la, (0 : Int)) = some (rs, bl, la, grOf g l) := by
 refine Qak (f := Qz.b mx g (l, x) (l.length : Int)) l [] (fun a b => if QaI b = g then mxI (mxI a (JY b)) (Qa1 b) else a) 0 (fun k s => ((k : Int), rs, bl, la, s)) (Z7 (by omega)) (fun k hk => ?_)
  (by simp only [Qz.b, nltd, cond_false]; rfl)
 have hb := hl _ (Zt (d := []) hk)
 have c1 : decide ((4 : Int) ≤ ((l.getD k []).length : Int)) = true := decide_eq_true (by omega)
 have c2 : decide ((12 : Int) ≤ ((l.getD k []).length : Int)) = true := decide_eq_true (by omega)
 have c3 : decide ((16 : Int) ≤ ((l.getD k []).length : Int)) = true := decide_eq_true (by omega)
 simp only [Qz.b, ltd hk, lez, Bool.and_self, cond_true, Int.toNat_natCast, c1, c2, c3, Int.le_refl, decide_true, get4 hb, Qrc hb, Qrb hb, Option.bind_some, ieq]
 rw [Z8 (by omega)]
 by_cases h : QaI (l.getD k []) = g
 ·rw [decide_eq_true h, if_pos h]; rfl
 ·rw [decide_eq_false h, if_neg h]; rfl
def Ve (g : Int) (l : List Blk) : List (List Int) × Int × Int × Int :=
 ((rd g (l.length + 1) l [] 0 0).2.1, (((rd g (l.length + 1) l [] 0 0).2.2.1 : Nat) : Int), (rd g (l.length + 1) l [] 0 0).2.2.2, grOf g (rd g (l.length + 1) l [] 0 0).1)
def Ql1 (d : List Int) (g f m : Int) : List (List Int) × Int × Int × Int × Int :=
 if okD d then (if VH d f m then (if g = 0 then ([], 0, 0, 0, 2) else
  ((Ve g (blks d f.toNat m.toNat)).1, (Ve g (blks d f.toNat m.toNat)).2.1, (Ve g (blks d f.toNat m.toNat)).2.2.1, (Ve g (blks d f.toNat m.toNat)).2.2.2, 0)) else ([], 0, 0, 0, 2)) else ([], 0, 0, 0, 20)
theorem QpG {d : List Int} (hb : QA d) {g f m : Int} (hg : Z6 g) : Qz mx (d, g, f, m) = some (Ql1 d g f m) := by
 simp only [Qz, QmL, Option.bind_some, Ql1]
 by_cases hd : okD d
 ·rw [if_pos hd, if_pos hd]
  by_cases ha : VH d f m
  ·rw [if_pos ha, if_pos ha]
   simp only [bne_self_eq_false, cond_false, ieq]
   by_cases h0 : g = 0
   ·rw [decide_eq_true h0, if_pos h0]; rfl
   ·rw [decide_eq_false h0, if_neg h0]
    obtain ⟨a1, a2, a3, a4⟩ := ha
    have hN := hd.2.1
    have hok := QgC hb (f := f.toNat) (m := m.toNat) (by omega)
    have hlen : (blks d f.toNat m.toNat).length ≤ 4096 := by rw [Qbh]; omega
    generalize blks d f.toNat m.toNat = l at hok hlen
    have hN0 : (l.length + 1) ≤ N0 := by unfold N0; omega
    have h1 : iter mx (Qz.a mx g) (l, ([] : List (List Int)), (0 : Int), (0 : Int), (0 : Int)) = _ := Qm1 hg 0 (l.length + 1) l [] 0 0 N0 hok (by omega) hN0 ⟨by decide, by decide⟩ (by simp; omega) (by omega)
    rw [h1]
    obtain ⟨P, l', rs', la', q1, q2, q3, q4, q5, q6⟩ := Qdm (g := g) (l.length + 1) l [] 0 0 hok (by omega)
    unfold Ve
    rw [q1]
    have hl' : Jk l' := fun b hb => hok b (by rw [q2]; simp [hb])
    have hl2 : l'.length ≤ 4096 := by rw [q2, List.length_append] at hlen; omega
    simp only [cond_false, Option.bind_some, Qp1 hl' (by omega)]
  ·rw [if_neg ha, if_neg ha]; rfl
 ·rw [if_neg hd, if_neg hd]; rfl
def Qaf (l : List Blk) : Int := l.foldl (fun a b => mxI a (QaI b)) 0
theorem Qhu : ∀ {l : List Blk} {a : Int}, a ≤ l.foldl (fun a b => mxI a (QaI b)) a ∧ ∀ b ∈ l, QaI b ≤ l.foldl (fun a b => mxI a (QaI b)) a
 | [], a => ⟨Int.le_refl _, fun b hb => by cases hb⟩
 | c :: l, a => by
  rw [List.foldl_cons]
  obtain ⟨h1, h2⟩ := Qhu (l := l) (a := mxI a (QaI c))
  refine ⟨Int.le_trans (Qbv _ _).1 h1, fun b hb => ?_⟩
  rcases List.mem_cons.1 hb with rfl | hb
  ·exact Int.le_trans (Qbv _ _).2 h1
  ·exact h2 b hb
theorem QoS {l : List Blk} {b : Blk} (hb : b ∈ l) : QaI b ≤ Qaf l := (Qhu (l := l) (a := 0)).2 b hb
theorem Qjz {l : List Blk} (hl : Jk l) : Z6 (Qaf l) := by
 have : ∀ {l : List Blk} {a : Int}, Jk l → Z6 a → Z6 (l.foldl (fun a b => mxI a (QaI b)) a) := by
  intro l
  induction l with
  | nil => intro a _ h; exact h
  | cons c l ih =>
   intro a hl h
   rw [List.foldl_cons]
   have h1 := genU (hl c (by simp))
   exact ih (fun b hb => hl b (by simp [hb])) ⟨Int.le_trans h.1 (Qbv _ _).1, QdG h.2 h1.2⟩
 exact this hl ⟨by decide, by decide⟩
def Qhv (d : List Int) (f m : Int) : Int × Int := if okD d then (if VH d f m then (Qaf (blks d f.toNat m.toNat), 0) else (0, 2)) else (0, 20)
theorem QoR {d : List Int} (hb : QA d) {f m : Int} : Q9 mx (d, f, m) = some (Qhv d f m) := by
 have main : ∀ (l : List Blk) (e : Int), Jk l → l.length ≤ 1000000 → iter mx (Q9.a mx (l, e) (l.length : Int)) ((0 : Int), (0 : Int)) = some (Qaf l) := fun l e hl hlen => by
  refine Qak (f := Q9.a mx (l, e) (l.length : Int)) l [] (fun a b => mxI a (QaI b)) 0 (fun k s => (s, (k : Int))) (Z7 (by omega)) (fun k hk => ?_)
   (by simp only [Q9.a, nltd, cond_false]; rfl)
  have hb := hl _ (Zt (d := []) hk)
  have c1 : decide ((4 : Int) ≤ ((l.getD k []).length : Int)) = true := decide_eq_true (by omega)
  simp only [Q9.a, ltd hk, lez, Bool.and_self, cond_true, Int.toNat_natCast, Qas hk, c1, Int.le_refl, decide_true, get4 hb, Option.bind_some]
  rw [Z8 (by omega)]
 simp only [Q9, QmL, Option.bind_some, Qhv]
 by_cases hd : okD d
 ·rw [if_pos hd, if_pos hd]
  by_cases ha : VH d f m
  ·rw [if_pos ha, if_pos ha]
   obtain ⟨a1, a2, a3, a4⟩ := ha
   have hN := hd.2.1
   rw [main _ _ (QgC hb (by omega)) (by rw [Qbh]; omega)]; rfl
  ·rw [if_neg ha, if_neg ha, main [] 2 (fun b hb => by cases hb) (by simp)]; rfl
 ·rw [if_neg hd, if_neg hd, main [] 20 (fun b hb => by cases hb) (by simp)]; rfl
def Qbu (rs : List (List Int)) (la gr g : Int) (r : List Int) : List Blk × Int :=
 if g = 0 then ([], 2) else if 65536 < r.length then ([], 3) else if 1048576 ≤ rs.length then ([], 4) else if mxI la gr = 4294967295 then ([], 9) else (frame g ((rs.length + 1 : Nat) : Int) (mxI la gr + 1) la r, 0)
theorem Qnq {rs : List (List Int)} {bl la gr g : Int} {r : List Int} (hla : Z6 la) (hgr : Z6 gr) (hg : Z6 g) (hr : r.length ≤ 140737488351232) : JU mx (rs, bl, la, gr, g, r) = some (Qbu rs la gr g r) := by
 have hm : 0 ≤ mxI la gr ∧ mxI la gr ≤ 4294967295 := ⟨Int.le_trans hla.1 (Qbv _ _).1, QdG hla.2 hgr.2⟩
 simp only [JU, Qbu, ieq]
 by_cases h0 : g = 0
 ·rw [decide_eq_true h0, if_pos h0]; rfl
 ·rw [decide_eq_false h0, if_neg h0]
  by_cases h1 : 65536 < r.length
  ·rw [decide_eq_true (show (65536 : Int) < (r.length : Int) by omega), if_pos h1]; rfl
  ·rw [decide_eq_false (show ¬ (65536 : Int) < (r.length : Int) by omega), if_neg h1]
   by_cases h2 : 1048576 ≤ rs.length
   ·rw [decide_eq_true (show (1048576 : Int) ≤ (rs.length : Int) by omega), if_pos h2]; rfl
   ·rw [decide_eq_false (show ¬ (1048576 : Int) ≤ (rs.length : Int) by omega), if_neg h2]
    by_cases h3 : mxI la gr = 4294967295
    ·rw [h3, if_pos rfl]; rfl
    ·have e1 : IntKind.u32.wrap (mxI la gr + 1) = mxI la gr + 1 := wu32 (by omega) (by omega)
     have e2 : IntKind.u32.wrap (IntKind.i64.wrap ((rs.length : Int) + 1)) = ((rs.length + 1 : Nat) : Int) := by rw [w64 (by omega) (by omega), wu32 (by omega) (by omega)]; omega
     rw [if_neg h3, e1, e2, decide_eq_false (show ¬ mxI la gr + 1 = 0 by omega)]
     simp only [cond_false]
     rw [Qls hg.1 (by omega) (by omega) hla.1 hr, if_neg (by omega), if_neg h1]; rfl
theorem torn {g : Int} {l : List Blk} (hl : Jk l) (hlen : l.length ≤ 4096) (hg : Z6 g) {r : List Int} (hr : QA r) {fr : List Blk} (hn : Qbu (Ve g l).1 (Ve g l).2.2.1 (Ve g l).2.2.2 g r = (fr, 0)) (hroom : ((Ve g l).2.1).toNat + fr.length ≤ l.length) {t : Nat} (ht : t ≤ fr.length) :
  Jk (l.take ((Ve g l).2.1).toNat ++ (fr.take t ++ l.drop (((Ve g l).2.1).toNat + t))) ∧
  (if t = fr.length then Ve g (l.take ((Ve g l).2.1).toNat ++ (fr.take t ++ l.drop (((Ve g l).2.1).toNat + t))) =
    ((Ve g l).1 ++ [r], (Ve g l).2.1 + (fr.length : Int), mxI (Ve g l).2.2.1 (Ve g l).2.2.2 + 1, grOf g (l.drop (((Ve g l).2.1).toNat + t)))
   else Ve g (l.take ((Ve g l).2.1).toNat ++ (fr.take t ++ l.drop (((Ve g l).2.1).toNat + t))) =
    ((Ve g l).1, (Ve g l).2.1, (Ve g l).2.2.1, grOf g (fr.take t ++ l.drop (((Ve g l).2.1).toNat + t)))) := by
 obtain ⟨P, l', rs', la', q1, q2, q3, q4, q5, q6⟩ := Qdm (g := g) (l.length + 1) l [] 0 0 hl (by omega)
 have hlog : Ve g l = (rs', ((P.length : Nat) : Int), la', grOf g l') := by
  unfold Ve
  rw [q1]
  simp
 rw [hlog] at hn hroom ⊢
 dsimp only at hn hroom ⊢
 rw [Int.toNat_natCast] at hroom ⊢
 have hla : Z6 la' := q5 ⟨by decide, by decide⟩
 have hl' : Jk l' := fun b hb => hl b (by rw [q2]; simp [hb])
 have hgr : Z6 (grOf g l') := Qlr hl'
 have hPl : l.take P.length = P := by rw [q2, List.take_left']; rfl
 have hdl : ∀ k, l.drop (P.length + k) = l'.drop k := fun k => by rw [q2, ← List.drop_drop, List.drop_left']; rfl
 have hrsl : rs'.length ≤ 4096 := by
  have := congrArg List.length q2
  rw [List.length_append] at this
  simp at q6
  omega
 unfold Qbu at hn
 by_cases h0 : g = 0
 ·rw [if_pos h0] at hn; cases hn
 rw [if_neg h0] at hn
 by_cases h1 : 65536 < r.length
 ·rw [if_pos h1] at hn; cases hn
 rw [if_neg h1] at hn
 by_cases h2 : 1048576 ≤ rs'.length
 ·rw [if_pos h2] at hn; cases hn
 rw [if_neg h2] at hn
 by_cases h3 : mxI la' (grOf g l') = 4294967295
 ·rw [if_pos h3] at hn; cases hn
 rw [if_neg h3] at hn
 have hfr : fr = frame g ((rs'.length + 1 : Nat) : Int) (mxI la' (grOf g l') + 1) la' r := (congrArg Prod.fst hn).symm
 clear hn
 have hm : 0 ≤ mxI la' (grOf g l') ∧ mxI la' (grOf g l') ≤ 4294967295 := ⟨Int.le_trans hla.1 (Qbv _ _).1, QdG hla.2 hgr.2⟩
 have hgm : grOf g l' ≤ mxI la' (grOf g l') := (Qbv _ _).2
 generalize hS : mxI la' (grOf g l') + 1 = S at hfr
 have hSu : Z6 S := ⟨by omega, by omega⟩
 have hSg : grOf g l' < S := by omega
 have hfl : fr.length = Qp r := by rw [hfr, Q2]
 have hfok : Jk fr := by rw [hfr]; exact Qb3 hr
 have hlen2 : l.length = P.length + l'.length := by rw [q2, List.length_append]
 rw [hPl, hdl t]
 have hnew : Jk (fr.take t ++ l'.drop t) := fun b hb => by
  rcases List.mem_append.1 hb with hb | hb
  ·exact hfok b (List.mem_of_mem_take hb)
  ·exact hl' b (List.mem_of_mem_drop hb)
 have hall : Jk (P ++ (fr.take t ++ l'.drop t)) := fun b hb => by
  rcases List.mem_append.1 hb with hb | hb
  ·exact hl b (by rw [q2]; simp [hb])
  ·exact hnew b hb
 refine ⟨hall, ?_⟩
 have hpp := Qaj r
 have hpl := J4 (r := r) (by omega)
 by_cases hte : t = fr.length
 ·rw [if_pos hte]
  have e1 : fr.take t = fr := by rw [hte, List.take_length]
  rw [e1]
  have hch := q3.snoc (r := r) (s := S) h0 (by omega) hSu hr
  rw [← hfr] at hch
  have hend : opn g (((rs' ++ [r]).length + 1 : Nat) : Int) S (l'.drop t) = none := by
   cases ho : opn g (((rs' ++ [r]).length + 1 : Nat) : Int) S (l'.drop t) with
   | none => rfl
   | some x =>
    exfalso
    obtain ⟨r2, s2, k2⟩ := x
    obtain ⟨g1, g2, g3, g4, g5, g6, g7, g8⟩ := (QdE (fun b hb => hl' b (List.mem_of_mem_drop hb))).1 ho
    have hk2 := Qaj r2
    have hmem : (frame g (((rs' ++ [r]).length + 1 : Nat) : Int) s2 S r2).getD 0 [] ∈ l' := by
     have : (frame g (((rs' ++ [r]).length + 1 : Nat) : Int) s2 S r2).getD 0 [] ∈ frame g (((rs' ++ [r]).length + 1 : Nat) : Int) s2 S r2 := Zt (by rw [Q2]; omega)
     rw [← g8] at this
     rw [← g8]
     exact List.mem_of_mem_drop (List.mem_of_mem_take this)
    have hblk : (frame g (((rs' ++ [r]).length + 1 : Nat) : Int) s2 S r2).getD 0 [] = blk g (((rs' ++ [r]).length + 1 : Nat) : Int) s2 S (Qp r2) 0 (Jw r2 0) := by
     rw [getD_some (by rw [Q2]; omega)]; simp [frame]
    rw [hblk] at hmem
    have := (QqH hmem (QkL hg)).2
    rw [Qo1 hSu] at this
    omega
  have hrd := Qh2 (fun b hb => hl' b (List.mem_of_mem_drop hb)) hch hend ((P ++ fr ++ l'.drop t).length + 1) 0 (by simp only [List.length_append]; omega)
  unfold Ve
  rw [← List.append_assoc, hrd]
  simp only [Nat.zero_add, List.length_append]
  congr 2
 ·rw [if_neg hte]
  have hend : opn g ((rs'.length + 1 : Nat) : Int) la' (fr.take t ++ l'.drop t) = none := by
   by_cases ht0 : t = 0
   ·subst ht0
    simpa using q4
   ·cases ho : opn g ((rs'.length + 1 : Nat) : Int) la' (fr.take t ++ l'.drop t) with
    | none => rfl
    | some x =>
     exfalso
     obtain ⟨r2, s2, k2⟩ := x
     obtain ⟨g1, g2, g3, g4, g5, g6, g7, g8⟩ := (QdE hnew).1 ho
     have hk2 := Qaj r2
     have hk2l := J4 g3
     have get : ∀ j, j < k2 → (fr.take t ++ l'.drop t).getD j [] = blk g ((rs'.length + 1 : Nat) : Int) s2 la' (Qp r2) j (Jw r2 j) := fun j hj => by
      have e1 : ((fr.take t ++ l'.drop t).take k2).getD j [] = (fr.take t ++ l'.drop t).getD j [] := by
       rw [getD_some (by rw [List.length_take]; omega), getD_some (by omega), List.getElem_take]
      rw [← e1, g8, getD_some (by rw [Q2]; omega)]
      simp [frame]
     have hft : (fr.take t).length = t := by rw [List.length_take]; omega
     have get0 : (fr.take t ++ l'.drop t).getD 0 [] = blk g ((rs'.length + 1 : Nat) : Int) S la' (Qp r) 0 (Jw r 0) := by
      rw [getD_some (by rw [List.length_append, hft]; omega), List.getElem_append_left (by omega), List.getElem_take]
      simp [hfr, frame]
     have h00 := get 0 (by omega)
     rw [get0] at h00
     have hs : S = s2 := by
      have := congrArg JY h00
      rwa [QfH hSu, QfH g4] at this
     have hc : Qp r = Qp r2 := by
      have := congrArg J2 h00
      rw [QgD (by omega), QgD (by omega)] at this
      omega
     have htk : t < k2 := by omega
     have ht2 := get t htk
     have hle : t < (fr.take t ++ l'.drop t).length := by omega
     have hmem : (fr.take t ++ l'.drop t).getD t [] ∈ l' := by
      rw [getD_some hle, List.getElem_append_right (by omega)]
      exact List.mem_of_mem_drop (List.getElem_mem _)
     rw [ht2] at hmem
     have := (QqH hmem (QkL hg)).1
     rw [QfH g4] at this
     omega
  have hrd := Qh2 hnew q3 hend ((P ++ (fr.take t ++ l'.drop t)).length + 1) 0 (by simp only [List.length_append]; omega)
  unfold Ve
  rw [hrd]
  simp
end Go.Proofs.YtpfjjbpoikgocaaGreat
namespace Go.Proofs.YtpfjjbpoikgocaaGreat
open Go.Abs
set_option maxRecDepth 100000
theorem Qjk {g : Int} {l : List Blk} (hl : Jk l) (hlen : l.length ≤ 4096) : ∃ B : Nat, (Ve g l).2.1 = (B : Int) ∧ B ≤ l.length ∧ (Ve g l).1.length ≤ 4096 ∧ Z6 (Ve g l).2.2.1 ∧ Z6 (Ve g l).2.2.2 := by
 obtain ⟨P, l', rs', la', q1, q2, q3, q4, q5, q6⟩ := Qdm (g := g) (l.length + 1) l [] 0 0 hl (by omega)
 unfold Ve
 rw [q1]
 have h := congrArg List.length q2
 rw [List.length_append] at h
 exact ⟨0 + P.length, rfl, by omega, by simp at q6 ⊢; omega, q5 ⟨by decide, by decide⟩, Qlr fun b hb => hl b (by rw [q2]; simp [hb])⟩
theorem Ch.recsB {g : Int} {rs rs' : List (List Int)} {la la' : Int} {P : List Blk} (h : Ch g rs la P rs' la') : (∀ r ∈ rs, QA r ∧ r.length ≤ 65536) → ∀ r ∈ rs', QA r ∧ r.length ≤ 65536 := by
 induction h with
 | nil rs la => exact id
 | cons rs la r s P rs' la' h1 h2 h3 h4 h ih =>
  intro hr
  exact ih fun x hx => (List.mem_append.1 hx).elim (hr x) fun hx => by rw [List.mem_singleton] at hx; subst hx; exact ⟨h4, h2⟩
theorem Qga {g : Int} {l : List Blk} (hl : Jk l) : ∀ r ∈ (Ve g l).1, QA r ∧ r.length ≤ 65536 := by
 obtain ⟨P, l', rs', la', q1, q2, q3, q4, q5, q6⟩ := Qdm (g := g) (l.length + 1) l [] 0 0 hl (by omega)
 unfold Ve
 rw [q1]
 exact q3.recsB (fun r hr => by cases hr)
theorem Qnr {rs : List (List Int)} {la gr g : Int} {r : List Int} (hr : QA r) {fr : List Blk} (h : Qbu rs la gr g r = (fr, 0)) : Jk fr ∧ g ≠ 0 ∧ fr.length ≤ 1525 := by
 unfold Qbu at h
 by_cases h0 : g = 0
 ·rw [if_pos h0] at h; cases h
 rw [if_neg h0] at h
 by_cases h1 : 65536 < r.length
 ·rw [if_pos h1] at h; cases h
 rw [if_neg h1] at h
 by_cases h2 : 1048576 ≤ rs.length
 ·rw [if_pos h2] at h; cases h
 rw [if_neg h2] at h
 by_cases h3 : mxI la gr = 4294967295
 ·rw [if_pos h3] at h; cases h
 rw [if_neg h3] at h
 cases h
 exact ⟨Qb3 hr, h0, by rw [Q2]; exact J4 (by omega)⟩
theorem Qh9 {d e : List Int} (h : e.length = d.length) (hd : okD d) : okD e := by unfold okD at *; omega
theorem QiM : ∀ {l : List Put} {d : List Int}, QA d → (∀ p ∈ l, QA p.2) → QA (wr d l)
 | [], _, hd, _ => hd
 | p :: l, d, hd, h => by
  show QA (wr (wr1 d p) l)
  refine QiM (l := l) ?_ (fun q hq => h q (by simp [hq]))
  exact VF (VF (Zf hd _) (h p (by simp))) (Z5 hd _)
theorem Qnv {g : Int} {r : List Int} {l : List Blk} (hl : Jk l) (hg : g ≠ 0) (hg2 : Z6 g) (hr : QA r) (hrl : r.length ≤ 65536) (hn : ∀ b ∈ l, QaI b ≠ g) :
  ∃ G, Ve g (frame g 1 1 0 r ++ l) = ([r], ((Qp r : Nat) : Int), 1, G) := by
 have hch : Ch g [] 0 (frame g ((([] : List (List Int)).length + 1 : Nat) : Int) 1 0 r ++ []) ([] ++ [r]) 1 := .cons [] 0 r 1 [] [r] 1 hg hrl ⟨by decide, by decide⟩ hr (.nil _ _)
 rw [List.append_nil] at hch
 have hend : opn g ((([] ++ [r] : List (List Int)).length + 1 : Nat) : Int) 1 l = none := by
  cases ho : opn g ((([] ++ [r] : List (List Int)).length + 1 : Nat) : Int) 1 l with
  | none => rfl
  | some x =>
   exfalso
   obtain ⟨r', s', k'⟩ := x
   obtain ⟨h1, h2, h3, h4, h5, h6, h7, h8⟩ := (QdE hl).1 ho
   have hk := Qaj r'
   have hln : 0 < l.length := by omega
   have e1 : l.getD 0 [] = (frame g ((([] ++ [r] : List (List Int)).length + 1 : Nat) : Int) s' 1 r').getD 0 [] := by
    rw [← h8, getD_some hln, getD_some (by rw [List.length_take]; omega)]; simp
   have e2 : (frame g ((([] ++ [r] : List (List Int)).length + 1 : Nat) : Int) s' 1 r').getD 0 [] = blk g ((([] ++ [r] : List (List Int)).length + 1 : Nat) : Int) s' 1 (Qp r') 0 (Jw r' 0) := by
    have : 0 < (frame g ((([] ++ [r] : List (List Int)).length + 1 : Nat) : Int) s' 1 r').length := by rw [Q2]; omega
    rw [getD_some this]; unfold frame; simp
   exact hn _ (Zt hln) (by rw [e1, e2, QkL hg2])
 have hlf := Q2 g 1 1 0 r
 have hrd := Qh2 hl hch hend ((frame g 1 1 0 r ++ l).length + 1) 0 (by rw [List.length_append]; show (frame g 1 1 0 r).length < _; omega)
 have hrd : rd g ((frame g 1 1 0 r ++ l).length + 1) (frame g 1 1 0 r ++ l) [] 0 0 = (l, [] ++ [r], 0 + (frame g 1 1 0 r).length, 1) := hrd
 unfold Ve
 rw [hrd]
 exact ⟨_, by rw [hlf, Nat.zero_add]; rfl⟩
end Go.Proofs.YtpfjjbpoikgocaaGreat
namespace Go.Proofs.YtpfjjbpoikgocaaGreat
open Go.Abs
set_option maxRecDepth 100000
abbrev Nm := Int × List Int
abbrev KQ : Nm → Nm → Bool := Jx (.pr (.int .i64) .str)
theorem Qcu {x y : Nm} : KQ x y = true ↔ x = y := by
 have : KQ x y = ((x.1 == y.1) && (x.2 == y.2)) := rfl
 rw [this, Bool.and_eq_true, beq_iff_eq, beq_iff_eq]
 exact ⟨fun h => Prod.ext h.1 h.2, fun h => by rw [h]; exact ⟨rfl, rfl⟩⟩
theorem QeP {x y : Nm} (h : x ≠ y) : KQ x y = false := by
 cases e : KQ x y with
 | false => rfl
 | true => exact absurd (Qcu.1 e) h
abbrev Mp := List (Nm × Int)
theorem QoK {m : Mp} {x : Nm} : (mget KQ m x).isSome = true ↔ x ∈ m.map Prod.fst := by
 induction m with
 | nil => simp [mget]
 | cons e r ih =>
  rw [mget]
  by_cases h : x = e.1
  ·rw [Qcu.2 h]; simp [h]
  ·rw [QeP h, cond_false, ih]; simp [h]
theorem Qjh (m : Mp) (x y : Nm) (v : Int) : mget KQ (mset KQ m x v) y = if y = x then some v else mget KQ m y := by
 induction m with
 | nil =>
  show (bif KQ y x then some v else none) = if y = x then some v else none
  by_cases h : y = x
  ·rw [if_pos h, Qcu.2 h]; rfl
  ·rw [if_neg h, QeP h]; rfl
 | cons e r ih =>
  rw [mset]
  by_cases h : x = e.1
  ·rw [Qcu.2 h, cond_true, mget]
   by_cases h2 : y = x
   ·rw [if_pos h2, Qcu.2 h2]; rfl
   ·rw [if_neg h2, QeP h2, mget, QeP (fun hh => h2 (hh.trans h.symm))]; rfl
  ·rw [QeP h, cond_false, mget, ih]
   by_cases h3 : y = e.1
   ·rw [Qcu.2 h3, cond_true, mget, Qcu.2 h3, if_neg (fun hh => h (hh.symm.trans h3))]; rfl
   ·rw [QeP h3, cond_false]
    conv => rhs; rw [mget, QeP h3, cond_false]
theorem Qf5 (m : Mp) (x : Nm) (v : Int) : (mset KQ m x v).map Prod.fst = if x ∈ m.map Prod.fst then m.map Prod.fst else m.map Prod.fst ++ [x] := by
 induction m with
 | nil => simp [mset]
 | cons e r ih =>
  rw [mset]
  by_cases h : x = e.1
  ·rw [Qcu.2 h]; simp [h]
  ·rw [QeP h, cond_false, List.map_cons, ih]
   by_cases h2 : x ∈ r.map Prod.fst
   ·rw [if_pos h2, if_pos (by simp only [List.map_cons, List.mem_cons]; exact .inr h2), List.map_cons]
   ·rw [if_neg h2, if_neg (by simp only [List.map_cons, List.mem_cons]; exact fun hh => hh.elim h h2), List.map_cons, List.cons_append]
theorem Qhm {m : Mp} (h : (m.map Prod.fst).Nodup) (x : Nm) (v : Int) : ((mset KQ m x v).map Prod.fst).Nodup := by
 rw [Qf5]
 by_cases h2 : x ∈ m.map Prod.fst
 ·rw [if_pos h2]; exact h
 ·rw [if_neg h2]
  refine List.nodup_append.2 ⟨h, by simp, fun a ha b hb => ?_⟩
  rw [List.mem_singleton] at hb
  rw [hb]; exact fun hh => h2 (hh ▸ ha)
theorem Qie (m : Mp) (x : Nm) (v : Int) : (mset KQ m x v).length = if x ∈ m.map Prod.fst then m.length else m.length + 1 := by
 have := congrArg List.length (Qf5 m x v)
 rw [List.length_map] at this
 rw [this]
 by_cases h2 : x ∈ m.map Prod.fst
 ·rw [if_pos h2, if_pos h2, List.length_map]
 ·rw [if_neg h2, if_neg h2, List.length_append, List.length_map, List.length_singleton]
theorem Qlm (m : Mp) (x : Nm) : ((mdel KQ m x).map Prod.fst).Sublist (m.map Prod.fst) := by
 induction m with
 | nil => exact List.Sublist.slnil
 | cons e r ih =>
  rw [mdel]
  by_cases h : x = e.1
  ·rw [Qcu.2 h, cond_true]; exact List.sublist_cons_self _ _
  ·rw [QeP h, cond_false]; exact ih.cons_cons _
theorem Ql4 {m : Mp} (h : (m.map Prod.fst).Nodup) (x : Nm) : ((mdel KQ m x).map Prod.fst).Nodup := (Qlm m x).nodup h
theorem QoL (m : Mp) (x : Nm) : (mdel KQ m x).length ≤ m.length := by
 have := (Qlm m x).length_le
 rwa [List.length_map, List.length_map] at this
theorem Qji {m : Mp} (h : (m.map Prod.fst).Nodup) (x y : Nm) : mget KQ (mdel KQ m x) y = if y = x then none else mget KQ m y := by
 induction m with
 | nil => rw [mdel]; simp [mget]
 | cons e r ih =>
  rw [List.map_cons, List.nodup_cons] at h
  rw [mdel]
  by_cases hx : x = e.1
  ·rw [Qcu.2 hx, cond_true]
   by_cases hy : y = x
   ·rw [if_pos hy]
    cases hg : mget KQ r y with
    | none => rfl
    | some v => exact absurd (by rw [← hx, ← hy]; exact QoK.1 (by rw [hg]; rfl)) h.1
   ·rw [if_neg hy, mget, QeP (fun hh => hy (hh.trans hx.symm))]; rfl
  ·rw [QeP hx, cond_false, mget, ih h.2]
   by_cases hy : y = e.1
   ·rw [Qcu.2 hy, cond_true, if_neg (fun hh => hx (hh.symm.trans hy)), mget, Qcu.2 hy]; rfl
   ·rw [QeP hy, cond_false]
    conv => rhs; rw [mget, QeP hy, cond_false]
abbrev Itm := List Int × List Int × Int × Int × Int
abbrev Kept := Int × Itm
abbrev Img := Int × List Int × List Kept × Int × Int × Bool
abbrev K0 : Kept := (0, ([], ([], (0, (0, 0)))))
def nm (k : Kept) : Nm := (k.1, k.2.1)
def dueB (x : Itm) (t : Int) : Bool := decide (x.2.2.2.1 ≠ 0 ∧ x.2.2.2.1 ≤ t)
def QbK (x : Itm) : Prop := 1 ≤ x.1.length ∧ x.1.length ≤ 32 ∧ 8 + x.1.length + x.2.1.length ≤ 256 ∧ 0 ≤ x.2.2.2.1 ∧ x.2.2.2.1 ≤ 1099511627776
instance (x : Itm) : Decidable (QbK x) := by unfold QbK; infer_instance
def Vu (q : List Int) : Prop := 1 ≤ q.length ∧ q.length ≤ 4 ∧ ∀ x ∈ q, 0 ≤ x ∧ x ≤ 16
instance (q : List Int) : Decidable (Vu q) := by unfold Vu; infer_instance
def Vi (t : Int) (n : Nat) (k : Kept) : Prop := 0 ≤ k.1 ∧ k.1 < (n : Int) ∧ QbK k.2 ∧ dueB k.2 t = false
instance (t : Int) (n : Nat) (k : Kept) : Decidable (Vi t n k) := by unfold Vi; infer_instance
def okI (v : Img) : Prop := (0 ≤ v.1 ∧ v.1 ≤ 1099511627776) ∧ Vu v.2.1 ∧ v.2.2.1.length ≤ 1024 ∧ (0 ≤ v.2.2.2.1 ∧ v.2.2.2.1 ≤ 2147483647) ∧ (0 ≤ v.2.2.2.2.1 ∧ v.2.2.2.2.1 ≤ 2147483647) ∧
 (∀ k ∈ v.2.2.1, Vi v.1 v.2.1.length k) ∧ (v.2.2.1.map nm).Nodup
instance (v : Img) : Decidable (okI v) := by unfold okI; infer_instance
theorem QoP (a b : Int) : JW mx (a, b) = some (decide (0 ≤ a ∧ a ≤ b)) := by
 simp only [JW]
 by_cases h : 0 ≤ a
 ·rw [decide_eq_true h]; simp [h]
 ·rw [decide_eq_false h]; simp [h]
theorem QmM (x : Itm) (h1 : x.1.length ≤ 140737488351232) (h2 : x.2.1.length ≤ 140737488351232) : Vm mx x = some ((8 + x.1.length + x.2.1.length : Nat) : Int) := by
 simp only [Vm]
 rw [w64 (n := 8 + (x.1.length : Int)) (by omega) (by omega), w64 (by omega) (by omega)]
 congr 1
theorem QnV (x : Itm) (t : Int) : Vd mx (x.1, x.2.1, x.2.2.1, x.2.2.2.1, x.2.2.2.2, t) = some (dueB x t) := by
 simp only [Vd, Vf, dueB]
 by_cases h : x.2.2.2.1 = 0
 ·rw [decide_eq_true h, decide_eq_false (show ¬ (x.2.2.2.1 ≠ 0 ∧ x.2.2.2.1 ≤ t) from fun hh => hh.1 h)]; rfl
 ·rw [decide_eq_false h]
  by_cases h2 : x.2.2.2.1 ≤ t
  ·rw [decide_eq_true h2, decide_eq_true ⟨h, h2⟩]; rfl
  ·rw [decide_eq_false h2, decide_eq_false (show ¬ (x.2.2.2.1 ≠ 0 ∧ x.2.2.2.1 ≤ t) from fun hh => h2 hh.2)]; rfl
theorem QqA (x : Itm) (h1 : x.1.length ≤ 140737488351232) (h2 : x.2.1.length ≤ 140737488351232) : QaS mx x = some (decide (QbK x)) := by
 obtain ⟨k, v, f, d, c⟩ := x
 dsimp only at h1 h2
 simp only [QaS, QmM (k, v, f, d, c) h1 h2, QoP, Option.bind_some]
 cases k with
 | nil => rw [decide_eq_false (show ¬ QbK (([] : List Int), v, f, d, c) from fun h => by have := h.1; simp at this)]; rfl
 | cons a k =>
  have e0 : ((a :: k : List Int) == ([] : List Int)) = false := rfl
  rw [e0]
  by_cases h3 : (a :: k).length ≤ 32
  ·rw [decide_eq_true (show (((a :: k).length : Nat) : Int) ≤ 32 by omega)]
   by_cases h4 : 8 + (a :: k).length + v.length ≤ 256
   ·rw [decide_eq_true (show ((8 + (a :: k).length + v.length : Nat) : Int) ≤ 256 by omega)]
    by_cases h5 : 0 ≤ d ∧ d ≤ 1099511627776
    ·rw [decide_eq_true h5, decide_eq_true (show QbK (a :: k, v, f, d, c) from ⟨by simp, h3, h4, h5⟩)]; rfl
    ·rw [decide_eq_false h5, decide_eq_false (fun h : QbK (a :: k, v, f, d, c) => h5 h.2.2.2)]; rfl
   ·rw [decide_eq_false (show ¬ ((8 + (a :: k).length + v.length : Nat) : Int) ≤ 256 by omega), decide_eq_false (fun h : QbK (a :: k, v, f, d, c) => h4 h.2.2.1)]; rfl
  ·rw [decide_eq_false (show ¬ (((a :: k).length : Nat) : Int) ≤ 32 by omega), decide_eq_false (fun h : QbK (a :: k, v, f, d, c) => h3 h.2.1)]; rfl
theorem Qm4 {q : List Int} : VN mx q = some (decide (Vu q)) := by
 simp only [VN]
 by_cases h1 : 1 ≤ q.length
 ·rw [decide_eq_true (show (0 : Int) < (q.length : Int) by omega)]
  by_cases h2 : q.length ≤ 4
  ·rw [decide_eq_true (show (q.length : Int) ≤ 4 by omega)]
   simp only [cond_true, Jg, QC]
   have hstep : ∀ i, i < q.length → QC.a mx q (q.length : Int) (i : Int) = some (bif decide (0 ≤ q.getD i 0 ∧ q.getD i 0 ≤ 16) then .next ((i + 1 : Nat) : Int) else .fin (.inl (i : Int))) := fun i hi => by
    simp only [QC.a, ltd hi, lez, Bool.and_self, cond_true, Int.toNat_natCast, Vg, QoP, Option.bind_some]
    rw [Z8 (by omega)]
    by_cases h : 0 ≤ q.getD i 0 ∧ q.getD i 0 ≤ 16
    ·rw [decide_eq_true h]; rfl
    ·rw [decide_eq_false h]; rfl
   rcases JF (f := QC.a mx q (q.length : Int)) (fun i => (i : Int)) q.length (fun i => 0 ≤ q.getD i 0 ∧ q.getD i 0 ≤ 16) (Z7 (by omega)) (fun i => .inl (i : Int)) (.inr ())
    (fun i hi hp _ => by rw [hstep i hi, decide_eq_true hp]; rfl)
    (fun i hi hp _ => by rw [hstep i hi, decide_eq_false hp]; rfl)
    (fun _ => by simp only [QC.a, nltd, cond_false]) with ⟨h, e⟩ | ⟨i, hi, hp, _, e⟩
   ·have e : iter mx (QC.a mx q (q.length : Int)) (0 : Int) = _ := e
    rw [e, decide_eq_true (show Vu q from ⟨h1, h2, fun x hx => by
     obtain ⟨j, hj, rfl⟩ := List.mem_iff_getElem.1 hx
     have := h j hj
     rwa [getD_some hj] at this⟩)]
    rfl
   ·have e : iter mx (QC.a mx q (q.length : Int)) (0 : Int) = _ := e
    rw [e, decide_eq_false (fun h : Vu q => hp (h.2.2 _ (Zt hi)))]
    simp only [Option.bind_some, lez, Bool.not_true]
  ·rw [decide_eq_false (show ¬ (q.length : Int) ≤ 4 by omega), decide_eq_false (fun h : Vu q => h2 h.2.1)]; rfl
 ·rw [decide_eq_false (show ¬ (0 : Int) < (q.length : Int) by omega), decide_eq_false (fun h : Vu q => h1 h.1)]; rfl
def plc (l : List Kept) : Nat → Mp
 | 0 => []
 | k + 1 => mset KQ (plc l k) (nm (l.getD k K0)) (k : Int)
theorem Qd6 (l : List Kept) : ∀ k, k ≤ l.length → ((plc l k).map Prod.fst).Nodup ∧ (∀ x, x ∈ (plc l k).map Prod.fst ↔ x ∈ (l.take k).map nm) ∧ (plc l k).length ≤ k ∧ ((plc l k).length = k ↔ ((l.take k).map nm).Nodup)
 | 0, _ => by simp [plc]
 | k + 1, h => by
  obtain ⟨h1, h2, h3, h4⟩ := Qd6 l k (by omega)
  have ht := QH (l := l) (k := k) (by omega) K0
  rw [plc, ht, List.map_append, List.map_singleton]
  refine ⟨Qhm h1 _ _, fun x => ?_, ?_, ?_⟩
  ·rw [Qf5]
   by_cases h5 : nm (l.getD k K0) ∈ (plc l k).map Prod.fst
   ·rw [if_pos h5, List.mem_append, List.mem_singleton, h2]
    exact ⟨.inl, fun hh => hh.elim id fun e => by rw [e]; exact (h2 _).1 h5⟩
   ·rw [if_neg h5, List.mem_append, List.mem_append, h2]
  ·rw [Qie]; split <;> omega
  ·rw [Qie, List.nodup_append]
   by_cases h5 : nm (l.getD k K0) ∈ (plc l k).map Prod.fst
   ·rw [if_pos h5]
    exact ⟨fun e => by omega, fun hh => absurd rfl (hh.2.2 _ ((h2 _).1 h5) _ (List.mem_singleton.2 rfl))⟩
   ·rw [if_neg h5]
    refine ⟨fun e => ⟨h4.1 (by omega), by simp, fun a ha b hb => ?_⟩, fun hh => by rw [h4.2 hh.1]⟩
    rw [List.mem_singleton] at hb
    rw [hb]; exact fun e => h5 ((h2 _).2 (e ▸ ha))
theorem Qm8 {l : List Kept} (hl : (l.map nm).Nodup) : ∀ k, k ≤ l.length → ∀ x i, mget KQ (plc l k) x = some i ↔ ∃ j : Nat, i = (j : Int) ∧ j < k ∧ nm (l.getD j K0) = x
 | 0, _, x, i => by simp [plc, mget]
 | k + 1, h, x, i => by
  rw [plc, Qjh]
  by_cases hx : x = nm (l.getD k K0)
  ·rw [if_pos hx]
   constructor
   ·intro e; exact ⟨k, (Option.some.inj e).symm, by omega, hx.symm⟩
   ·rintro ⟨j, rfl, hj, hn⟩
    rw [hx] at hn
    have : j = k := by
     rw [getD_some (show j < l.length by omega), getD_some (show k < l.length by omega)] at hn
     have h1 : (l.map nm)[j]'(by rw [List.length_map]; omega) = (l.map nm)[k]'(by rw [List.length_map]; omega) := by rw [List.getElem_map, List.getElem_map, hn]
     exact (List.getElem_inj hl).1 h1
    rw [this]
  ·rw [if_neg hx, Qm8 hl k (by omega)]
   constructor
   ·rintro ⟨j, rfl, hj, hn⟩; exact ⟨j, rfl, by omega, hn⟩
   ·rintro ⟨j, rfl, hj, hn⟩
    refine ⟨j, rfl, ?_, hn⟩
    rcases Nat.lt_succ_iff_lt_or_eq.1 hj with h | h
    ·exact h
    ·subst h; exact absurd hn.symm hx
theorem Qjf {l : List Kept} (hl : l.length ≤ 1000000) : ZO mx l = some (plc l l.length) := by
 have := QL (f := ZO.a mx l (l.length : Int)) (fun i => ((i : Int), plc l i)) l.length (r := plc l l.length) (Z7 (by omega)) (fun i hi => by
  have c1 : Nat.blt (plc l i).length 4294967296 = true := Qas (by have := (Qd6 l i (by omega)).2.2.1; omega)
  simp only [ZO.a, ltd hi, lez, Bool.and_self, cond_true, Int.toNat_natCast, c1]
  rw [Z8 (by omega)]
  rfl) (by simp only [ZO.a, nltd, cond_false])
 have this : iter mx (ZO.a mx l (l.length : Int)) ((0 : Int), ([] : Mp)) = _ := this
 simp only [ZO, this, Option.bind_some]
theorem Qly {v : Img} (hb : ∀ k ∈ v.2.2.1, k.2.1.length ≤ 140737488351232 ∧ k.2.2.1.length ≤ 140737488351232) : ZK mx v = some (if okI v then 0 else 8) := by
 obtain ⟨t, q, l, e, n, b⟩ := v
 dsimp only at hb
 simp only [ZK, QoP, Qm4, Option.bind_some]
 by_cases h1 : 0 ≤ t ∧ t ≤ 1099511627776
 case neg => rw [decide_eq_false h1, if_neg (fun h : okI (t, q, l, e, n, b) => h1 h.1)]; rfl
 by_cases h2 : Vu q
 case neg => rw [decide_eq_true h1, decide_eq_false h2, if_neg (fun h : okI (t, q, l, e, n, b) => h2 h.2.1)]; rfl
 by_cases h3 : l.length ≤ 1024
 case neg => rw [decide_eq_true h1, decide_eq_true h2, decide_eq_true (show (1024 : Int) < (l.length : Int) by omega), if_neg (fun h : okI (t, q, l, e, n, b) => h3 h.2.2.1)]; rfl
 by_cases h4 : 0 ≤ e ∧ e ≤ 2147483647
 case neg => rw [decide_eq_true h1, decide_eq_true h2, decide_eq_false (show ¬ (1024 : Int) < (l.length : Int) by omega), decide_eq_false h4, if_neg (fun h : okI (t, q, l, e, n, b) => h4 h.2.2.2.1)]; rfl
 by_cases h5 : 0 ≤ n ∧ n ≤ 2147483647
 case neg => rw [decide_eq_true h1, decide_eq_true h2, decide_eq_false (show ¬ (1024 : Int) < (l.length : Int) by omega), decide_eq_true h4, decide_eq_false h5, if_neg (fun h : okI (t, q, l, e, n, b) => h5 h.2.2.2.2.1)]; rfl
 rw [decide_eq_true h1, decide_eq_true h2, decide_eq_false (show ¬ (1024 : Int) < (l.length : Int) by omega), decide_eq_true h4, decide_eq_true h5]
 simp only [Bool.not_true, cond_false]
 have hq4 := h2.2.1
 have hstep : ∀ i, i < l.length → ZK.a mx t q l (l.length : Int) (i : Int) = some (bif decide (Vi t q.length (l.getD i K0)) then .next ((i + 1 : Nat) : Int) else .fin (.inl 8)) := fun i hi => by
  obtain ⟨b1, b2⟩ := hb _ (Zt (d := K0) hi)
  have hw : IntKind.i64.wrap ((q.length : Int) - 1) = (q.length : Int) - 1 := w64 (by omega) (by omega)
  simp only [ZK.a, ltd hi, lez, Bool.and_self, cond_true, Int.toNat_natCast, hw, QoP, Option.bind_some, QqA _ b1 b2, QnV]
  rw [Z8 (by omega)]
  by_cases g1 : 0 ≤ (l.getD i K0).1 ∧ (l.getD i K0).1 ≤ (q.length : Int) - 1
  ·rw [decide_eq_true g1]
   by_cases g2 : QbK (l.getD i K0).2
   ·rw [decide_eq_true g2]
    cases g3 : dueB (l.getD i K0).2 t with
    | true => rw [decide_eq_false (fun h : Vi t q.length (l.getD i K0) => by rw [h.2.2.2] at g3; cases g3)]; rfl
    | false => rw [decide_eq_true (show Vi t q.length (l.getD i K0) from ⟨g1.1, by omega, g2, g3⟩)]; rfl
   ·rw [decide_eq_false g2, decide_eq_false (fun h : Vi t q.length (l.getD i K0) => g2 h.2.2.1)]; rfl
  ·rw [decide_eq_false g1, decide_eq_false (fun h : Vi t q.length (l.getD i K0) => g1 ⟨h.1, by have := h.2.1; omega⟩)]; rfl
 rcases JF (f := ZK.a mx t q l (l.length : Int)) (fun i => (i : Int)) l.length (fun i => Vi t q.length (l.getD i K0)) (Z7 (by omega)) (fun _ => .inl 8) (.inr ())
  (fun i hi hp _ => by rw [hstep i hi, decide_eq_true hp]; rfl)
  (fun i hi hp _ => by rw [hstep i hi, decide_eq_false hp]; rfl)
  (fun _ => by simp only [ZK.a, nltd, cond_false]) with ⟨h, e1⟩ | ⟨i, hi, hp, _, e1⟩
 ·have e1 : iter mx (ZK.a mx t q l (l.length : Int)) (0 : Int) = _ := e1
  have hall : ∀ k ∈ l, Vi t q.length k := fun k hk => by
   obtain ⟨j, hj, rfl⟩ := List.mem_iff_getElem.1 hk
   have := h j hj
   rwa [getD_some hj] at this
  have hp := (Qd6 l l.length (Nat.le_refl _)).2.2.2
  rw [List.take_length] at hp
  rw [e1]
  simp only [Option.bind_some, Qjf (l := l) (by omega), Vf]
  by_cases h6 : (l.map nm).Nodup
  ·rw [hp.2 h6, decide_eq_true rfl, if_pos ⟨h1, h2, h3, h4, h5, hall, h6⟩]; rfl
  ·rw [decide_eq_false (fun e2 => h6 (hp.1 (by omega))), if_neg (fun h : okI (t, q, l, e, n, b) => h6 h.2.2.2.2.2.2)]; rfl
 ·have e1 : iter mx (ZK.a mx t q l (l.length : Int)) (0 : Int) = _ := e1
  rw [e1, if_neg (fun h : okI (t, q, l, e, n, b) => hp (h.2.2.2.2.2.1 _ (Zt hi)))]; rfl
theorem QbO {v : Img} (h : okI v) : ∀ k ∈ v.2.2.1, k.2.1.length ≤ 140737488351232 ∧ k.2.2.1.length ≤ 140737488351232 := fun k hk => by
 have := (h.2.2.2.2.2.1 k hk).2.2.1
 unfold QbK at this
 omega
end Go.Proofs.YtpfjjbpoikgocaaGreat
namespace Go.Proofs.YtpfjjbpoikgocaaGreat
open Go.Abs
set_option maxRecDepth 100000
abbrev Chg := Int × Int × Itm × List Int × Int × Int × Bool
abbrev C0 : Chg := (0, (0, (([], ([], (0, (0, 0)))), ([], (0, (0, false))))))
def smF : Nat → Nat → List Int
 | 0, n => [((n : Nat) : Int)]
 | f + 1, n => if n < 128 then [((n : Nat) : Int)] else ((n % 128 + 128 : Nat) : Int) :: smF f (n / 128)
def sm (n : Nat) : List Int := smF 10 n
theorem QhX : ∀ (f n : Nat), 1 ≤ (smF f n).length ∧ (smF f n).length ≤ f + 1
 | 0, n => by simp [smF]
 | f + 1, n => by
  have := QhX f (n / 128)
  rw [smF]; split
  ·simp
  ·rw [List.length_cons]; omega
theorem ZD (n : Nat) : 1 ≤ (sm n).length ∧ (sm n).length ≤ 11 := QhX 10 n
theorem Qq2 {b : Nat} (h : b < 256) : VG .or .u8 (b : Int) 128 = ((b % 128 + 128 : Nat) : Int) := by
 have h2 : (List.range 256).all (fun b => VG .or .u8 (b : Int) 128 == ((b % 128 + 128 : Nat) : Int)) = true := by kernel_rfl
 exact beq_iff_eq.1 (List.all_eq_true.1 h2 b (List.mem_range.2 h))
theorem QqW {n k : Nat} (hk : k ≤ 64) : QeE .u64 (n : Int) (k : Int) = ((n / 2 ^ k : Nat) : Int) := by
 have e : QeE .u64 (n : Int) (k : Int) = (n : Int).fdiv (2 ^ min k 64) := rfl
 rw [e, Nat.min_eq_left hk, Int.fdiv_eq_ediv_of_nonneg _ (by exact Int.le_of_lt (Int.pow_pos (by decide)))]
 simp
theorem wu8n (n : Nat) : IntKind.u8.wrap (n : Int) = ((n % 256 : Nat) : Int) := by
 show ((n : Int) % 256) = _
 omega
theorem Qhc : ∀ (f n : Nat) (acc : List Int) (k : Nat), n < 128 ^ (f + 1) → f < k → acc.length + f ≤ 1000000 →
  ∃ a b, QaG (Q7.a mx) k ((n : Int), acc) = some (((a : Nat) : Int), b) ∧ b ++ [((a : Nat) : Int)] = acc ++ smF f n ∧ a < 128 ∧ b.length ≤ acc.length + f
 | f, n, acc, k, hn, hk, hl => by
  obtain ⟨k, rfl⟩ : ∃ m, k = m + 1 := ⟨k - 1, by omega⟩
  by_cases h : n < 128
  ·have e : Q7.a mx ((n : Int), acc) = some (.fin ((n : Int), acc)) := by
    simp only [Q7.a, decide_eq_false (show ¬ (127 : Int) < (n : Int) by omega), cond_false]
   refine ⟨n, acc, Jr e, ?_, h, by omega⟩
   cases f with
   | zero => rfl
   | succ f => rw [smF, if_pos h]
  ·cases f with
   | zero => simp at hn; omega
   | succ f =>
    have e : Q7.a mx ((n : Int), acc) = some (.next (((n / 128 : Nat) : Int), acc ++ [((n % 128 + 128 : Nat) : Int)])) := by
     have e1 : VG .or .u8 (IntKind.u8.wrap (n : Int)) 128 = ((n % 128 + 128 : Nat) : Int) := by
      rw [wu8n, Qq2 (Nat.mod_lt _ (by decide))]; omega
     have e2 : QeE .u64 (n : Int) 7 = ((n / 128 : Nat) : Int) := QqW (k := 7) (by decide)
     have c1 : Nat.ble (acc.length + 1) 140737488351232 = true := ZQ (by omega)
     simp only [Q7.a, decide_eq_true (show (127 : Int) < (n : Int) by omega), cond_true, e1, e2, List.length_singleton, c1]
    rw [Jl e]
    obtain ⟨a, b, h1, h2, h3, h4⟩ := Qhc f (n / 128) (acc ++ [((n % 128 + 128 : Nat) : Int)]) k (by rw [Nat.pow_succ] at hn; exact Nat.div_lt_of_lt_mul (by omega)) (by omega) (by rw [List.length_append, List.length_singleton]; omega)
    rw [List.length_append, List.length_singleton] at h4
    refine ⟨a, b, h1, ?_, h3, by omega⟩
    rw [h2, smF, if_neg h, List.append_assoc]; rfl
theorem QhW {n : Int} (h1 : 0 ≤ n) (h2 : n ≤ 18446744073709551615) : Q7 mx n = some (sm n.toNat) := by
 obtain ⟨n, rfl⟩ := Int.eq_ofNat_of_zero_le h1
 have e0 : (128 : Nat) ^ (10 + 1) = 151115727451828646838272 := by decide
 obtain ⟨a, b, g1, g2, g3, g4⟩ := Qhc 10 n [] N0 (by rw [e0]; omega) (by unfold N0; omega) (by simp)
 have g1 : iter mx (Q7.a mx) ((n : Int), ([] : List Int)) = _ := g1
 have c1 : Nat.ble (b.length + 1) 140737488351232 = true := ZQ (by simp at g4; omega)
 simp only [Q7, g1, Option.bind_some, wu8n, List.length_singleton, c1, cond_true]
 rw [Nat.mod_eq_of_lt (by omega), g2]
 rfl
theorem QeA {n : Int} (h1 : 0 ≤ n) (h2 : n ≤ 18446744073709551615) : Q7 mx (IntKind.u64.wrap n) = some (sm n.toNat) := by rw [wu64 h1 h2, QhW h1 h2]
def ZY (l : List Int) : List Int := (l.map fun x => sm x.toNat).flatten
def txt (s : List Int) : List Int := sm s.length ++ s
theorem Qa2 : ∀ (l : List Int), (ZY l).length ≤ 11 * l.length
 | [] => by simp [ZY]
 | x :: l => by
  have h1 := Qa2 l
  have h2 := ZD x.toNat
  have : ZY (x :: l) = sm x.toNat ++ ZY l := rfl
  rw [this, List.length_append, List.length_cons]; omega
def Qli (l : List Int) : Prop := l.length ≤ 100000 ∧ ∀ x ∈ l, 0 ≤ x ∧ x ≤ 9223372036854775807
theorem Qnk {a l : List Int} (ha : a.length ≤ 1000000000) (hl : Qli l) : Z1 mx (a, l) = some (a ++ ZY l) := by
 obtain ⟨h1, h2⟩ := hl
 have := QL (f := Z1.a mx l (l.length : Int)) (fun i => (a ++ ZY (l.take i), (i : Int))) l.length (r := a ++ ZY l) (Z7 (by omega)) (fun i hi => by
  obtain ⟨b1, b2⟩ := h2 _ (Zt (d := 0) hi)
  have hn := Qa2 (l.take i)
  rw [List.length_take] at hn
  have hs := ZD (l.getD i 0).toNat
  have c1 : Nat.ble ((a ++ ZY (l.take i)).length + (sm (l.getD i 0).toNat).length) 140737488351232 = true := ZQ (by rw [List.length_append]; omega)
  simp only [Z1.a, ltd hi, lez, Bool.and_self, cond_true, Int.toNat_natCast, QeA b1 (show l.getD i 0 ≤ 18446744073709551615 by omega), Option.bind_some, c1]
  rw [Z8 (by omega), QH hi 0, ZY, ZY, List.map_append, List.flatten_append, List.append_assoc]
  simp) (by simp only [Z1.a, nltd, cond_false, List.take_length])
 have this : iter mx (Z1.a mx l (l.length : Int)) (a ++ ZY (l.take 0), (0 : Int)) = _ := this
 rw [show a ++ ZY (l.take 0) = a by simp [ZY]] at this
 simp only [Z1, this, Option.bind_some]
theorem QfP {s : List Int} (hs : s.length ≤ 1000000000) : JL mx s = some (txt s) := by
 have h := ZD ((s.length : Int).toNat)
 have c1 : Nat.ble ((sm ((s.length : Int).toNat)).length + s.length) 140737488351232 = true := ZQ (by omega)
 simp only [JL, QeA (show 0 ≤ (s.length : Int) by omega) (show (s.length : Int) ≤ 18446744073709551615 by omega), Option.bind_some, c1, cond_true]
 rfl
theorem QmE {a s t : List Int} (ha : a.length ≤ 1000000000) (hs : s.length ≤ 1000000000) (ht : t.length ≤ 1000000000) : ZH mx (a, [s, t]) = some (a ++ (txt s ++ txt t)) := by
 have h1 := ZD s.length
 have h2 := ZD t.length
 have c1 : Nat.ble (a.length + (txt s).length) 140737488351232 = true := ZQ (by unfold txt; rw [List.length_append]; omega)
 have c2 : Nat.ble ((a ++ txt s).length + (txt t).length) 140737488351232 = true := ZQ (by unfold txt; simp only [List.length_append]; omega)
 have := QL (f := ZH.a mx [s, t] (2 : Int)) (fun i => (if i = 0 then a else if i = 1 then a ++ txt s else a ++ txt s ++ txt t, (i : Int))) 2 (r := a ++ txt s ++ txt t) (by unfold N0; omega) (fun i hi => by
  match i, hi with
  | 0, _ =>
   show ZH.a mx [s, t] (2 : Int) (a, (0 : Int)) = some (.next (a ++ txt s, (1 : Int)))
   show (JL mx s).bind _ = _
   rw [QfP hs]
   simp only [Option.bind_some, c1, cond_true]; rfl
  | 1, _ =>
   show ZH.a mx [s, t] (2 : Int) (a ++ txt s, (1 : Int)) = some (.next (a ++ txt s ++ txt t, (2 : Int)))
   show (JL mx t).bind _ = _
   rw [QfP ht]
   simp only [Option.bind_some, c2, cond_true]; rfl) rfl
 have this : iter mx (ZH.a mx [s, t] (2 : Int)) (a, (0 : Int)) = _ := this
 show (iter mx (ZH.a mx [s, t] (2 : Int)) (a, (0 : Int))).bind _ = _
 rw [this, List.append_assoc]; rfl
theorem QmF {a s : List Int} (ha : a.length ≤ 1000000000) (hs : s.length ≤ 1000000000) : ZH mx (a, [s]) = some (a ++ txt s) := by
 have h1 := ZD s.length
 have c1 : Nat.ble (a.length + (txt s).length) 140737488351232 = true := ZQ (by unfold txt; rw [List.length_append]; omega)
 have := QL (f := ZH.a mx [s] (1 : Int)) (fun i => (if i = 0 then a else a ++ txt s, (i : Int))) 1 (r := a ++ txt s) (by unfold N0; omega) (fun i hi => by
  match i, hi with
  | 0, _ =>
   show ZH.a mx [s] (1 : Int) (a, (0 : Int)) = some (.next (a ++ txt s, (1 : Int)))
   show (JL mx s).bind _ = _
   rw [QfP hs]
   simp only [Option.bind_some, c1, cond_true]; rfl) rfl
 have this : iter mx (ZH.a mx [s] (1 : Int)) (a, (0 : Int)) = _ := this
 show (iter mx (ZH.a mx [s] (1 : Int)) (a, (0 : Int))).bind _ = _
 rw [this]; rfl
def itm0 (x : Itm) : Prop := x.1 = [] ∧ x.2.1 = [] ∧ x.2.2.1 = 0 ∧ x.2.2.2.1 = 0 ∧ x.2.2.2.2 = 0
def chOk (c : Chg) : Prop := (0 ≤ c.2.1 ∧ c.2.1 < 4) ∧
 ((c.1 = 1 ∧ ((1 ≤ c.2.2.1.1.length ∧ c.2.2.1.1.length ≤ 32) ∧ c.2.2.1.2.1.length ≤ 512 ∧ (0 ≤ c.2.2.1.2.2.2.1 ∧ c.2.2.1.2.2.2.1 ≤ 1099511627776)) ∧ c.2.2.2.1 = [] ∧ c.2.2.2.2.1 = 0 ∧ c.2.2.2.2.2.1 = 0 ∧ c.2.2.2.2.2.2 = false) ∨
  (c.1 = 2 ∧ ((1 ≤ c.2.2.2.1.length ∧ c.2.2.2.1.length ≤ 32) ∧ (c.2.2.2.2.1 = 1 ∨ c.2.2.2.2.1 = 2)) ∧ itm0 c.2.2.1 ∧ c.2.2.2.2.2.1 = 0 ∧ c.2.2.2.2.2.2 = false) ∨
  (c.1 = 3 ∧ itm0 c.2.2.1 ∧ c.2.2.2.1 = [] ∧ c.2.2.2.2.1 = 0 ∧ c.2.2.2.2.2.1 = 0 ∧ c.2.2.2.2.2.2 = false) ∨
  (c.1 = 4 ∧ (0 ≤ c.2.2.2.2.2.1 ∧ c.2.2.2.2.2.1 ≤ 1099511627776) ∧ c.2.1 = 0 ∧ itm0 c.2.2.1 ∧ c.2.2.2.1 = [] ∧ c.2.2.2.2.1 = 0 ∧ c.2.2.2.2.2.2 = false) ∨
  (c.1 = 5 ∧ (0 ≤ c.2.2.2.2.2.1 ∧ c.2.2.2.2.2.1 ≤ 16) ∧ itm0 c.2.2.1 ∧ c.2.2.2.1 = [] ∧ c.2.2.2.2.1 = 0 ∧ c.2.2.2.2.2.2 = false) ∨
  (c.1 = 6 ∧ (0 ≤ c.2.2.2.2.2.1 ∧ c.2.2.2.2.2.1 ≤ 2147483647) ∧ c.2.1 = 0 ∧ itm0 c.2.2.1 ∧ c.2.2.2.1 = [] ∧ c.2.2.2.2.1 = 0) ∨
  (c.1 = 7 ∧ (0 ≤ c.2.2.2.2.2.1 ∧ c.2.2.2.2.2.1 ≤ 2147483647) ∧ c.2.1 = 0 ∧ itm0 c.2.2.1 ∧ c.2.2.2.1 = [] ∧ c.2.2.2.2.1 = 0 ∧ c.2.2.2.2.2.2 = false))
instance (x : Itm) : Decidable (itm0 x) := by unfold itm0; infer_instance
instance (c : Chg) : Decidable (chOk c) := by unfold chOk; infer_instance
theorem Qlo (b : List Int) : Qav mx b = some (decide (1 ≤ b.length ∧ b.length ≤ 32)) := by
 cases b with
 | nil => rfl
 | cons a b =>
  show some (decide ((((a :: b).length : Nat) : Int) ≤ 32)) = _
  congr 1
  rw [decide_eq_decide]
  simp only [List.length_cons]; omega
theorem QhE (a b : Int) : Qam mx (a, b) = some (decide (0 ≤ a ∧ a ≤ b)) := by
 simp only [Qam]
 by_cases h : 0 ≤ a
 ·rw [decide_eq_true h]; simp [h]
 ·rw [decide_eq_false h]; simp [h]
theorem Qqo (a : Int) : Vh mx a = some (decide (0 ≤ a ∧ a < 4)) := by
 simp only [Vh]
 by_cases h : 0 ≤ a
 ·rw [decide_eq_true h]; simp [h]
 ·rw [decide_eq_false h]; simp [h]
theorem b3 {α : Type} (a b c : Bool) (r : α) : (bif a then (bif b then some (c, r) else some (false, r)) else some (false, r)) = some (a && (b && c), r) := by cases a <;> cases b <;> rfl
theorem b2 {α : Type} (a b c : Bool) (r : α) : (bif a then (bif b then some (true, r) else some (c, r)) else some (false, r)) = some (a && (b || c), r) := by cases a <;> cases b <;> rfl
theorem QpR (c : Chg) : Zn mx (c.1, c.2.1, c.2.2.1.1, c.2.2.1.2.1, c.2.2.1.2.2.1, c.2.2.1.2.2.2.1, c.2.2.1.2.2.2.2, c.2.2.2) = some (decide (chOk c)) := by
 obtain ⟨kd, t, ⟨k, v, f, d, cs⟩, b, how, n, yes⟩ := c
 suffices h : ∃ B, Zn mx (kd, t, k, v, f, d, cs, b, how, n, yes) = some B ∧ (B = true ↔ chOk (kd, t, (k, v, f, d, cs), b, how, n, yes)) by
  obtain ⟨B, h1, h2⟩ := h
  show Zn mx (kd, t, k, v, f, d, cs, b, how, n, yes) = _
  rw [h1]; congr 1
  cases B with
  | true => exact (decide_eq_true (h2.1 rfl)).symm
  | false => exact (decide_eq_false fun h => by have := h2.2 h; cases this).symm
 have fin : ∀ (p : Bool) (r : Int × Int × List Int × List Int × Int × Int × Int × List Int × Int × Int × Bool), Zn.a mx kd t k v f d cs b how n yes = some (p, r) → Zn mx (kd, t, k, v, f, d, cs, b, how, n, yes) = some (p && (decide (0 ≤ t ∧ t < 4) &&
   ((r.1 == kd) && ((r.2.1 == t) && (((r.2.2.1 == k) && ((r.2.2.2.1 == v) && ((r.2.2.2.2.1 == f) && ((r.2.2.2.2.2.1 == d) && ((r.2.2.2.2.2.2.1 == cs) && true))))) && ((r.2.2.2.2.2.2.2.1 == b) && ((r.2.2.2.2.2.2.2.2.1 == how) && ((r.2.2.2.2.2.2.2.2.2.1 == n) && ((r.2.2.2.2.2.2.2.2.2.2 == yes) && true))))))))) := fun p r e => by
  simp only [Zn, e, Option.bind_some, Qqo, Qqa]
 by_cases k1 : kd = 1
 ·subst k1
  have s : Zn.a mx 1 t k v f d cs b how n yes = some (decide (1 ≤ k.length ∧ k.length ≤ 32) && (decide ((v.length : Int) ≤ 512) && decide (0 ≤ d ∧ d ≤ 1099511627776)), 1, t, k, v, f, d, cs, [], 0, 0, false) := by
   simp only [Zn.a, Qlo, QhE, beq_self_eq_true, cond_true, Option.bind_some, b3]
  refine ⟨_, fin _ _ s, ?_⟩
  simp only [Bool.and_eq_true, decide_eq_true_eq, beq_iff_eq, chOk, itm0]
  grind
 by_cases k2 : kd = 2
 ·subst k2
  have s : Zn.a mx 2 t k v f d cs b how n yes = some (decide (1 ≤ b.length ∧ b.length ≤ 32) && ((how == 1) || (how == 2)), 2, t, [], [], 0, 0, 0, b, how, 0, false) := by
   have e : ((2 : Int) == 1) = false := rfl
   simp only [Zn.a, e, Qlo, QhE, beq_self_eq_true, cond_true, cond_false, Option.bind_some, b2]
  refine ⟨_, fin _ _ s, ?_⟩
  simp only [Bool.and_eq_true, Bool.or_eq_true, decide_eq_true_eq, beq_iff_eq, chOk, itm0]
  grind
 have z1 : (kd == 1) = false := by simpa using k1
 have z2 : (kd == 2) = false := by simpa using k2
 by_cases k3 : kd = 3
 ·subst k3
  have s : Zn.a mx 3 t k v f d cs b how n yes = some (true, 3, t, [], [], 0, 0, 0, [], 0, 0, false) := rfl
  refine ⟨_, fin _ _ s, ?_⟩
  simp only [Bool.and_eq_true, decide_eq_true_eq, beq_iff_eq, chOk, itm0]
  grind
 have z3 : (kd == 3) = false := by simpa using k3
 by_cases k4 : kd = 4
 ·subst k4
  have s : Zn.a mx 4 t k v f d cs b how n yes = some (decide (0 ≤ n ∧ n ≤ 1099511627776), 4, 0, [], [], 0, 0, 0, [], 0, n, false) := by
   simp only [Zn.a, z1, z2, z3, QhE, beq_self_eq_true, cond_true, cond_false, Option.bind_some]
  refine ⟨_, fin _ _ s, ?_⟩
  simp only [Bool.and_eq_true, decide_eq_true_eq, beq_iff_eq, chOk, itm0]
  grind
 have z4 : (kd == 4) = false := by simpa using k4
 by_cases k5 : kd = 5
 ·subst k5
  have s : Zn.a mx 5 t k v f d cs b how n yes = some (decide (0 ≤ n ∧ n ≤ 16), 5, t, [], [], 0, 0, 0, [], 0, n, false) := by
   simp only [Zn.a, z1, z2, z3, z4, QhE, beq_self_eq_true, cond_true, cond_false, Option.bind_some]
  refine ⟨_, fin _ _ s, ?_⟩
  simp only [Bool.and_eq_true, decide_eq_true_eq, beq_iff_eq, chOk, itm0]
  grind
 have z5 : (kd == 5) = false := by simpa using k5
 by_cases k6 : kd = 6
 ·subst k6
  have s : Zn.a mx 6 t k v f d cs b how n yes = some (decide (0 ≤ n ∧ n ≤ 2147483647), 6, 0, [], [], 0, 0, 0, [], 0, n, yes) := by
   simp only [Zn.a, z1, z2, z3, z4, z5, QhE, beq_self_eq_true, cond_true, cond_false, Option.bind_some]
  refine ⟨_, fin _ _ s, ?_⟩
  simp only [Bool.and_eq_true, decide_eq_true_eq, beq_iff_eq, chOk, itm0]
  grind
 have z6 : (kd == 6) = false := by simpa using k6
 by_cases k7 : kd = 7
 ·subst k7
  have s : Zn.a mx 7 t k v f d cs b how n yes = some (decide (0 ≤ n ∧ n ≤ 2147483647), 7, 0, [], [], 0, 0, 0, [], 0, n, false) := by
   simp only [Zn.a, z1, z2, z3, z4, z5, z6, QhE, beq_self_eq_true, cond_true, cond_false, Option.bind_some]
  refine ⟨_, fin _ _ s, ?_⟩
  simp only [Bool.and_eq_true, decide_eq_true_eq, beq_iff_eq, chOk, itm0]
  grind
 have z7 : (kd == 7) = false := by simpa using k7
 have s : Zn.a mx kd t k v f d cs b how n yes = some (false, kd, 0, [], [], 0, 0, 0, [], 0, 0, false) := by
  simp only [Zn.a, z1, z2, z3, z4, z5, z6, z7, cond_false]
 refine ⟨_, fin _ _ s, ?_⟩
 simp only [Bool.false_and, Bool.false_eq_true, false_iff]
 rintro ⟨_, h | h | h | h | h | h | h⟩
 ·exact k1 h.1
 ·exact k2 h.1
 ·exact k3 h.1
 ·exact k4 h.1
 ·exact k5 h.1
 ·exact k6 h.1
 ·exact k7 h.1
def wfC (c : Chg) : Prop := isU32' c.2.2.1.2.2.1 ∧ 0 ≤ c.2.2.1.2.2.2.2 ∧ c.2.2.1.2.2.2.2 ≤ 18446744073709551615
where isU32' (n : Int) : Prop := 0 ≤ n ∧ n ≤ 4294967295
def putB (c : Chg) : List Int :=
 if c.1 = 1 then [1] ++ sm c.2.1.toNat ++ (txt c.2.2.1.1 ++ txt c.2.2.1.2.1) ++ (sm c.2.2.1.2.2.1.toNat ++ sm c.2.2.1.2.2.2.1.toNat) ++ sm c.2.2.1.2.2.2.2.toNat
 else if c.1 = 2 then [2] ++ sm c.2.1.toNat ++ txt c.2.2.2.1 ++ [c.2.2.2.2.1]
 else if c.1 = 3 then [3] ++ sm c.2.1.toNat
 else if c.1 = 5 then [5] ++ sm c.2.1.toNat ++ sm c.2.2.2.2.2.1.toNat
 else if c.1 = 6 then [6] ++ sm c.2.2.2.2.2.1.toNat ++ [if c.2.2.2.2.2.2 then 1 else 0]
 else [c.1] ++ sm c.2.2.2.2.2.1.toNat
theorem Qic {a : List Int} {x : Int} (ha : a.length ≤ 1000000000) (h1 : 0 ≤ x) (h2 : x ≤ 9223372036854775807) : Z1 mx (a, [x]) = some (a ++ sm x.toNat) := by
 have := Qnk ha (l := [x]) ⟨by simp, fun y hy => by rw [List.mem_singleton] at hy; subst hy; exact ⟨h1, h2⟩⟩
 simpa [ZY] using this
theorem Qq3 {a : List Int} {x y : Int} (ha : a.length ≤ 1000000000) (h1 : 0 ≤ x) (h2 : x ≤ 9223372036854775807) (h3 : 0 ≤ y) (h4 : y ≤ 9223372036854775807) : Z1 mx (a, [x, y]) = some (a ++ (sm x.toNat ++ sm y.toNat)) := by
 have := Qnk ha (l := [x, y]) ⟨by simp, fun z hz => by
  rcases List.mem_cons.1 hz with rfl | hz
  ·exact ⟨h1, h2⟩
  ·rw [List.mem_singleton] at hz; subst hz; exact ⟨h3, h4⟩⟩
 simpa [ZY] using this
theorem Qad (s : List Int) : s.length + 1 ≤ (txt s).length ∧ (txt s).length ≤ s.length + 11 := by
 have := ZD s.length
 unfold txt; rw [List.length_append]; omega
theorem Qh5 {c : Chg} (h : chOk c) : 2 ≤ (putB c).length ∧ (putB c).length ≤ 700 := by
 have a1 := ZD c.2.1.toNat
 have a2 := Qad c.2.2.1.1
 have a3 := Qad c.2.2.1.2.1
 have a4 := ZD c.2.2.1.2.2.1.toNat
 have a5 := ZD c.2.2.1.2.2.2.1.toNat
 have a6 := ZD c.2.2.1.2.2.2.2.toNat
 have a7 := Qad c.2.2.2.1
 have a8 := ZD c.2.2.2.2.2.1.toNat
 unfold putB
 obtain ⟨_, h | h | h | h | h | h | h⟩ := h <;> simp only [h.1] <;> simp only [List.length_append, List.length_cons, List.length_nil, reduceIte, Int.reduceEq] <;> omega
theorem Qqu {acc : List Int} (ha : acc.length ≤ 10000000) {c : Chg} (hc : chOk c) (hw : wfC c) :
  Qq mx (acc, c.1, c.2.1, c.2.2.1.1, c.2.2.1.2.1, c.2.2.1.2.2.1, c.2.2.1.2.2.2.1, c.2.2.1.2.2.2.2, c.2.2.2) = some (acc ++ putB c) := by
 obtain ⟨kd, t, ⟨k, v, f, d, cs⟩, b, how, n, yes⟩ := c
 obtain ⟨⟨w1, w2⟩, w3, w4⟩ := hw
 obtain ⟨⟨t1, t2⟩, hc⟩ := hc
 dsimp only at w1 w2 w3 w4 t1 t2 hc
 have a1 := ZD t.toNat
 have a2 := Qad k
 have a3 := Qad v
 have a4 := ZD f.toNat
 have a5 := ZD d.toNat
 have a6 := ZD cs.toNat
 have a7 := Qad b
 have a8 := ZD n.toNat
 have c0 : Nat.ble (acc.length + 1) 140737488351232 = true := ZQ (by omega)
 have l1 : ∀ x : Int, (acc ++ [x]).length ≤ 1000000000 := fun x => by rw [List.length_append, List.length_singleton]; omega
 have l2 : ∀ x : Int, (acc ++ [x] ++ sm t.toNat).length ≤ 1000000000 := fun x => by simp only [List.length_append, List.length_singleton]; omega
 rcases hc with h | h | h | h | h | h | h
 ·obtain ⟨rfl, ⟨⟨h1, h2⟩, h3, h4, h5⟩, rfl, rfl, rfl, rfl⟩ := h
  have l3 : (acc ++ [1] ++ sm t.toNat ++ (txt k ++ txt v)).length ≤ 1000000000 := by simp only [List.length_append, List.length_singleton]; omega
  have c1 : Nat.ble ((acc ++ [1] ++ sm t.toNat ++ (txt k ++ txt v) ++ (sm f.toNat ++ sm d.toNat)).length + (sm cs.toNat).length) 140737488351232 = true := ZQ (by simp only [List.length_append, List.length_singleton]; omega)
  have e1 : Qq.a mx 1 = some true := rfl
  have wf : IntKind.i64.wrap f = f := w64 (by omega) (by omega)
  have e6 : ((1 : Int) == 6) = false := rfl
  simp only [Qq, List.length_singleton, c0, cond_true, Qq.b, e1, Option.bind_some, Qic (l1 1) t1 (show t ≤ 9223372036854775807 by omega), Qq.d, beq_self_eq_true,
   QmE (l2 1) (show k.length ≤ 1000000000 by omega) (show v.length ≤ 1000000000 by omega), wf, Qq3 l3 w1 (show f ≤ 9223372036854775807 by omega) h4 (show d ≤ 9223372036854775807 by omega), QhW w3 w4, c1, putB, reduceIte]
  simp only [List.append_assoc]
 ·obtain ⟨rfl, ⟨⟨h1, h2⟩, h3⟩, h4, rfl, rfl⟩ := h
  have c1 : Nat.ble ((acc ++ [2] ++ sm t.toNat ++ txt b).length + 1) 140737488351232 = true := ZQ (by simp only [List.length_append, List.length_singleton]; omega)
  have e1 : Qq.a mx 2 = some true := rfl
  have e2 : ((2 : Int) == 1) = false := rfl
  have e6 : ((2 : Int) == 6) = false := rfl
  simp only [Qq, List.length_singleton, c0, cond_true, Qq.b, e1, Option.bind_some, Qic (l1 2) t1 (show t ≤ 9223372036854775807 by omega), Qq.d, e2, cond_false, beq_self_eq_true,
   QmF (l2 2) (show b.length ≤ 1000000000 by omega), c1, putB, reduceIte]
  rw [if_neg (by decide)]
  simp only [List.append_assoc]
 ·obtain ⟨rfl, _⟩ := h
  have e1 : Qq.a mx 3 = some true := rfl
  have e2 : ((3 : Int) == 1) = false := rfl
  have e3 : ((3 : Int) == 2) = false := rfl
  have e4 : Qq.c mx 3 = some false := rfl
  have e6 : ((3 : Int) == 6) = false := rfl
  simp only [Qq, List.length_singleton, c0, cond_true, Qq.b, e1, Option.bind_some, Qic (l1 3) t1 (show t ≤ 9223372036854775807 by omega), Qq.d, e2, e3, e4, e6, cond_false, putB, Int.reduceEq, reduceIte, List.append_assoc]
 ·obtain ⟨rfl, ⟨h1, h2⟩, _⟩ := h
  have e1 : Qq.a mx 4 = some false := rfl
  have e2 : ((4 : Int) == 1) = false := rfl
  have e3 : ((4 : Int) == 2) = false := rfl
  have e4 : Qq.c mx 4 = some true := rfl
  have e6 : ((4 : Int) == 6) = false := rfl
  simp only [Qq, List.length_singleton, c0, cond_true, Qq.b, e1, Option.bind_some, Qic (l1 4) h1 (show n ≤ 9223372036854775807 by omega), Qq.d, e2, e3, e4, e6, cond_false, putB, Int.reduceEq, reduceIte, List.append_assoc]
 ·obtain ⟨rfl, ⟨h1, h2⟩, _⟩ := h
  have e1 : Qq.a mx 5 = some true := rfl
  have e2 : ((5 : Int) == 1) = false := rfl
  have e3 : ((5 : Int) == 2) = false := rfl
  have e4 : Qq.c mx 5 = some true := rfl
  have e6 : ((5 : Int) == 6) = false := rfl
  simp only [Qq, List.length_singleton, c0, cond_true, Qq.b, e1, Option.bind_some, Qic (l1 5) t1 (show t ≤ 9223372036854775807 by omega), Qic (l2 5) h1 (show n ≤ 9223372036854775807 by omega), Qq.d, e2, e3, e4, e6, cond_false, putB, Int.reduceEq, reduceIte]
  simp only [List.append_assoc]
 ·obtain ⟨rfl, ⟨h1, h2⟩, _⟩ := h
  have e1 : Qq.a mx 6 = some false := rfl
  have e2 : ((6 : Int) == 1) = false := rfl
  have e3 : ((6 : Int) == 2) = false := rfl
  have e4 : Qq.c mx 6 = some true := rfl
  have c1 : Nat.ble ((acc ++ [6] ++ sm n.toNat).length + 1) 140737488351232 = true := ZQ (by simp only [List.length_append, List.length_singleton]; omega)
  simp only [Qq, List.length_singleton, c0, cond_true, Qq.b, e1, Option.bind_some, Qic (l1 6) h1 (show n ≤ 9223372036854775807 by omega), Qq.d, e2, e3, e4, cond_false, beq_self_eq_true, c1, putB, Int.reduceEq, reduceIte]
  cases yes <;> simp
 ·obtain ⟨rfl, ⟨h1, h2⟩, _⟩ := h
  have e1 : Qq.a mx 7 = some false := rfl
  have e2 : ((7 : Int) == 1) = false := rfl
  have e3 : ((7 : Int) == 2) = false := rfl
  have e4 : Qq.c mx 7 = some true := rfl
  have e6 : ((7 : Int) == 6) = false := rfl
  simp only [Qq, List.length_singleton, c0, cond_true, Qq.b, e1, Option.bind_some, Qic (l1 7) h1 (show n ≤ 9223372036854775807 by omega), Qq.d, e2, e3, e4, e6, cond_false, putB, Int.reduceEq, reduceIte, List.append_assoc]
def Z3 (cs : List Chg) : List Int := (cs.map putB).flatten
def Ji (cs : List Chg) : List Int := sm cs.length ++ Z3 cs
def VX (cs : List Chg) : Int := if 4096 < cs.length then 4 else if ∀ c ∈ cs, chOk c then (if 65536 < (Ji cs).length then 3 else 0) else 8
theorem QbU (a b : List Chg) : Z3 (a ++ b) = Z3 a ++ Z3 b := by simp [Z3]
theorem Qd4 (c : Chg) : Z3 [c] = putB c := by simp [Z3]
theorem VJ {cs : List Chg} : VX cs = 0 ↔ cs.length ≤ 4096 ∧ (∀ c ∈ cs, chOk c) ∧ (Ji cs).length ≤ 65536 := by
 unfold VX
 by_cases h1 : 4096 < cs.length
 ·rw [if_pos h1]; exact ⟨fun h => (by cases h), fun h => (by omega)⟩
 rw [if_neg h1]
 by_cases h2 : ∀ c ∈ cs, chOk c
 ·rw [if_pos h2]
  by_cases h3 : 65536 < (Ji cs).length
  ·rw [if_pos h3]; exact ⟨fun h => (by cases h), fun h => (by omega)⟩
  ·rw [if_neg h3]; exact ⟨fun _ => ⟨(by omega), h2, (by omega)⟩, fun _ => rfl⟩
 ·rw [if_neg h2]; exact ⟨fun h => (by cases h), fun h => absurd h.2.1 h2⟩
theorem Qdl {cs : List Chg} (hw : ∀ c ∈ cs, wfC c) : Qw mx cs = some (if VX cs = 0 then Ji cs else [], VX cs) := by
 simp only [Qw]
 by_cases h1 : 4096 < cs.length
 ·have : VX cs = 4 := by unfold VX; rw [if_pos h1]
  rw [decide_eq_true (show (4096 : Int) < (cs.length : Int) by omega), this]; rfl
 rw [decide_eq_false (show ¬ (4096 : Int) < (cs.length : Int) by omega)]
 simp only [cond_false]
 have hstep : ∀ i, i < cs.length → Qw.a mx cs (cs.length : Int) (i : Int) = some (bif decide (chOk (cs.getD i C0)) then .next ((i + 1 : Nat) : Int) else .fin (.inl 8)) := fun i hi => by
  simp only [Qw.a, ltd hi, lez, Bool.and_self, cond_true, Int.toNat_natCast, QpR, Option.bind_some]
  rw [Z8 (by omega)]
  by_cases h : chOk (cs.getD i C0)
  ·rw [decide_eq_true h]; rfl
  ·rw [decide_eq_false h]; rfl
 rcases JF (f := Qw.a mx cs (cs.length : Int)) (fun i => (i : Int)) cs.length (fun i => chOk (cs.getD i C0)) (Z7 (by omega)) (fun _ => .inl 8) (.inr ())
  (fun i hi hp _ => by rw [hstep i hi, decide_eq_true hp]; rfl)
  (fun i hi hp _ => by rw [hstep i hi, decide_eq_false hp]; rfl)
  (fun _ => by simp only [Qw.a, nltd, cond_false]) with ⟨h, e1⟩ | ⟨i, hi, hp, _, e1⟩
 ·have e1 : iter mx (Qw.a mx cs (cs.length : Int)) (0 : Int) = _ := e1
  have hall : ∀ c ∈ cs, chOk c := fun k hk => by
   obtain ⟨j, hj, rfl⟩ := List.mem_iff_getElem.1 hk
   have := h j hj
   rwa [getD_some hj] at this
  have hn := Qic (a := []) (x := (cs.length : Int)) (by simp) (by omega) (by omega)
  rw [Int.toNat_natCast, List.nil_append] at hn
  rw [e1]
  simp only [Option.bind_some, hn]
  have hs := ZD cs.length
  have hlen : ∀ i, i ≤ cs.length → (Z3 (cs.take i)).length ≤ 700 * i := fun i => by
   induction i with
   | zero => intro _; simp [Z3]
   | succ i ih =>
    intro hi
    rw [QH (l := cs) (k := i) (by omega) C0, QbU, Qd4, List.length_append]
    have := ih (by omega)
    have := Qh5 (hall _ (Zt (d := C0) (show i < cs.length by omega)))
    omega
  have hmono : ∀ i, i ≤ cs.length → (Z3 (cs.take i)).length ≤ (Z3 cs).length := fun i hi => by
   conv => rhs; rw [← List.take_append_drop i cs, QbU, List.length_append]
   omega
  have hst2 : ∀ i, i < cs.length → Qw.b mx cs (cs.length : Int) (sm cs.length ++ Z3 (cs.take i), (i : Int)) = some (bif decide ((sm cs.length ++ Z3 (cs.take (i + 1))).length ≤ 65536) then .next (sm cs.length ++ Z3 (cs.take (i + 1)), ((i + 1 : Nat) : Int)) else .fin (.inl 3)) := fun i hi => by
   have hl := hlen i (by omega)
   have hp := Qqu (acc := sm cs.length ++ Z3 (cs.take i)) (by rw [List.length_append]; omega) (hall _ (Zt (d := C0) hi)) (hw _ (Zt (d := C0) hi))
   have e3 : sm cs.length ++ Z3 (cs.take i) ++ putB (cs.getD i C0) = sm cs.length ++ Z3 (cs.take (i + 1)) := by
    rw [QH hi C0, QbU, Qd4, List.append_assoc]
   rw [e3] at hp
   simp only [Qw.b, ltd hi, lez, Bool.and_self, cond_true, Int.toNat_natCast, hp, Option.bind_some]
   rw [Z8 (by omega)]
   by_cases h : (sm cs.length ++ Z3 (cs.take (i + 1))).length ≤ 65536
   ·rw [decide_eq_true h, decide_eq_false (show ¬ (65536 : Int) < (((sm cs.length ++ Z3 (cs.take (i + 1))).length : Nat) : Int) by omega)]; rfl
   ·rw [decide_eq_false h, decide_eq_true (show (65536 : Int) < (((sm cs.length ++ Z3 (cs.take (i + 1))).length : Nat) : Int) by omega)]; rfl
  have hce : VX cs = if 65536 < (Ji cs).length then 3 else 0 := by unfold VX; rw [if_neg h1, if_pos hall]
  rcases JF (f := Qw.b mx cs (cs.length : Int)) (fun i => (sm cs.length ++ Z3 (cs.take i), (i : Int))) cs.length (fun i => (sm cs.length ++ Z3 (cs.take (i + 1))).length ≤ 65536) (Z7 (by omega)) (fun _ => .inl 3) (.inr (Ji cs))
   (fun i hi hp _ => by rw [hst2 i hi, decide_eq_true hp]; rfl)
   (fun i hi hp _ => by rw [hst2 i hi, decide_eq_false hp]; rfl)
   (fun _ => by simp only [Qw.b, nltd, cond_false, List.take_length]; rfl) with ⟨h2, e2⟩ | ⟨i, hi, hp, _, e2⟩
  ·have e2 : iter mx (Qw.b mx cs (cs.length : Int)) (sm cs.length ++ Z3 (cs.take 0), (0 : Int)) = _ := e2
   have e0 : sm cs.length ++ Z3 (cs.take 0) = sm cs.length := by simp [Z3]
   rw [e0] at e2
   rw [e2]
   have : VX cs = 0 := by
    rw [hce, if_neg]
    cases hn : cs.length with
    | zero =>
     have : cs = [] := List.length_eq_zero_iff.1 hn
     subst this
     decide
    | succ n =>
     have := h2 n (by omega)
     rw [← hn, List.take_length] at this
     unfold Ji; omega
   rw [this]; rfl
  ·have e2 : iter mx (Qw.b mx cs (cs.length : Int)) (sm cs.length ++ Z3 (cs.take 0), (0 : Int)) = _ := e2
   have e0 : sm cs.length ++ Z3 (cs.take 0) = sm cs.length := by simp [Z3]
   rw [e0] at e2
   rw [e2]
   have : VX cs = 3 := by
    rw [hce, if_pos]
    have := hmono (i + 1) (by omega)
    unfold Ji
    simp only [List.length_append] at hp ⊢
    omega
   rw [this]; rfl
 ·have e1 : iter mx (Qw.a mx cs (cs.length : Int)) (0 : Int) = _ := e1
  have : VX cs = 8 := by unfold VX; rw [if_neg h1, if_neg (fun h => hp (h _ (Zt hi)))]
  rw [e1, this]; rfl
end Go.Proofs.YtpfjjbpoikgocaaGreat
namespace Go.Proofs.YtpfjjbpoikgocaaGreat
open Go.Abs
set_option maxRecDepth 100000
def JZ : List Kept → List Bool → List Kept
 | k :: l, g :: gs => if g = true then JZ l gs else k :: JZ l gs
 | _, _ => []
theorem QgM : ∀ {l : List Kept} {g : List Bool}, g.length = l.length → ∀ (k : Kept), JZ (l ++ [k]) (g ++ [false]) = JZ l g ++ [k]
 | [], [], _, k => by simp [JZ]
 | a :: l, b :: g, h, k => by
  have := QgM (l := l) (g := g) (by simpa using h) k
  simp only [List.cons_append, JZ, this]
  split <;> rfl
 | [], _ :: _, h, _ => by simp at h
 | _ :: _, [], h, _ => by simp at h
theorem QgN : ∀ (l : List Kept), JZ l (List.replicate l.length false) = l
 | [] => rfl
 | k :: l => by simp [JZ, List.replicate_succ, QgN l]
theorem QgK (p : Kept → Bool) : ∀ {l : List Kept} {g g' : List Bool}, g.length = l.length → g'.length = l.length →
  (∀ j, j < l.length → g'.getD j false = (g.getD j false || p (l.getD j K0))) → JZ l g' = (JZ l g).filter (fun k => !p k)
 | [], [], [], _, _, _ => rfl
 | k :: l, b :: g, b' :: g', h1, h2, h => by
  have ih := QgK p (l := l) (g := g) (g' := g') (by simpa using h1) (by simpa using h2) (fun j hj => by
   have := h (j + 1) (by simp; omega)
   simpa using this)
  have h0 := h 0 (by simp)
  simp only [List.getD_cons_zero] at h0
  simp only [JZ, ih, h0]
  cases b <;> cases hp : p k <;> simp [hp]
 | [], [], _ :: _, _, h, _ => by simp at h
 | [], _ :: _, _, h, _, _ => by simp at h
 | _ :: _, [], _, h, _, _ => by simp at h
 | _ :: _, _ :: _, [], _, h, _ => by simp at h
theorem QjY : ∀ {l : List Kept} {g : List Bool} {i : Nat}, g.length = l.length → i < l.length → g.getD i false = false → (JZ l (g.set i true)).length + 1 = (JZ l g).length
 | k :: l, b :: g, 0, _, _, h => by
  simp only [List.getD_cons_zero] at h
  subst h; simp [JZ]
 | k :: l, b :: g, i + 1, h1, h2, h => by
  have := QjY (l := l) (g := g) (i := i) (by simpa using h1) (by simpa using h2) (by simpa using h)
  simp only [List.set_cons_succ, JZ]
  split
  ·exact this
  ·rw [List.length_cons, List.length_cons, this]
 | [], _, _, _, h, _ => by simp at h
 | _ :: _, [], _, h, _, _ => by simp at h
theorem QgL : ∀ {l : List Kept} {g : List Bool}, (JZ l g).length ≤ l.length
 | [], _ => by simp [JZ]
 | _ :: _, [] => by simp [JZ]
 | k :: l, b :: g => by
  have := QgL (l := l) (g := g)
  simp only [JZ]; split
  ·rw [List.length_cons]; omega
  ·rw [List.length_cons, List.length_cons]; omega
structure Inv (l : List Kept) (g : List Bool) (m : Mp) (c : Int) : Prop where
 len : g.length = l.length
 nod : (m.map Prod.fst).Nodup
 get : ∀ x i, mget KQ m x = some i ↔ ∃ j : Nat, i = (j : Int) ∧ j < l.length ∧ g.getD j false = false ∧ nm (l.getD j K0) = x
 cnt : c = ((JZ l g).length : Int)
 mlen : m.length ≤ l.length
theorem QpY {l : List Kept} (h : (l.map nm).Nodup) : Inv l (List.replicate l.length false) (plc l l.length) (l.length : Int) where
 len := by simp
 nod := (Qd6 l l.length (Nat.le_refl _)).1
 get := fun x i => by
  rw [Qm8 h l.length (Nat.le_refl _)]
  constructor
  ·rintro ⟨j, h1, h2, h3⟩
   exact ⟨j, h1, h2, by rw [getD_some (by simpa using h2)]; simp, h3⟩
  ·rintro ⟨j, h1, h2, _, h3⟩; exact ⟨j, h1, h2, h3⟩
 cnt := by rw [QgN]
 mlen := (Qd6 l l.length (Nat.le_refl _)).2.2.1
def QcU (s : List Bool × Mp × Int) (x : Nm) : List Bool × Mp × Int := match mget KQ s.2.1 x with
 | some i => (s.1.set i.toNat true, mdel KQ s.2.1 x, s.2.2 - 1)
 | none => s
theorem gset {g : List Bool} {i j : Nat} (hi : i < g.length) : (g.set i true).getD j false = (g.getD j false || decide (j = i)) := by
 by_cases h : j = i
 ·rw [h, QnG hi]; simp
 ·rw [QpZ (fun e => h e.symm)]; simp [h]
theorem QfG {l : List Kept} {g : List Bool} {m : Mp} {c : Int} (h : Inv l g m c) (x : Nm) : Inv l (QcU (g, m, c) x).1 (QcU (g, m, c) x).2.1 (QcU (g, m, c) x).2.2 ∧
  (∀ j, j < l.length → (QcU (g, m, c) x).1.getD j false = (g.getD j false || decide (nm (l.getD j K0) = x))) ∧ mget KQ (QcU (g, m, c) x).2.1 x = none := by
 unfold QcU
 cases hm : mget KQ m x with
 | none =>
  simp only [hm]
  refine ⟨h, fun j hj => ?_, trivial⟩
  by_cases hx : nm (l.getD j K0) = x
  ·cases hg : g.getD j false with
   | true => rfl
   | false =>
    have := (h.get x (j : Int)).2 ⟨j, rfl, hj, hg, hx⟩
    rw [hm] at this; cases this
  ·rw [decide_eq_false hx, Bool.or_false]
 | some i =>
  obtain ⟨j0, rfl, h1, h2, h3⟩ := (h.get x i).1 hm
  simp only [hm, Int.toNat_natCast]
  have hlt : j0 < g.length := by rw [h.len]; exact h1
  have huniq : ∀ j, j < l.length → g.getD j false = false → nm (l.getD j K0) = x → j = j0 := fun j a1 a2 a3 => by
   have := (h.get x (j : Int)).2 ⟨j, rfl, a1, a2, a3⟩
   rw [hm] at this
   have := Option.some.inj this
   omega
  refine ⟨⟨by rw [List.length_set, h.len], Ql4 h.nod x, fun y i => ?_, ?_, Nat.le_trans (QoL m x) h.mlen⟩, fun j hj => ?_, by rw [Qji h.nod, if_pos rfl]⟩
  ·rw [Qji h.nod]
   by_cases hy : y = x
   ·rw [if_pos hy]
    constructor
    ·intro e; cases e
    ·rintro ⟨j, rfl, a1, a2, a3⟩
     rw [gset hlt] at a2
     simp only [Bool.or_eq_false_iff, decide_eq_false_iff_not] at a2
     exact absurd (huniq j a1 a2.1 (a3.trans hy)) a2.2
   ·rw [if_neg hy, h.get]
    constructor
    ·rintro ⟨j, rfl, a1, a2, a3⟩
     refine ⟨j, rfl, a1, ?_, a3⟩
     rw [gset hlt, a2]
     have : ¬ j = j0 := fun e => hy (by rw [← a3, e, h3])
     simp [this]
    ·rintro ⟨j, rfl, a1, a2, a3⟩
     rw [gset hlt] at a2
     simp only [Bool.or_eq_false_iff] at a2
     exact ⟨j, rfl, a1, a2.1, a3⟩
  ·have := QjY h.len h1 h2
   rw [h.cnt]; omega
  ·rw [gset hlt]
   cases hg : g.getD j false with
   | true => rfl
   | false =>
    simp only [Bool.false_or, decide_eq_decide]
    exact ⟨fun e => by rw [e, h3], fun e => huniq j hj hg e⟩
theorem QhB {l : List Kept} {g : List Bool} {m : Mp} {c : Int} (h : Inv l g m c) (x : Nm) : JZ l (QcU (g, m, c) x).1 = (JZ l g).filter (fun k => !decide (nm k = x)) := by
 obtain ⟨h1, h2, _⟩ := QfG h x
 exact QgK (fun k => decide (nm k = x)) h.len h1.len h2
def Qae (p : Kept → Bool) (l : List Kept) (s : List Bool × Mp × Int) : Nat → List Bool × Mp × Int
 | 0 => s
 | i + 1 => if (Qae p l s i).1.getD i false = false ∧ p (l.getD i K0) = true then QcU (Qae p l s i) (nm (l.getD i K0)) else Qae p l s i
theorem QbS (p : Kept → Bool) {l : List Kept} {g : List Bool} {m : Mp} {c : Int} (h : Inv l g m c) : ∀ i, i ≤ l.length → Inv l (Qae p l (g, m, c) i).1 (Qae p l (g, m, c) i).2.1 (Qae p l (g, m, c) i).2.2 ∧
  ∀ j, j < l.length → (Qae p l (g, m, c) i).1.getD j false = (g.getD j false || (decide (j < i) && p (l.getD j K0)))
 | 0, _ => ⟨h, fun j _ => by simp [Qae]⟩
 | i + 1, hi => by
  obtain ⟨h1, h2⟩ := QbS p h i (by omega)
  rw [Qae]
  by_cases hc : (Qae p l (g, m, c) i).1.getD i false = false ∧ p (l.getD i K0) = true
  ·rw [if_pos hc]
   obtain ⟨h3, h4, _⟩ := QfG h1 (nm (l.getD i K0))
   refine ⟨h3, fun j hj => ?_⟩
   have := h4 j hj
   rw [show ((Qae p l (g, m, c) i).1, (Qae p l (g, m, c) i).2.1, (Qae p l (g, m, c) i).2.2) = Qae p l (g, m, c) i from rfl] at this
   rw [this, h2 j hj]
   have hq : (Qae p l (g, m, c) i).1.getD j false = true ∨ (decide (nm (l.getD j K0) = nm (l.getD i K0)) = decide (j = i)) := by
    cases hg : (Qae p l (g, m, c) i).1.getD j false with
    | true => exact .inl rfl
    | false =>
     refine .inr (decide_eq_decide.2 ⟨fun e => ?_, fun e => by rw [e]⟩)
     have a := (h1.get (nm (l.getD i K0)) (j : Int)).2 ⟨j, rfl, hj, hg, e⟩
     have b := (h1.get (nm (l.getD i K0)) (i : Int)).2 ⟨i, rfl, by omega, hc.1, rfl⟩
     rw [a] at b
     have := Option.some.inj b
     omega
   rcases hq with hq | hq
   ·rw [h2 j hj] at hq
    rw [hq, Bool.true_or]
    cases hg : g.getD j false with
    | true => rfl
    | false =>
     rw [hg, Bool.false_or, Bool.and_eq_true, decide_eq_true_eq] at hq
     rw [hq.2, decide_eq_true (show j < i + 1 by omega)]; rfl
   ·rw [hq]
    by_cases hji : j = i
    ·subst hji
     rw [hc.2, decide_eq_true (show j = j from rfl), decide_eq_true (show j < j + 1 by omega), Bool.or_true, Bool.and_true, Bool.or_true]
    ·have : decide (j < i + 1) = decide (j < i) := decide_eq_decide.2 (by omega)
     rw [this, decide_eq_false hji, Bool.or_false]
  ·rw [if_neg hc]
   refine ⟨h1, fun j hj => ?_⟩
   rw [h2 j hj]
   by_cases hji : j = i
   ·subst hji
    have e : decide (j < j) = false := by simp
    rw [e, Bool.false_and, Bool.or_false]
    cases hg : g.getD j false with
    | true => rfl
    | false =>
     cases hp : p (l.getD j K0) with
     | true => exact absurd ⟨by rw [h2 j hj, hg]; simp, hp⟩ hc
     | false => simp
   ·have : decide (j < i + 1) = decide (j < i) := decide_eq_decide.2 (by omega)
    rw [this]
theorem QfQ (p : Kept → Bool) {l : List Kept} {g : List Bool} {m : Mp} {c : Int} (h : Inv l g m c) : JZ l (Qae p l (g, m, c) l.length).1 = (JZ l g).filter (fun k => !p k) := by
 obtain ⟨h1, h2⟩ := QbS p h l.length (Nat.le_refl _)
 refine QgK p h.len h1.len fun j hj => ?_
 rw [h2 j hj, decide_eq_true hj, Bool.true_and]
theorem QpJ {l : List Kept} {g : List Bool} {m : Mp} {c : Int} (h : Inv l g m c) {k : Kept} (hx : mget KQ m (nm k) = none) : Inv (l ++ [k]) (g ++ [false]) (mset KQ m (nm k) (l.length : Int)) (c + 1) where
 len := by simp [h.len]
 nod := Qhm h.nod _ _
 get := fun x i => by
  rw [Qjh]
  have gl : ∀ j, j < l.length → (g ++ [false]).getD j false = g.getD j false ∧ (l ++ [k]).getD j K0 = l.getD j K0 := fun j hj => by
   rw [getD_some (show j < (g ++ [false]).length by simp [h.len]; omega), getD_some (show j < g.length by rw [h.len]; exact hj), getD_some (show j < (l ++ [k]).length by simp; omega), getD_some hj, List.getElem_append_left (show j < g.length by rw [h.len]; exact hj), List.getElem_append_left hj]
   exact ⟨rfl, rfl⟩
  have gk : (l ++ [k]).getD l.length K0 = k := by rw [getD_some (by simp)]; simp
  have gf : (g ++ [false]).getD l.length false = false := by rw [getD_some (by simp [h.len])]; simp [← h.len]
  by_cases he : x = nm k
  ·rw [if_pos he]
   constructor
   ·intro e; exact ⟨l.length, (Option.some.inj e).symm, by simp, gf, by rw [gk, he]⟩
   ·rintro ⟨j, rfl, a1, a2, a3⟩
    rw [List.length_append, List.length_singleton] at a1
    by_cases hj : j < l.length
    ·rw [(gl j hj).1] at a2
     rw [(gl j hj).2] at a3
     have := (h.get (nm k) (j : Int)).2 ⟨j, rfl, hj, a2, a3.trans he⟩
     rw [hx] at this; cases this
    ·have : j = l.length := by omega
     rw [this]
  ·rw [if_neg he, h.get]
   constructor
   ·rintro ⟨j, rfl, a1, a2, a3⟩
    exact ⟨j, rfl, by simp; omega, by rw [(gl j a1).1, a2], by rw [(gl j a1).2, a3]⟩
   ·rintro ⟨j, rfl, a1, a2, a3⟩
    rw [List.length_append, List.length_singleton] at a1
    by_cases hj : j < l.length
    ·rw [(gl j hj).1] at a2
     rw [(gl j hj).2] at a3
     exact ⟨j, rfl, hj, a2, a3⟩
    ·have : j = l.length := by omega
     rw [this, gk] at a3
     exact absurd a3.symm he
 cnt := by rw [QgM h.len, List.length_append, List.length_singleton, h.cnt]; rfl
 mlen := by rw [Qie, List.length_append, List.length_singleton]; have := h.mlen; split <;> omega
def Qfo (c : Chg) (k : Kept) : Bool := if c.1 = 1 then decide (nm k = (c.2.1, c.2.2.1.1)) else if c.1 = 2 then decide (nm k = (c.2.1, c.2.2.2.1)) else if c.1 = 3 then decide (k.1 = c.2.1) else if c.1 = 4 then dueB k.2 c.2.2.2.2.2.1 else false
def QaF (c : Chg) (l : List Kept) : List Kept := l.filter (fun k => !Qfo c k)
def oneS (v : Img) (c : Chg) : Int ⊕ Img :=
 if c.1 ≠ 4 ∧ c.1 ≠ 6 ∧ c.1 ≠ 7 ∧ (v.2.1.length : Int) ≤ c.2.1 then .inl 2
 else if c.1 = 1 then (if 256 < 8 + c.2.2.1.1.length + c.2.2.1.2.1.length then .inl 2
  else if dueB c.2.2.1 v.1 = true then .inr (v.1, v.2.1, QaF c v.2.2.1, v.2.2.2)
  else if (QaF c v.2.2.1).length = 1024 then .inl 9
  else .inr (v.1, v.2.1, QaF c v.2.2.1 ++ [(c.2.1, c.2.2.1)], v.2.2.2))
 else if c.1 = 4 then (if c.2.2.2.2.2.1 < v.1 then .inl 2 else .inr (c.2.2.2.2.2.1, v.2.1, QaF c v.2.2.1, v.2.2.2))
 else if c.1 = 5 then .inr (v.1, v.2.1.set c.2.1.toNat c.2.2.2.2.2.1, v.2.2)
 else if c.1 = 6 then (if c.2.2.2.2.2.1 < v.2.2.2.1 then .inl 2 else .inr (v.1, v.2.1, v.2.2.1, c.2.2.2.2.2.1, v.2.2.2.2.1, c.2.2.2.2.2.2))
 else if c.1 = 7 then .inr (v.1, v.2.1, v.2.2.1, v.2.2.2.1, c.2.2.2.2.2.1, v.2.2.2.2.2)
 else .inr (v.1, v.2.1, QaF c v.2.2.1, v.2.2.2)
abbrev Cor := Int × List Int × List Kept × Int × Int × Bool × List Bool × Mp × Int
def Qa7 (s : Cor) : Img := (s.1, s.2.1, JZ s.2.2.1 s.2.2.2.2.2.2.1, s.2.2.2.1, s.2.2.2.2.1, s.2.2.2.2.2.1)
def InvC (s : Cor) : Prop := Inv s.2.2.1 s.2.2.2.2.2.2.1 s.2.2.2.2.2.2.2.1 s.2.2.2.2.2.2.2.2
end Go.Proofs.YtpfjjbpoikgocaaGreat
namespace Go.Proofs.YtpfjjbpoikgocaaGreat
open Go.Abs
set_option maxRecDepth 100000
theorem QnD {l : List Kept} {g : List Bool} {m : Mp} {c : Int} (h : Inv l g m c) : 0 ≤ c ∧ c ≤ (l.length : Int) := by
 have := QgL (l := l) (g := g)
 rw [h.cnt]; omega
theorem Qit {l : List Kept} {g : List Bool} {m : Mp} {c : Int} (h : Inv l g m c) (hl : l.length ≤ 1000000) (x : Nm) {α : Type} (K : List Bool × Mp × Int → α) :
  (bif (mget KQ m x).isSome then (bif decide ((0 : Int) ≤ ((mget KQ m x).getD 0)) && decide (((mget KQ m x).getD 0) < (g.length : Int)) then
   (bif Nat.blt ((mget KQ m x).getD 0).toNat g.length then some (K (g.set ((mget KQ m x).getD 0).toNat true, mdel KQ m x, IntKind.i64.wrap (c - 1))) else none) else none) else some (K (g, m, c))) = some (K (QcU (g, m, c) x)) := by
 have hb := QnD h
 unfold QcU
 cases hm : mget KQ m x with
 | none => rfl
 | some i =>
  obtain ⟨j0, rfl, h1, h2, h3⟩ := (h.get x i).1 hm
  have hlt : j0 < g.length := by rw [h.len]; exact h1
  simp only [Option.isSome_some, cond_true, Option.getD_some, lez, ltd hlt, Bool.and_self, Int.toNat_natCast, Qas hlt]
  rw [w64 (by omega) (by omega)]
theorem QpA {l : List Kept} {g : List Bool} {m : Mp} {c : Int} (h : Inv l g m c) (hl : l.length ≤ 1000000) (i0 : Int) (t0 : Int) (q0 : List Int) (x0 : Int × Int × Bool × List Bool × Mp × Int) (t : Int) (q : List Int) (e n : Int) (b : Bool)
  (kd tn : Int) (k v : List Int) (f d cs : Int) (bb : List Int) (how nn : Int) (yes : Bool) :
  iter mx (Qa.e mx (i0, t0, q0, l, x0) (l.length : Int)) ((0 : Int), t, q, e, n, b, g, m, c, kd, tn, k, v, f, d, cs, bb, how, nn, yes) =
   some (t, q, l, e, n, b, Qae (fun k => dueB k.2 nn) l (g, m, c) l.length) := by
 refine QL (f := Qa.e mx (i0, t0, q0, l, x0) (l.length : Int)) (fun i => ((i : Int), t, q, e, n, b, (Qae (fun k => dueB k.2 nn) l (g, m, c) i).1, (Qae (fun k => dueB k.2 nn) l (g, m, c) i).2.1, (Qae (fun k => dueB k.2 nn) l (g, m, c) i).2.2, kd, tn, k, v, f, d, cs, bb, how, nn, yes)) l.length (Z7 (by omega)) (fun i hi => ?_)
  (by simp only [Qa.e, Qa.b, nltd, cond_false, Option.bind_some])
 obtain ⟨h1, h2⟩ := QbS (fun k => dueB k.2 nn) h i (by omega)
 rw [Qae]
 generalize Qae (fun k => dueB k.2 nn) l (g, m, c) i = s at h1 h2 ⊢
 obtain ⟨g', m', c'⟩ := s
 have hlg : i < g'.length := by rw [h1.len]; exact hi
 simp only [Qa.e, Qa.b, ltd hi, cond_true, Option.bind_some, lez, Bool.and_self, Int.toNat_natCast, Qas hi, Qa.c, ltd hlg, Qas hlg, J1, QnV]
 rw [Z8 (by omega)]
 cases hg : g'.getD i false with
 | true =>
  rw [if_neg (fun hh => by cases hh.1)]; rfl
 | false =>
  simp only [Bool.not_false, cond_true, Option.bind_some, true_and]
  cases hp : dueB (l.getD i K0).2 nn with
  | false => rw [if_neg (by decide)]; rfl
  | true =>
   rw [if_pos rfl]
   have := Qit h1 hl (nm (l.getD i K0)) (fun s : List Bool × Mp × Int => (t, q, e, n, b, s))
   have e30 : Qa.d mx ((i : Int), t, q, e, n, b, g', m', c', kd, tn, k, v, f, d, cs, bb, how, nn, yes) (l.getD i K0) = some (t, q, e, n, b, QcU (g', m', c') (nm (l.getD i K0))) := by
    simp only [Qa.d]; exact this
   simp only [cond_true]
   refine (congrArg (fun z => Option.bind z _) e30).trans ?_
   rfl
theorem Qpz {l : List Kept} {g : List Bool} {m : Mp} {c : Int} (h : Inv l g m c) (hl : l.length ≤ 1000000) (i0 : Int) (t0 : Int) (q0 : List Int) (x0 : Int × Int × Bool × List Bool × Mp × Int) (t : Int) (q : List Int) (e n : Int) (b : Bool)
  (kd tn : Int) (k v : List Int) (f d cs : Int) (bb : List Int) (how nn : Int) (yes : Bool) :
  iter mx (Qa.r mx (i0, t0, q0, l, x0) (l.length : Int)) ((0 : Int), t, q, e, n, b, g, m, c, kd, tn, k, v, f, d, cs, bb, how, nn, yes) =
   some (t, q, l, e, n, b, Qae (fun k => decide (k.1 = tn)) l (g, m, c) l.length) := by
 refine QL (f := Qa.r mx (i0, t0, q0, l, x0) (l.length : Int)) (fun i => ((i : Int), t, q, e, n, b, (Qae (fun k => decide (k.1 = tn)) l (g, m, c) i).1, (Qae (fun k => decide (k.1 = tn)) l (g, m, c) i).2.1, (Qae (fun k => decide (k.1 = tn)) l (g, m, c) i).2.2, kd, tn, k, v, f, d, cs, bb, how, nn, yes)) l.length (Z7 (by omega)) (fun i hi => ?_)
  (by simp only [Qa.r, Qa.o, nltd, cond_false, Option.bind_some])
 obtain ⟨h1, h2⟩ := QbS (fun k => decide (k.1 = tn)) h i (by omega)
 rw [Qae]
 generalize Qae (fun k => decide (k.1 = tn)) l (g, m, c) i = s at h1 h2 ⊢
 obtain ⟨g', m', c'⟩ := s
 have hlg : i < g'.length := by rw [h1.len]; exact hi
 simp only [Qa.r, Qa.o, ltd hi, cond_true, Option.bind_some, lez, Bool.and_self, Int.toNat_natCast, Qas hi, Qa.p, ltd hlg, Qas hlg, J0, ieq]
 rw [Z8 (by omega)]
 cases hg : g'.getD i false with
 | true =>
  rw [if_neg (fun hh => by cases hh.1)]; rfl
 | false =>
  simp only [Bool.not_false, cond_true, Option.bind_some, true_and]
  cases hp : decide ((l.getD i K0).1 = tn) with
  | false => rw [if_neg (by decide)]; rfl
  | true =>
   rw [if_pos rfl]
   have := Qit h1 hl (nm (l.getD i K0)) (fun s : List Bool × Mp × Int => (t, q, e, n, b, s))
   have e30 : Qa.q mx ((i : Int), t, q, e, n, b, g', m', c', kd, tn, k, v, f, d, cs, bb, how, nn, yes) (l.getD i K0) = some (t, q, e, n, b, QcU (g', m', c') (nm (l.getD i K0))) := by
    simp only [Qa.q]; exact this
   simp only [cond_true]
   refine (congrArg (fun z => Option.bind z _) e30).trans ?_
   rfl
def QqQ (s s' : Cor) (code : Int) : Int ⊕ Img → Prop
 | .inl e => code = e ∧ e ≠ 0
 | .inr w => code = 0 ∧ Qa7 s' = w ∧ InvC s' ∧ s.2.2.1.length ≤ s'.2.2.1.length ∧ s'.2.2.1.length ≤ s.2.2.1.length + 1
theorem Qqx {s : Cor} (h : InvC s) (hl : s.2.2.1.length ≤ 100000) {c : Chg} (hc : chOk c) (i : Int) :
  ∃ code s', Qa.s mx (i, s) c = some (code, s') ∧ QqQ s s' code (oneS (Qa7 s) c) := by
 obtain ⟨t, q, l, e, n, b, g, m, cn⟩ := s
 have h : Inv l g m cn := h
 dsimp only at hl
 have hbd := QnD h
 obtain ⟨kd, tn, ⟨k, v, f, d, cs⟩, bb, how, nn, yes⟩ := c
 obtain ⟨⟨t1, t2⟩, hc⟩ := hc
 dsimp only at t1 t2 hc
 rcases hc with h0 | h0 | h0 | h0 | h0 | h0 | h0
 ·obtain ⟨rfl, ⟨⟨h1, h2⟩, h3, h4, h5⟩, _⟩ := h0
  have e6 : Qa.g mx (i, t, q, l, e, n, b, g, m, cn) (1, tn, (k, v, f, d, cs), bb, how, nn, yes) = some (.inr ()) := rfl
  by_cases g1 : (q.length : Int) ≤ tn
  ·refine ⟨2, (t, q, l, e, n, b, g, m, cn), ?_, ?_⟩
   ·simp only [Qa.s, e6, Option.bind_some, Qa.h, decide_eq_true g1, cond_true]
   ·dsimp only [oneS, Qa7]; rw [if_pos ⟨by decide, by decide, by decide, g1⟩]; exact ⟨rfl, by decide⟩
  have es : oneS (Qa7 (t, q, l, e, n, b, g, m, cn)) (1, tn, (k, v, f, d, cs), bb, how, nn, yes) = (if 256 < 8 + k.length + v.length then .inl 2
    else if dueB (k, v, f, d, cs) t = true then .inr (t, q, QaF (1, tn, (k, v, f, d, cs), bb, how, nn, yes) (JZ l g), e, n, b)
    else if (QaF (1, tn, (k, v, f, d, cs), bb, how, nn, yes) (JZ l g)).length = 1024 then .inl 9
    else .inr (t, q, QaF (1, tn, (k, v, f, d, cs), bb, how, nn, yes) (JZ l g) ++ [(tn, (k, v, f, d, cs))], e, n, b)) := by
   dsimp only [oneS, Qa7]; rw [if_neg (fun hh => g1 hh.2.2.2), if_pos rfl]
  rw [es]
  have e1 : Qa.s mx (i, t, q, l, e, n, b, g, m, cn) (1, tn, (k, v, f, d, cs), bb, how, nn, yes) = Qa.m mx (i, t, q, l, e, n, b, g, m, cn) (1, tn, (k, v, f, d, cs), bb, how, nn, yes) := by
   simp only [Qa.s, e6, Option.bind_some, Qa.h, decide_eq_false g1, cond_false, beq_self_eq_true, cond_true]
   cases Qa.m mx (i, t, q, l, e, n, b, g, m, cn) (1, tn, (k, v, f, d, cs), bb, how, nn, yes) <;> rfl
  rw [e1]
  have hsz := QmM (k, v, f, d, cs) (show k.length ≤ 140737488351232 by omega) (show v.length ≤ 140737488351232 by omega)
  dsimp only at hsz
  have e31 : Qa.i mx (1, tn, (k, v, f, d, cs), bb, how, nn, yes) = some (bif decide (256 < 8 + k.length + v.length) then .inl 2 else .inr ()) := by
   simp only [Qa.i, hsz, Option.bind_some]
   by_cases g2 : 256 < 8 + k.length + v.length
   ·rw [decide_eq_true g2, decide_eq_true (show (256 : Int) < ((8 + k.length + v.length : Nat) : Int) by omega)]; rfl
   ·rw [decide_eq_false g2, decide_eq_false (show ¬ (256 : Int) < ((8 + k.length + v.length : Nat) : Int) by omega)]; rfl
  by_cases g2 : 256 < 8 + k.length + v.length
  ·refine ⟨2, (t, q, l, e, n, b, g, m, cn), ?_, ?_⟩
   ·simp only [Qa.m, e31, decide_eq_true g2, cond_true, Option.bind_some]
   ·rw [if_pos g2]; exact ⟨rfl, by decide⟩
  rw [if_neg g2]
  have hdrop := Qit h (show l.length ≤ 1000000 by omega) (tn, k) (fun s : List Bool × Mp × Int => (t, q, l, e, n, b, s))
  obtain ⟨d1, d2, d3⟩ := QfG h (tn, k)
  have da : JZ l (QcU (g, m, cn) (tn, k)).1 = QaF (1, tn, (k, v, f, d, cs), bb, how, nn, yes) (JZ l g) := QhB h (tn, k)
  rw [← da]
  generalize QcU (g, m, cn) (tn, k) = r at hdrop d1 d2 d3
  obtain ⟨g', m', c'⟩ := r
  dsimp only at d1 d2 d3 ⊢
  have hbd' := QnD d1
  have e32 : Qa.j mx (i, t, q, l, e, n, b, g, m, cn) (1, tn, (k, v, f, d, cs), bb, how, nn, yes) = some (t, q, l, e, n, b, g', m', c') := by
   simp only [Qa.j]; exact hdrop
  have hdue := QnV (k, v, f, d, cs) t
  dsimp only at hdue
  have e62 : Qa.k mx (1, tn, (k, v, f, d, cs), bb, how, nn, yes) (t, q, l, e, n, b, g', m', c') = some (bif dueB (k, v, f, d, cs) t then .inl 0 else .inr ()) := by
   simp only [Qa.k, hdue, Option.bind_some]
   cases dueB (k, v, f, d, cs) t <;> rfl
  cases g3 : dueB (k, v, f, d, cs) t with
  | true =>
   refine ⟨0, (t, q, l, e, n, b, g', m', c'), ?_, ?_⟩
   ·simp only [Qa.m, e31, decide_eq_false g2, cond_false, Option.bind_some, e32, e62, g3, cond_true]
   ·rw [if_pos rfl]; exact ⟨rfl, rfl, d1, Nat.le_refl _, by dsimp only; omega⟩
  | false =>
   rw [if_neg (by decide)]
   have hc' := d1.cnt
   by_cases g4 : (JZ l g').length = 1024
   ·refine ⟨9, (t, q, l, e, n, b, g', m', c'), ?_, ?_⟩
    ·simp only [Qa.m, e31, decide_eq_false g2, cond_false, Option.bind_some, e32, e62, g3, Qa.l, ieq, decide_eq_true (show c' = 1024 by omega), cond_true]
    ·rw [if_pos g4]; exact ⟨rfl, by decide⟩
   ·have hp := QpJ d1 (k := (tn, (k, v, f, d, cs))) d3
    have c1 : Nat.blt m'.length 4294967296 = true := Qas (by have := d1.mlen; omega)
    have c2 : Nat.ble (l.length + 1) 4294967296 = true := ZQ (by omega)
    have c3 : Nat.ble (g'.length + 1) 140737488351232 = true := ZQ (by rw [d1.len]; omega)
    have w1 : IntKind.i64.wrap (c' + 1) = c' + 1 := w64 (by omega) (by omega)
    refine ⟨0, (t, q, l ++ [(tn, (k, v, f, d, cs))], e, n, b, g' ++ [false], mset KQ m' (nm (tn, (k, v, f, d, cs))) (l.length : Int), c' + 1), ?_, ?_⟩
    ·simp only [Qa.m, e31, decide_eq_false g2, cond_false, Option.bind_some, e32, e62, g3, Qa.l, ieq, decide_eq_false (show ¬ c' = 1024 by omega), c1, cond_true, List.length_singleton, c2, c3, w1]
     rfl
    ·rw [if_neg g4]
     refine ⟨rfl, ?_, hp, ?_, ?_⟩
     ·simp only [Qa7, QgM d1.len]
     ·dsimp only; rw [List.length_append]; omega
     ·dsimp only; rw [List.length_append, List.length_singleton]; omega
 ·obtain ⟨rfl, _⟩ := h0
  have e6 : Qa.g mx (i, t, q, l, e, n, b, g, m, cn) (2, tn, (k, v, f, d, cs), bb, how, nn, yes) = some (.inr ()) := rfl
  by_cases g1 : (q.length : Int) ≤ tn
  ·refine ⟨2, (t, q, l, e, n, b, g, m, cn), ?_, ?_⟩
   ·simp only [Qa.s, e6, Option.bind_some, Qa.h, decide_eq_true g1, cond_true]
   ·dsimp only [oneS, Qa7]; rw [if_pos ⟨by decide, by decide, by decide, g1⟩]; exact ⟨rfl, by decide⟩
  have hdrop := Qit h (show l.length ≤ 1000000 by omega) (tn, bb) (fun s : List Bool × Mp × Int => (t, q, l, e, n, b, s))
  obtain ⟨d1, d2, d3⟩ := QfG h (tn, bb)
  have da : JZ l (QcU (g, m, cn) (tn, bb)).1 = QaF (2, tn, (k, v, f, d, cs), bb, how, nn, yes) (JZ l g) := QhB h (tn, bb)
  refine ⟨0, (t, q, l, e, n, b, QcU (g, m, cn) (tn, bb)), ?_, ?_⟩
  ·have e21 : ((2 : Int) == 1) = false := rfl
   have e33 : Qa.n mx (i, t, q, l, e, n, b, g, m, cn) (2, tn, (k, v, f, d, cs), bb, how, nn, yes) = some (t, q, l, e, n, b, QcU (g, m, cn) (tn, bb)) := by
    simp only [Qa.n]; exact hdrop
   simp only [Qa.s, e6, Option.bind_some, Qa.h, decide_eq_false g1, cond_false, e21, beq_self_eq_true, cond_true, e33]
  ·dsimp only [oneS, Qa7]; rw [if_neg (fun hh => g1 hh.2.2.2), if_neg (by decide), if_neg (by decide), if_neg (by decide), if_neg (by decide), if_neg (by decide)]
   exact ⟨rfl, by simp only [Qa7, da], d1, Nat.le_refl _, by dsimp only; omega⟩
 ·obtain ⟨rfl, _⟩ := h0
  have e6 : Qa.g mx (i, t, q, l, e, n, b, g, m, cn) (3, tn, (k, v, f, d, cs), bb, how, nn, yes) = some (.inr ()) := rfl
  by_cases g1 : (q.length : Int) ≤ tn
  ·refine ⟨2, (t, q, l, e, n, b, g, m, cn), ?_, ?_⟩
   ·simp only [Qa.s, e6, Option.bind_some, Qa.h, decide_eq_true g1, cond_true]
   ·dsimp only [oneS, Qa7]; rw [if_pos ⟨by decide, by decide, by decide, g1⟩]; exact ⟨rfl, by decide⟩
  have hsw := Qpz h (show l.length ≤ 1000000 by omega) i t q (e, n, b, g, m, cn) t q e n b 3 tn k v f d cs bb how nn yes
  obtain ⟨d1, d2⟩ := QbS (fun k => decide (k.1 = tn)) h l.length (Nat.le_refl _)
  have da : JZ l (Qae (fun k => decide (k.1 = tn)) l (g, m, cn) l.length).1 = QaF (3, tn, (k, v, f, d, cs), bb, how, nn, yes) (JZ l g) := QfQ _ h
  refine ⟨0, (t, q, l, e, n, b, Qae (fun k => decide (k.1 = tn)) l (g, m, cn) l.length), ?_, ?_⟩
  ·have e21 : ((3 : Int) == 1) = false := rfl
   have e22 : ((3 : Int) == 2) = false := rfl
   simp only [Qa.s, e6, Option.bind_some, Qa.h, decide_eq_false g1, cond_false, e21, e22, beq_self_eq_true, cond_true, hsw]
  ·dsimp only [oneS, Qa7]; rw [if_neg (fun hh => g1 hh.2.2.2), if_neg (by decide), if_neg (by decide), if_neg (by decide), if_neg (by decide), if_neg (by decide)]
   exact ⟨rfl, by simp only [Qa7, da], d1, Nat.le_refl _, by dsimp only; omega⟩
 ·obtain ⟨rfl, _⟩ := h0
  have hsw := QpA h (show l.length ≤ 1000000 by omega) i t q (e, n, b, g, m, cn) nn q e n b 4 tn k v f d cs bb how nn yes
  obtain ⟨d1, d2⟩ := QbS (fun k => dueB k.2 nn) h l.length (Nat.le_refl _)
  have da : JZ l (Qae (fun k => dueB k.2 nn) l (g, m, cn) l.length).1 = QaF (4, tn, (k, v, f, d, cs), bb, how, nn, yes) (JZ l g) := QfQ _ h
  have es : oneS (Qa7 (t, q, l, e, n, b, g, m, cn)) (4, tn, (k, v, f, d, cs), bb, how, nn, yes) = (if nn < t then .inl 2 else .inr (nn, q, QaF (4, tn, (k, v, f, d, cs), bb, how, nn, yes) (JZ l g), e, n, b)) := by
   dsimp only [oneS, Qa7]; rw [if_neg (fun hh => hh.1 rfl), if_neg (by decide), if_pos rfl]
  rw [es]
  by_cases g1 : nn < t
  ·refine ⟨2, (t, q, l, e, n, b, g, m, cn), ?_, ?_⟩
   ·simp only [Qa.s, Qa.g, beq_self_eq_true, cond_true, Qa.a, decide_eq_true g1, Option.bind_some]
   ·rw [if_pos g1]; exact ⟨rfl, by decide⟩
  ·refine ⟨0, (nn, q, l, e, n, b, Qae (fun k => dueB k.2 nn) l (g, m, cn) l.length), ?_, ?_⟩
   ·simp only [Qa.s, Qa.g, beq_self_eq_true, cond_true, Qa.a, decide_eq_false g1, cond_false, Option.bind_some, hsw]
   ·rw [if_neg g1]; exact ⟨rfl, by simp only [Qa7, da], d1, Nat.le_refl _, by dsimp only; omega⟩
 ·obtain ⟨rfl, _⟩ := h0
  have e6 : Qa.g mx (i, t, q, l, e, n, b, g, m, cn) (5, tn, (k, v, f, d, cs), bb, how, nn, yes) = some (.inr ()) := rfl
  by_cases g1 : (q.length : Int) ≤ tn
  ·refine ⟨2, (t, q, l, e, n, b, g, m, cn), ?_, ?_⟩
   ·simp only [Qa.s, e6, Option.bind_some, Qa.h, decide_eq_true g1, cond_true]
   ·dsimp only [oneS, Qa7]; rw [if_pos ⟨by decide, by decide, by decide, g1⟩]; exact ⟨rfl, by decide⟩
  refine ⟨0, (t, q.set tn.toNat nn, l, e, n, b, g, m, cn), ?_, ?_⟩
  ·have e21 : ((5 : Int) == 1) = false := rfl
   have e22 : ((5 : Int) == 2) = false := rfl
   have e23 : ((5 : Int) == 3) = false := rfl
   have c1 : Nat.blt tn.toNat q.length = true := Qas (by omega)
   simp only [Qa.s, e6, Option.bind_some, Qa.h, decide_eq_false g1, cond_false, e21, e22, e23, beq_self_eq_true, cond_true, decide_eq_true t1, decide_eq_true (show tn < (q.length : Int) by omega), Bool.and_self, c1]
  ·dsimp only [oneS, Qa7]; rw [if_neg (fun hh => g1 hh.2.2.2), if_neg (by decide), if_neg (by decide), if_pos rfl]
   exact ⟨rfl, rfl, h, Nat.le_refl _, by dsimp only; omega⟩
 ·obtain ⟨rfl, _⟩ := h0
  have es : oneS (Qa7 (t, q, l, e, n, b, g, m, cn)) (6, tn, (k, v, f, d, cs), bb, how, nn, yes) = (if nn < e then .inl 2 else .inr (t, q, JZ l g, nn, n, yes)) := by
   dsimp only [oneS, Qa7]; rw [if_neg (fun hh => hh.2.1 rfl), if_neg (by decide), if_neg (by decide), if_neg (by decide), if_pos rfl]
  rw [es]
  have e64 : ((6 : Int) == 4) = false := rfl
  by_cases g1 : nn < e
  ·refine ⟨2, (t, q, l, e, n, b, g, m, cn), ?_, ?_⟩
   ·simp only [Qa.s, Qa.g, e64, cond_false, beq_self_eq_true, cond_true, Qa.f, decide_eq_true g1, Option.bind_some]
   ·rw [if_pos g1]; exact ⟨rfl, by decide⟩
  ·refine ⟨0, (t, q, l, nn, n, yes, g, m, cn), ?_, ?_⟩
   ·simp only [Qa.s, Qa.g, e64, beq_self_eq_true, cond_true, Qa.f, decide_eq_false g1, cond_false, Option.bind_some]
   ·rw [if_neg g1]; exact ⟨rfl, rfl, h, Nat.le_refl _, by dsimp only; omega⟩
 ·obtain ⟨rfl, _⟩ := h0
  refine ⟨0, (t, q, l, e, nn, b, g, m, cn), ?_, ?_⟩
  ·have e64 : ((7 : Int) == 4) = false := rfl
   have e65 : ((7 : Int) == 6) = false := rfl
   simp only [Qa.s, Qa.g, e64, e65, beq_self_eq_true, cond_true, cond_false, Option.bind_some]
  ·dsimp only [oneS, Qa7]; rw [if_neg (fun hh => hh.2.2.1 rfl), if_neg (by decide), if_neg (by decide), if_neg (by decide), if_neg (by decide), if_pos rfl]
   exact ⟨rfl, rfl, h, Nat.le_refl _, by dsimp only; omega⟩
end Go.Proofs.YtpfjjbpoikgocaaGreat
namespace Go.Proofs.YtpfjjbpoikgocaaGreat
open Go.Abs
set_option maxRecDepth 100000
def VU : Img → List Chg → Int ⊕ Img
 | v, [] => .inr v
 | v, c :: cs => match oneS v c with
  | .inl e => .inl e
  | .inr w => VU w cs
def QfI (e : Int) : Int × List Int × List Kept × Int × Int × Bool × Int := (0, [], [], 0, 0, false, e)
def QdU (w : Img) : Int × List Int × List Kept × Int × Int × Bool × Int := (w.1, w.2.1, w.2.2.1, w.2.2.2.1, w.2.2.2.2.1, w.2.2.2.2.2, 0)
def resI : Int ⊕ Img → Int × List Int × List Kept × Int × Int × Bool × Int
 | .inl e => QfI e
 | .inr w => QdU w
def Qac (v : Img) (cs : List Chg) : Int × List Int × List Kept × Int × Int × Bool × Int :=
 if okI v then (if VX cs = 0 then resI (VU v cs) else QfI (VX cs)) else QfI 8
theorem QpM {v : Img} {c : Chg} {e : Int} (h : oneS v c = .inl e) : e = 2 ∨ e = 9 := by
 unfold oneS at h
 repeat' split at h
 all_goals (cases h <;> simp)
theorem QjW : ∀ {cs : List Chg} {v : Img} {e : Int}, VU v cs = .inl e → e = 2 ∨ e = 9
 | [], _, _, h => by cases h
 | c :: cs, v, e, h => by
  rw [VU] at h
  cases ho : oneS v c with
  | inl e2 => rw [ho] at h; cases h; exact QpM ho
  | inr w => rw [ho] at h; exact QjW h
theorem QcL {c : Chg} {l : List Kept} {k : Kept} : k ∈ QaF c l ↔ k ∈ l ∧ Qfo c k = false := by
 unfold QaF; rw [List.mem_filter]; simp
theorem Qgd (c : Chg) (l : List Kept) : (QaF c l).Sublist l := List.filter_sublist
theorem QoI {v : Img} (h : okI v) (c : Chg) : okI (v.1, v.2.1, QaF c v.2.2.1, v.2.2.2) := by
 obtain ⟨h1, h2, h3, h4, h5, h6, h7⟩ := h
 exact ⟨h1, h2, Nat.le_trans (Qgd c _).length_le h3, h4, h5, fun k hk => h6 k (QcL.1 hk).1, ((Qgd c _).map nm).nodup h7⟩
theorem Qnh {v : Img} (h : okI v) {c : Chg} (hc : chOk c) {w : Img} (ho : oneS v c = .inr w) : okI w := by
 have hl := QoI h c
 obtain ⟨h1, h2, h3, h4, h5, h6, h7⟩ := h
 obtain ⟨l1, l2, l3, l4, l5, l6, l7⟩ := id hl
 obtain ⟨⟨t1, t2⟩, hc⟩ := hc
 unfold oneS at ho
 by_cases g0 : c.1 ≠ 4 ∧ c.1 ≠ 6 ∧ c.1 ≠ 7 ∧ (v.2.1.length : Int) ≤ c.2.1
 ·rw [if_pos g0] at ho; cases ho
 rw [if_neg g0] at ho
 by_cases k1 : c.1 = 1
 ·rw [if_pos k1] at ho
  have hc : ((1 ≤ c.2.2.1.1.length ∧ c.2.2.1.1.length ≤ 32) ∧ c.2.2.1.2.1.length ≤ 512 ∧ (0 ≤ c.2.2.1.2.2.2.1 ∧ c.2.2.1.2.2.2.1 ≤ 1099511627776)) := by
   rcases hc with h | h | h | h | h | h | h
   ·exact h.2.1
   all_goals (exfalso; have := h.1; omega)
  by_cases g1 : 256 < 8 + c.2.2.1.1.length + c.2.2.1.2.1.length
  ·rw [if_pos g1] at ho; cases ho
  rw [if_neg g1] at ho
  by_cases g2 : dueB c.2.2.1 v.1 = true
  ·rw [if_pos g2] at ho; cases ho; exact hl
  rw [if_neg g2] at ho
  by_cases g3 : (QaF c v.2.2.1).length = 1024
  ·rw [if_pos g3] at ho; cases ho
  rw [if_neg g3] at ho
  cases ho
  refine ⟨l1, l2, ?_, l4, l5, ?_, ?_⟩
  ·dsimp only at l3 ⊢; rw [List.length_append, List.length_singleton]; omega
  ·intro k hk
   rcases List.mem_append.1 hk with hk | hk
   ·exact l6 k hk
   ·rw [List.mem_singleton] at hk
    subst hk
    refine ⟨t1, ?_, ⟨hc.1.1, hc.1.2, by dsimp only; omega, hc.2.2.1, hc.2.2.2⟩, Bool.eq_false_iff.2 g2⟩
    have : ¬ (v.2.1.length : Int) ≤ c.2.1 := fun hh => g0 ⟨by omega, by omega, by omega, hh⟩
    dsimp only; omega
  ·dsimp only at l7 ⊢
   rw [List.map_append, List.map_singleton]
   refine List.nodup_append.2 ⟨l7, by simp, fun a ha b hb => ?_⟩
   rw [List.mem_singleton] at hb
   subst hb
   obtain ⟨k, hk, rfl⟩ := List.mem_map.1 ha
   have ht := (QcL.1 hk).2
   unfold Qfo at ht
   rw [if_pos k1] at ht
   exact of_decide_eq_false ht
 rw [if_neg k1] at ho
 by_cases k4 : c.1 = 4
 ·rw [if_pos k4] at ho
  have hc : 0 ≤ c.2.2.2.2.2.1 ∧ c.2.2.2.2.2.1 ≤ 1099511627776 := by
   rcases hc with h | h | h | h | h | h | h
   ·exfalso; have := h.1; omega
   ·exfalso; have := h.1; omega
   ·exfalso; have := h.1; omega
   ·exact h.2.1
   all_goals (exfalso; have := h.1; omega)
  by_cases g1 : c.2.2.2.2.2.1 < v.1
  ·rw [if_pos g1] at ho; cases ho
  rw [if_neg g1] at ho
  cases ho
  refine ⟨hc, l2, l3, l4, l5, fun k hk => ?_, l7⟩
  obtain ⟨a1, a2, a3, a4⟩ := l6 k hk
  refine ⟨a1, a2, a3, ?_⟩
  have ht := (QcL.1 hk).2
  unfold Qfo at ht
  rw [if_neg k1, if_neg (by omega), if_neg (by omega), if_pos k4] at ht
  exact ht
 rw [if_neg k4] at ho
 by_cases k5 : c.1 = 5
 ·rw [if_pos k5] at ho
  have hc : 0 ≤ c.2.2.2.2.2.1 ∧ c.2.2.2.2.2.1 ≤ 16 := by
   rcases hc with h | h | h | h | h | h | h
   ·exfalso; have := h.1; omega
   ·exfalso; have := h.1; omega
   ·exfalso; have := h.1; omega
   ·exfalso; have := h.1; omega
   ·exact h.2.1
   all_goals (exfalso; have := h.1; omega)
  cases ho
  refine ⟨h1, ⟨by dsimp only; rw [List.length_set]; exact h2.1, by dsimp only; rw [List.length_set]; exact h2.2.1, fun x hx => ?_⟩, h3, h4, h5, fun k hk => ?_, h7⟩
  ·rcases List.mem_or_eq_of_mem_set hx with hx | hx
   ·exact h2.2.2 x hx
   ·rw [hx]; exact hc
  ·obtain ⟨a1, a2, a3, a4⟩ := h6 k hk
   exact ⟨a1, by dsimp only; rw [List.length_set]; exact a2, a3, a4⟩
 rw [if_neg k5] at ho
 by_cases k6 : c.1 = 6
 ·rw [if_pos k6] at ho
  have hc : 0 ≤ c.2.2.2.2.2.1 ∧ c.2.2.2.2.2.1 ≤ 2147483647 := by
   rcases hc with h | h | h | h | h | h | h
   ·exfalso; have := h.1; omega
   ·exfalso; have := h.1; omega
   ·exfalso; have := h.1; omega
   ·exfalso; have := h.1; omega
   ·exfalso; have := h.1; omega
   ·exact h.2.1
   ·exfalso; have := h.1; omega
  by_cases g1 : c.2.2.2.2.2.1 < v.2.2.2.1
  ·rw [if_pos g1] at ho; cases ho
  rw [if_neg g1] at ho
  cases ho
  exact ⟨h1, h2, h3, hc, h5, h6, h7⟩
 rw [if_neg k6] at ho
 by_cases k7 : c.1 = 7
 ·rw [if_pos k7] at ho
  have hc : 0 ≤ c.2.2.2.2.2.1 ∧ c.2.2.2.2.2.1 ≤ 2147483647 := by
   rcases hc with h | h | h | h | h | h | h
   ·exfalso; have := h.1; omega
   ·exfalso; have := h.1; omega
   ·exfalso; have := h.1; omega
   ·exfalso; have := h.1; omega
   ·exfalso; have := h.1; omega
   ·exfalso; have := h.1; omega
   ·exact h.2.1
  cases ho
  exact ⟨h1, h2, h3, h4, hc, h6, h7⟩
 rw [if_neg k7] at ho
 cases ho
 exact hl
theorem Qes : ∀ {cs : List Chg} {v w : Img}, okI v → (∀ c ∈ cs, chOk c) → VU v cs = .inr w → okI w
 | [], _, _, h, _, e => by cases e; exact h
 | c :: cs, v, w, h, hc, e => by
  rw [VU] at e
  cases ho : oneS v c with
  | inl e2 => rw [ho] at e; cases e
  | inr u => rw [ho] at e; exact Qes (Qnh h (hc c (by simp)) ho) (fun x hx => hc x (by simp [hx])) e
theorem Qnu (cs : List Chg) (hlen : cs.length ≤ 4096) : ∀ (rest : List Chg) (i : Nat) (s : Cor) (fuel : Nat), cs.drop i = rest → i ≤ cs.length → (∀ c ∈ rest, chOk c) → InvC s → s.2.2.1.length ≤ 1024 + i → rest.length < fuel →
  match VU (Qa7 s) rest with
  | .inl e => QaG (Qa.t mx cs (cs.length : Int)) fuel ((i : Int), s) = some (.inl (e, 0, 0, 0, false))
  | .inr w => ∃ s', QaG (Qa.t mx cs (cs.length : Int)) fuel ((i : Int), s) = some (.inr s') ∧ Qa7 s' = w ∧ InvC s' ∧ s'.2.2.1.length ≤ 100000
 | [], i, s, fuel, hd, hi, _, hs, hl, hf => by
  obtain ⟨f, rfl⟩ : ∃ f, fuel = f + 1 := ⟨fuel - 1, by omega⟩
  have : i = cs.length := by have := congrArg List.length hd; rw [List.length_drop, List.length_nil] at this; omega
  subst this
  refine ⟨s, Jr ?_, rfl, hs, by omega⟩
  simp only [Qa.t, nltd, cond_false]
 | c :: rest, i, s, fuel, hd, hi, hc, hs, hl, hf => by
  obtain ⟨f, rfl⟩ : ∃ f, fuel = f + 1 := ⟨fuel - 1, by omega⟩
  have hil : i < cs.length := by
   have := congrArg List.length hd
   rw [List.length_drop, List.length_cons] at this; omega
  have hci : cs.getD i C0 = c := by
   rw [getD_some hil]
   have := List.drop_eq_getElem_cons hil
   rw [hd] at this
   exact (List.cons.inj this).1.symm
  have hd' : cs.drop (i + 1) = rest := by
   have := List.drop_eq_getElem_cons hil
   rw [hd] at this
   exact (List.cons.inj this).2.symm
  obtain ⟨code, s', e1, e2⟩ := Qqx hs (by omega) (hc c (by simp)) (i : Int)
  rw [VU]
  cases ho : oneS (Qa7 s) c with
  | inl e =>
   rw [ho] at e2
   obtain ⟨rfl, hne⟩ := e2
   refine Jr ?_
   simp only [Qa.t, ltd hil, lez, Bool.and_self, cond_true, Int.toNat_natCast]
   rw [show cs.getD i (0, 0, ([], [], 0, 0, 0), [], 0, 0, false) = c from hci, e1]
   simp only [Option.bind_some, Vf, decide_eq_false hne, Bool.not_false, cond_true]
  | inr w =>
   rw [ho] at e2
   obtain ⟨rfl, h1, h2, h3, h4⟩ := e2
   have hst : Qa.t mx cs (cs.length : Int) ((i : Int), s) = some (.next (((i + 1 : Nat) : Int), s')) := by
    simp only [Qa.t, ltd hil, lez, Bool.and_self, cond_true, Int.toNat_natCast]
    rw [show cs.getD i (0, 0, ([], [], 0, 0, 0), [], 0, 0, false) = c from hci, e1]
    simp only [Option.bind_some, bne_self_eq_false, cond_false]
    rw [Z8 (by omega)]
   rw [Jl hst]
   have ih := Qnu cs hlen rest (i + 1) s' f hd' (by omega) (fun x hx => hc x (by simp [hx])) h2 (by omega) (by rw [List.length_cons] at hf; omega)
   rw [h1] at ih
   exact ih
theorem QhM : ∀ {l : List Kept} {g : List Bool}, g.length = l.length → ∀ (k : Kept) (b : Bool), JZ (l ++ [k]) (g ++ [b]) = JZ l g ++ (if b = true then [] else [k])
 | [], [], _, k, b => by cases b <;> simp [JZ]
 | a :: l, c :: g, h, k, b => by
  have := QhM (l := l) (g := g) (by simpa using h) k b
  simp only [List.cons_append, JZ, this]
  split <;> rfl
 | [], _ :: _, h, _, _ => by simp at h
 | _ :: _, [], h, _, _ => by simp at h
theorem QoY {s : Cor} (h : InvC s) (hl : s.2.2.1.length ≤ 100000) : iter mx (Qa.v mx s (s.2.2.1.length : Int)) (([] : List Kept), (0 : Int)) = some (JZ s.2.2.1 s.2.2.2.2.2.2.1) := by
 obtain ⟨t, q, l, e, n, b, g, m, cn⟩ := s
 have hlen : g.length = l.length := h.len
 dsimp only at hl ⊢
 have := QL (f := Qa.v mx (t, q, l, e, n, b, g, m, cn) (l.length : Int)) (fun i => (JZ (l.take i) (g.take i), (i : Int))) l.length (r := JZ l g) (Z7 (by omega)) (fun i hi => by
  have hig : i < g.length := by omega
  have ha := QhM (l := l.take i) (g := g.take i) (by rw [List.length_take, List.length_take, hlen]) (l.getD i K0) (g.getD i false)
  rw [← QH hi K0, ← QH hig false] at ha
  have hal := QgL (l := l.take i) (g := g.take i)
  rw [List.length_take] at hal
  have c1 : Nat.ble ((JZ (l.take i) (g.take i)).length + 1) 4294967296 = true := ZQ (by omega)
  simp only [Qa.v, Qa.u, ltd hi, cond_true, Option.bind_some, lez, Bool.and_self, Int.toNat_natCast, Qas hi, ltd hig, Qas hig, List.length_singleton, c1, ha]
  rw [Z8 (by omega)]
  cases g.getD i false with
  | true => simp
  | false => rfl) (by simp only [Qa.v, Qa.u, nltd, cond_false, Option.bind_some, List.take_length]; rw [← hlen, List.take_length])
 exact this
theorem QlJ {v : Img} (hb : ∀ k ∈ v.2.2.1, k.2.1.length ≤ 140737488351232 ∧ k.2.2.1.length ≤ 140737488351232) {cs : List Chg} (hw : ∀ c ∈ cs, wfC c) :
  Qa mx (v.1, v.2.1, v.2.2.1, v.2.2.2.1, v.2.2.2.2.1, v.2.2.2.2.2, cs) = some (Qac v cs) := by
 have hck := Qly (v := v) hb
 obtain ⟨t, q, l, e, n, b⟩ := v
 dsimp only at hck ⊢
 simp only [Qa, hck, Option.bind_some]
 unfold Qac
 by_cases h1 : okI (t, q, l, e, n, b)
 case neg => rw [if_neg h1, if_neg h1]; rfl
 rw [if_pos h1, if_pos h1]
 simp only [bne_self_eq_false, cond_false, Qdl hw, Option.bind_some, Vf]
 by_cases h2 : VX cs = 0
 case neg => simp only [if_neg h2, decide_eq_false h2]; rfl
 simp only [if_pos h2]
 rw [h2]
 simp only [decide_true, Bool.not_true, cond_false]
 obtain ⟨h3, h4, h5⟩ := VJ.1 h2
 have hq : q.length ≤ 4 := h1.2.1.2.1
 have hl : l.length ≤ 1024 := h1.2.2.1
 have c1 : Nat.ble q.length 4294967296 = true := ZQ (by omega)
 have c2 : Nat.ble l.length 4294967296 = true := ZQ (by omega)
 simp only [QY, c1, QQ, c2, cond_true, Option.bind_some, lez, Int.le_refl, decide_true, Bool.and_self, decide_eq_true (show (l.length : Int) ≤ 4294967296 by omega), Qjf (l := l) (by omega), Int.toNat_natCast]
 have hinv : InvC (t, q, l, e, n, b, List.replicate l.length false, plc l l.length, (l.length : Int)) := QpY h1.2.2.2.2.2.2
 have hloop := Qnu cs h3 cs 0 (t, q, l, e, n, b, List.replicate l.length false, plc l l.length, (l.length : Int)) N0 (by simp) (by omega) h4 hinv (by dsimp only; omega) (by unfold N0; omega)
 have himg : Qa7 (t, q, l, e, n, b, List.replicate l.length false, plc l l.length, (l.length : Int)) = (t, q, l, e, n, b) := by simp only [Qa7, QgN]
 rw [himg] at hloop
 cases ha : VU (t, q, l, e, n, b) cs with
 | inl err =>
  rw [ha] at hloop
  dsimp only at hloop
  have hloop : iter mx (Qa.t mx cs (cs.length : Int)) ((0 : Int), t, q, l, e, n, b, List.replicate l.length false, plc l l.length, (l.length : Int)) = _ := hloop
  rw [hloop]; rfl
 | inr w =>
  rw [ha] at hloop
  obtain ⟨s', h6, h7, h8, h9⟩ := hloop
  have h6 : iter mx (Qa.t mx cs (cs.length : Int)) ((0 : Int), t, q, l, e, n, b, List.replicate l.length false, plc l l.length, (l.length : Int)) = _ := h6
  rw [h6]
  simp only [Option.bind_some, QoY h8 h9]
  rw [← h7]
  rfl
end Go.Proofs.YtpfjjbpoikgocaaGreat
namespace Go.Proofs.YtpfjjbpoikgocaaGreat
open Go.Abs
set_option maxRecDepth 100000
theorem Qme (v : Img) (hl : v.2.2.1.length ≤ 1000000000000000000) : ∃ b, Zh mx v = some b ∧ (b = false → v.2.1.length ≤ 40 ∧ v.2.2.1.length ≤ 1100) := by
 obtain ⟨t, q, l, e, n, b⟩ := v
 dsimp only at hl ⊢
 obtain ⟨r, hr, _⟩ := V9 (f := Zh.b mx l) (fun s => ∃ k : Nat, s.2 = (k : Int) ∧ k ≤ l.length) (fun s => l.length - s.2.toNat) (fun _ => True) ((0 : Int), (0 : Int)) ⟨0, rfl, Nat.zero_le _⟩ (by
  simp only [Int.toNat_zero, Nat.sub_zero]; exact Z7 hl) (fun s ⟨k, e, hk⟩ => by
  obtain ⟨s, i⟩ := s
  dsimp only at e
  subst e
  by_cases h1 : k < l.length
  ·by_cases h2 : (k : Int) < 3000
   ·left
    have h2' : decide ((k : Int) < 3000) = true := by simpa using h2
    refine ⟨_, by simp only [Zh.b, Zh.a, ltd h1, h2', lez, Bool.and_self, cond_true, Option.bind_some]; rfl, ⟨k + 1, by dsimp only; rw [Z8 (by omega)], by omega⟩, by dsimp only; rw [Z8 (by omega)]; omega⟩
   ·right
    have h2' : decide ((k : Int) < 3000) = false := by simpa using h2
    exact ⟨s, by simp only [Zh.b, Zh.a, ltd h1, h2', cond_true, cond_false, Option.bind_some], trivial⟩
  ·right
   have h1' : decide ((k : Int) < (l.length : Int)) = false := by simp; omega
   exact ⟨s, by simp only [Zh.b, Zh.a, h1', cond_false, Option.bind_some], trivial⟩)
 have hr : iter mx (Zh.b mx l) ((0 : Int), (0 : Int)) = some r := hr
 simp only [Zh, hr, Option.bind_some]
 by_cases h1 : 40 < q.length
 ·exact ⟨true, by rw [decide_eq_true (show (40 : Int) < (q.length : Int) by omega)]; rfl, fun h => by cases h⟩
 rw [decide_eq_false (show ¬ (40 : Int) < (q.length : Int) by omega)]
 by_cases h : 1100 < l.length
 ·exact ⟨true, by rw [decide_eq_true (show (1100 : Int) < (l.length : Int) by omega)]; rfl, fun h => by cases h⟩
 ·exact ⟨_, by rw [decide_eq_false (show ¬ (1100 : Int) < (l.length : Int) by omega)]; rfl, fun _ => ⟨by omega, by omega⟩⟩
theorem Qmc (l : List Chg) (hl : l.length ≤ 1000000000000000000) : ∃ b, Zs mx l = some b ∧ (b = false → l.length ≤ 5000) := by
 obtain ⟨r, hr, _⟩ := V9 (f := Zs.b mx l) (fun s => ∃ k : Nat, s.2 = (k : Int) ∧ k ≤ l.length) (fun s => l.length - s.2.toNat) (fun _ => True) ((0 : Int), (0 : Int)) ⟨0, rfl, Nat.zero_le _⟩ (by
  simp only [Int.toNat_zero, Nat.sub_zero]; exact Z7 hl) (fun s ⟨k, e, hk⟩ => by
  obtain ⟨s, i⟩ := s
  dsimp only at e
  subst e
  by_cases h1 : k < l.length
  ·by_cases h2 : (k : Int) < 10000
   ·left
    have h2' : decide ((k : Int) < 10000) = true := by simpa using h2
    refine ⟨_, by simp only [Zs.b, Zs.a, ltd h1, h2', lez, Bool.and_self, cond_true, Option.bind_some]; rfl, ⟨k + 1, by dsimp only; rw [Z8 (by omega)], by omega⟩, by dsimp only; rw [Z8 (by omega)]; omega⟩
   ·right
    have h2' : decide ((k : Int) < 10000) = false := by simpa using h2
    exact ⟨s, by simp only [Zs.b, Zs.a, ltd h1, h2', cond_true, cond_false, Option.bind_some], trivial⟩
  ·right
   have h1' : decide ((k : Int) < (l.length : Int)) = false := by simp; omega
   exact ⟨s, by simp only [Zs.b, Zs.a, h1', cond_false, Option.bind_some], trivial⟩)
 have hr : iter mx (Zs.b mx l) ((0 : Int), (0 : Int)) = some r := hr
 simp only [Zs, hr, Option.bind_some]
 by_cases h : 5000 < l.length
 ·have : decide ((5000 : Int) < (l.length : Int)) = true := by simp; omega
  exact ⟨true, by rw [this]; rfl, fun h => by cases h⟩
 ·have : decide ((5000 : Int) < (l.length : Int)) = false := by simp; omega
  exact ⟨_, by rw [this]; rfl, fun _ => by omega⟩
theorem Qlp (x y : Kept) : ((x.1 == y.1) && (((x.2.1 == y.2.1) && ((x.2.2.1 == y.2.2.1) && ((x.2.2.2.1 == y.2.2.2.1) && ((x.2.2.2.2.1 == y.2.2.2.2.1) && ((x.2.2.2.2.2 == y.2.2.2.2.2) && true))))) && true)) = decide (x = y) := by
 obtain ⟨a, b, c, d, e, f⟩ := x
 obtain ⟨a', b', c', d', e', f'⟩ := y
 rw [Bool.eq_iff_iff]
 simp only [Bool.and_eq_true, beq_iff_eq, decide_eq_true_eq, Prod.mk.injEq, and_true]
instance Qrd : DecidableEq Kept := fun x y => inferInstanceAs (Decidable (x = y))
instance Qrh : DecidableEq Img := @instDecidableEqProd Int _ _ (@instDecidableEqProd (List Int) _ _ (@instDecidableEqProd (List Kept) _ _ (@instDecidableEqProd Int _ _ (@instDecidableEqProd Int Bool _ _))))
theorem QbE {v : Img} {cs : List Chg} : (Qac v cs).2.2.2.2.2.2 = 0 ↔ okI v ∧ VX cs = 0 ∧ ∃ w, VU v cs = .inr w := by
 unfold Qac
 by_cases h1 : okI v
 ·rw [if_pos h1]
  by_cases h2 : VX cs = 0
  ·rw [if_pos h2]
   cases h3 : VU v cs with
   | inl e => exact ⟨fun h => (by rcases QjW h3 with rfl | rfl <;> cases h), fun ⟨_, _, w, hw⟩ => (by cases hw)⟩
   | inr w => exact ⟨fun _ => ⟨h1, h2, w, rfl⟩, fun _ => rfl⟩
  ·rw [if_neg h2]; exact ⟨fun h => absurd h h2, fun h => absurd h.2.1 h2⟩
 ·rw [if_neg h1]; exact ⟨fun h => (by cases h), fun h => absurd h.1 h1⟩
theorem QhJ {v w : Img} {cs : List Chg} (h1 : okI v) (h2 : VX cs = 0) (h3 : VU v cs = .inr w) : Qac v cs = QdU w := by
 unfold Qac; rw [if_pos h1, if_pos h2, h3]; rfl
end Go.Proofs.YtpfjjbpoikgocaaGreat
namespace Go.Proofs.YtpfjjbpoikgocaaGreat
open Go.Abs
set_option maxRecDepth 100000
theorem Qik {a l : List Int} (ha : a.length ≤ 1000000000) (hl : Qli l) : ZA mx (a, l) = some (a ++ ZY l) := by
 obtain ⟨h1, h2⟩ := hl
 have := QL (f := ZA.a mx l (l.length : Int)) (fun i => (a ++ ZY (l.take i), (i : Int))) l.length (r := a ++ ZY l) (Z7 (by omega)) (fun i hi => by
  obtain ⟨b1, b2⟩ := h2 _ (Zt (d := 0) hi)
  have hn := Qa2 (l.take i)
  rw [List.length_take] at hn
  have hs := ZD (l.getD i 0).toNat
  have c1 : Nat.ble ((a ++ ZY (l.take i)).length + (sm (l.getD i 0).toNat).length) 140737488351232 = true := ZQ (by rw [List.length_append]; omega)
  simp only [ZA.a, ltd hi, lez, Bool.and_self, cond_true, Int.toNat_natCast, QeA b1 (show l.getD i 0 ≤ 18446744073709551615 by omega), Option.bind_some, c1]
  rw [Z8 (by omega), QH hi 0, ZY, ZY, List.map_append, List.flatten_append, List.append_assoc]
  simp) (by simp only [ZA.a, nltd, cond_false, List.take_length])
 have this : iter mx (ZA.a mx l (l.length : Int)) (a ++ ZY (l.take 0), (0 : Int)) = _ := this
 rw [show a ++ ZY (l.take 0) = a by simp [ZY]] at this
 simp only [ZA, this, Option.bind_some]
theorem Qpn {a : List Int} {x : Int} (ha : a.length ≤ 1000000000) (h1 : 0 ≤ x) (h2 : x ≤ 9223372036854775807) : ZA mx (a, [x]) = some (a ++ sm x.toNat) := by
 have := Qik ha (l := [x]) ⟨by simp, fun y hy => by rw [List.mem_singleton] at hy; subst hy; exact ⟨h1, h2⟩⟩
 simpa [ZY] using this
theorem QnE {a : List Int} {x y : Int} (ha : a.length ≤ 1000000000) (h1 : 0 ≤ x) (h2 : x ≤ 9223372036854775807) (h3 : 0 ≤ y) (h4 : y ≤ 9223372036854775807) : ZA mx (a, [x, y]) = some (a ++ (sm x.toNat ++ sm y.toNat)) := by
 have := Qik ha (l := [x, y]) ⟨by simp, fun z hz => by
  rcases List.mem_cons.1 hz with rfl | hz
  ·exact ⟨h1, h2⟩
  ·rw [List.mem_singleton] at hz; subst hz; exact ⟨h3, h4⟩⟩
 simpa [ZY] using this
def QeQ (k : Kept) : List Int := sm k.1.toNat ++ txt k.2.1 ++ txt k.2.2.1 ++ (sm k.2.2.2.1.toNat ++ sm k.2.2.2.2.1.toNat) ++ sm k.2.2.2.2.2.toNat
def Zo (l : List Kept) : List Int := (l.map QeQ).flatten
def Qbx (v : Img) : List Int := sm v.1.toNat ++ sm v.2.1.length ++ ZY v.2.1 ++ (sm v.2.2.2.1.toNat ++ sm v.2.2.2.2.1.toNat) ++ [if v.2.2.2.2.2 then 1 else 0] ++ sm v.2.2.1.length
def imgB (v : Img) : List Int := Qbx v ++ Zo v.2.2.1
theorem Qdh (a b : List Kept) : Zo (a ++ b) = Zo a ++ Zo b := by simp [Zo]
theorem Qdg (c : Kept) : Zo [c] = QeQ c := by simp [Zo]
def wfK (k : Kept) : Prop := (0 ≤ k.2.2.2.1 ∧ k.2.2.2.1 ≤ 4294967295) ∧ 0 ≤ k.2.2.2.2.2 ∧ k.2.2.2.2.2 ≤ 18446744073709551615
theorem Qef {k : Kept} (h : QbK k.2) : (QeQ k).length ≤ 400 := by
 have a1 := ZD k.1.toNat
 have a2 := Qad k.2.1
 have a3 := Qad k.2.2.1
 have a4 := ZD k.2.2.2.1.toNat
 have a5 := ZD k.2.2.2.2.1.toNat
 have a6 := ZD k.2.2.2.2.2.toNat
 have := h.2.2.1
 unfold QeQ; simp only [List.length_append]; omega
theorem Qjw {v : Img} (h : okI v) : (Qbx v).length ≤ 200 := by
 have a1 := ZD v.1.toNat
 have a2 := ZD v.2.1.length
 have a3 := Qa2 v.2.1
 have a4 := ZD v.2.2.2.1.toNat
 have a5 := ZD v.2.2.2.2.1.toNat
 have a6 := ZD v.2.2.1.length
 have := h.2.1.2.1
 unfold Qbx; simp only [List.length_append, List.length_singleton]; omega
def Q6 (v : Img) : List Int × Int := if okI v then (if 65536 < (imgB v).length then ([], 3) else (imgB v, 0)) else ([], 8)
theorem QhQ {v : Img} (hb : ∀ k ∈ v.2.2.1, k.2.1.length ≤ 140737488351232 ∧ k.2.2.1.length ≤ 140737488351232) (hw : ∀ k ∈ v.2.2.1, wfK k) : Zj mx v = some (Q6 v) := by
 have hck := Qly (v := v) hb
 have hh := fun h => Qjw (v := v) h
 obtain ⟨t, q, l, e, n, b⟩ := v
 dsimp only at hck hw
 simp only [Zj, hck, Option.bind_some, Q6, Vf]
 by_cases h1 : okI (t, q, l, e, n, b)
 case neg => simp only [if_neg h1]; rfl
 simp only [if_pos h1, decide_true, Bool.not_true, cond_false]
 obtain ⟨⟨t1, t2⟩, ⟨q1, q2, q3⟩, l1, ⟨e1, e2⟩, ⟨n1, n2⟩, hk, _⟩ := id h1
 dsimp only at t1 t2 q1 q2 q3 l1 e1 e2 n1 n2 hk
 have hh := hh h1
 have s1 := ZD t.toNat
 have s2 := ZD q.length
 have s3 := Qa2 q
 have s4 := ZD e.toNat
 have s5 := ZD n.toNat
 have s6 := ZD l.length
 have g1 := QnE (a := []) (x := t) (y := (q.length : Int)) (by simp) t1 (by omega) (by omega) (by omega)
 rw [Int.toNat_natCast, List.nil_append] at g1
 have g2 := Qik (a := sm t.toNat ++ sm q.length) (l := q) (by rw [List.length_append]; omega) ⟨by omega, fun x hx => ⟨(q3 x hx).1, by have := (q3 x hx).2; omega⟩⟩
 have g3 := QnE (a := sm t.toNat ++ sm q.length ++ ZY q) (x := e) (y := n) (by simp only [List.length_append]; omega) e1 (by omega) n1 (by omega)
 have c1 : Nat.ble ((sm t.toNat ++ sm q.length ++ ZY q ++ (sm e.toNat ++ sm n.toNat)).length + 1) 140737488351232 = true := ZQ (by simp only [List.length_append]; omega)
 have g4 : Zj.a mx b (sm t.toNat ++ sm q.length ++ ZY q ++ (sm e.toNat ++ sm n.toNat)) = some (sm t.toNat ++ sm q.length ++ ZY q ++ (sm e.toNat ++ sm n.toNat) ++ [if b then 1 else 0]) := by
  simp only [Zj.a, c1, cond_true]
  cases b <;> rfl
 have g5 := Qpn (a := sm t.toNat ++ sm q.length ++ ZY q ++ (sm e.toNat ++ sm n.toNat) ++ [if b then 1 else 0]) (x := (l.length : Int)) (by simp only [List.length_append, List.length_singleton]; omega) (by omega) (by omega)
 rw [Int.toNat_natCast] at g5
 have hhd : sm t.toNat ++ sm q.length ++ ZY q ++ (sm e.toNat ++ sm n.toNat) ++ [if b then 1 else 0] ++ sm l.length = Qbx (t, q, l, e, n, b) := rfl
 rw [hhd] at g5
 have hlen : ∀ i, i ≤ l.length → (Zo (l.take i)).length ≤ 400 * i := fun i => by
  induction i with
  | zero => intro _; simp [Zo]
  | succ i ih =>
   intro hi
   rw [QH (l := l) (k := i) (by omega) K0, Qdh, Qdg, List.length_append]
   have := ih (by omega)
   have := Qef (hk _ (Zt (d := K0) (show i < l.length by omega))).2.2.1
   omega
 have hloop := QL (f := Zj.b mx l (l.length : Int)) (fun i => (Qbx (t, q, l, e, n, b) ++ Zo (l.take i), (i : Int))) l.length (r := imgB (t, q, l, e, n, b)) (Z7 (by omega)) (fun i hi => by
  obtain ⟨k1, k2, k3, k4⟩ := hk _ (Zt (d := K0) hi)
  obtain ⟨⟨w1, w2⟩, w3, w4⟩ := hw _ (Zt (d := K0) hi)
  have hl := hlen i (by omega)
  have hkl := Qef k3
  have e3 : Qbx (t, q, l, e, n, b) ++ Zo (l.take i) ++ QeQ (l.getD i K0) = Qbx (t, q, l, e, n, b) ++ Zo (l.take (i + 1)) := by
   rw [QH hi K0, Qdh, Qdg, List.append_assoc]
  have hA : (Qbx (t, q, l, e, n, b) ++ Zo (l.take i)).length ≤ 1000000 := by rw [List.length_append]; omega
  generalize Qbx (t, q, l, e, n, b) ++ Zo (l.take i) = A at e3 hA
  have a1 := ZD (l.getD i K0).1.toNat
  have a2 := Qad (l.getD i K0).2.1
  have a3 := Qad (l.getD i K0).2.2.1
  have a4 := ZD (l.getD i K0).2.2.2.1.toNat
  have a5 := ZD (l.getD i K0).2.2.2.2.1.toNat
  have a6 := ZD (l.getD i K0).2.2.2.2.2.toNat
  have i1 := k3.2.1
  have i2 := k3.2.2.1
  have i3 := k3.2.2.2
  have p1 := Qpn (a := A) (x := (l.getD i K0).1) (by omega) k1 (by omega)
  have p2 := QfP (s := (l.getD i K0).2.1) (by omega)
  have p3 := QfP (s := (l.getD i K0).2.2.1) (by omega)
  have d1 : Nat.ble ((A ++ sm (l.getD i K0).1.toNat).length + (txt (l.getD i K0).2.1).length) 140737488351232 = true := ZQ (by simp only [List.length_append]; omega)
  have d2 : Nat.ble ((A ++ sm (l.getD i K0).1.toNat ++ txt (l.getD i K0).2.1).length + (txt (l.getD i K0).2.2.1).length) 140737488351232 = true := ZQ (by simp only [List.length_append]; omega)
  have wf : IntKind.i64.wrap (l.getD i K0).2.2.2.1 = (l.getD i K0).2.2.2.1 := w64 (by omega) (by omega)
  have p4 := QnE (a := A ++ sm (l.getD i K0).1.toNat ++ txt (l.getD i K0).2.1 ++ txt (l.getD i K0).2.2.1) (x := (l.getD i K0).2.2.2.1) (y := (l.getD i K0).2.2.2.2.1) (by simp only [List.length_append]; omega) w1 (by omega) i3.1 (by omega)
  have p5 := QhW w3 w4
  have d3 : Nat.ble ((A ++ sm (l.getD i K0).1.toNat ++ txt (l.getD i K0).2.1 ++ txt (l.getD i K0).2.2.1 ++ (sm (l.getD i K0).2.2.2.1.toNat ++ sm (l.getD i K0).2.2.2.2.1.toNat)).length + (sm (l.getD i K0).2.2.2.2.2.toNat).length) 140737488351232 = true := ZQ (by simp only [List.length_append]; omega)
  have e4 : A ++ sm (l.getD i K0).1.toNat ++ txt (l.getD i K0).2.1 ++ txt (l.getD i K0).2.2.1 ++ (sm (l.getD i K0).2.2.2.1.toNat ++ sm (l.getD i K0).2.2.2.2.1.toNat) ++ sm (l.getD i K0).2.2.2.2.2.toNat = A ++ QeQ (l.getD i K0) := by
   simp only [QeQ, List.append_assoc]
  rw [e3] at e4
  simp only [Zj.b, ltd hi, lez, Bool.and_self, cond_true, Int.toNat_natCast, p1, Option.bind_some, p2, d1, p3, d2, wf, p4, p5, d3, e4]
  rw [Z8 (by omega)]) (by simp only [Zj.b, nltd, cond_false, List.take_length]; rfl)
 have hloop : iter mx (Zj.b mx l (l.length : Int)) (Qbx (t, q, l, e, n, b) ++ Zo (l.take 0), (0 : Int)) = _ := hloop
 rw [show Qbx (t, q, l, e, n, b) ++ Zo (l.take 0) = Qbx (t, q, l, e, n, b) by simp [Zo]] at hloop
 simp only [g1, g2, g3, g4, g5, hloop, Option.bind_some]
 by_cases h : 65536 < (imgB (t, q, l, e, n, b)).length
 ·rw [decide_eq_true (show (65536 : Int) < (((imgB (t, q, l, e, n, b)).length : Nat) : Int) by omega), if_pos h]; rfl
 ·rw [decide_eq_false (show ¬ (65536 : Int) < (((imgB (t, q, l, e, n, b)).length : Nat) : Int) by omega), if_neg h]; rfl
end Go.Proofs.YtpfjjbpoikgocaaGreat
namespace Go.Proofs.YtpfjjbpoikgocaaGreat
open Go.Abs
set_option maxRecDepth 100000
def QV (l : List Int) : Prop := ∀ x ∈ l, 0 ≤ x ∧ x ≤ 255
theorem QdO {l : List Int} (h : QV l) (i : Nat) : 0 ≤ l.getD i 0 ∧ l.getD i 0 ≤ 255 := by
 by_cases hi : i < l.length
 ·exact h _ (Zt hi)
 ·rw [List.getD_eq_getElem?_getD, List.getElem?_eq_none (by omega)]; exact ⟨by decide, by decide⟩
theorem QkI {l : List Int} (h : QV l) (n : Nat) : QV (l.drop n) := fun x hx => h x (List.mem_of_mem_drop hx)
theorem QkH {l : List Int} (h : QV l) (n : Nat) : QV (l.take n) := fun x hx => h x (List.mem_of_mem_take hx)
theorem Qpq {b : Nat} (h : b < 256) : VG .and .u8 (b : Int) 127 = ((b % 128 : Nat) : Int) := by
 have h2 : (List.range 256).all (fun b => VG .and .u8 (b : Int) 127 == ((b % 128 : Nat) : Int)) = true := by kernel_rfl
 exact beq_iff_eq.1 (List.all_eq_true.1 h2 b (List.mem_range.2 h))
theorem Qj9 (x : Int) : 0 ≤ IntKind.u64.wrap x ∧ IntKind.u64.wrap x ≤ 18446744073709551615 := by
 show 0 ≤ x % 18446744073709551616 ∧ x % 18446744073709551616 ≤ 18446744073709551615
 omega
theorem or64 {x y : Nat} (hx : x < 18446744073709551616) (hy : y < 18446744073709551616) : VG .or .u64 (x : Int) (y : Int) = ((x ||| y : Nat) : Int) := by
 have e : VG .or .u64 (x : Int) (y : Int) = IntKind.u64.wrap ((BitVec.ofInt 64 x ||| BitVec.ofInt 64 y).toNat : Int) := rfl
 have e2 : (BitVec.ofInt 64 (x : Int) ||| BitVec.ofInt 64 (y : Int)).toNat = x ||| y := by
  rw [BitVec.toNat_or, BitVec.toNat_ofInt, BitVec.toNat_ofInt]
  congr 1
  ·show ((x : Int) % ((2 ^ 64 : Nat) : Int)).toNat = x
   rw [Int.emod_eq_of_lt (by omega) (by omega)]; rfl
  ·show ((y : Int) % ((2 ^ 64 : Nat) : Int)).toNat = y
   rw [Int.emod_eq_of_lt (by omega) (by omega)]; rfl
 have : x ||| y < 2 ^ 64 := Nat.or_lt_two_pow (by omega) (by omega)
 rw [e, e2, wu64 (by omega) (by omega)]
theorem Qnb {acc b i : Nat} (hi : i ≤ 9) (hb : b < 128) (ha : acc < 2 ^ (7 * i)) (hs : acc + b * 2 ^ (7 * i) < 18446744073709551616) :
  VG .or .u64 (acc : Int) (Qdz .u64 (IntKind.u64.wrap (b : Int)) ((7 * i : Nat) : Int)) = ((acc + b * 2 ^ (7 * i) : Nat) : Int) := by
 have e : Qdz .u64 (IntKind.u64.wrap (b : Int)) ((7 * i : Nat) : Int) = ((b * 2 ^ (7 * i) : Nat) : Int) := by
  have e1 : Qdz .u64 (IntKind.u64.wrap (b : Int)) ((7 * i : Nat) : Int) = IntKind.u64.wrap (IntKind.u64.wrap (b : Int) * 2 ^ min (7 * i) 64) := rfl
  rw [e1, Nat.min_eq_left (by omega), wu64 (n := (b : Int)) (by omega) (by omega)]
  have : (b : Int) * 2 ^ (7 * i) = ((b * 2 ^ (7 * i) : Nat) : Int) := by simp
  rw [this, wu64 (by omega) (by omega)]
 rw [e, or64 (by omega) (by omega)]
 have := Nat.two_pow_add_eq_or_of_lt ha b
 rw [Nat.or_comm, Nat.mul_comm b, ← this, Nat.add_comm]
theorem QfY {a : List Int} (hb : QV a) (hl : a.length ≤ 1000000) {i : Nat} (hi : i < a.length) (acc : Int) :
  Q1.b mx a (a.length : Int) (acc, (i : Int)) = some (if i = 9 ∧ 1 < a.getD i 0 then .fin (.inl ()) else
   if a.getD i 0 < 128 then (if a.getD i 0 = 0 ∧ 0 < i then .fin (.inl ()) else .fin (.inr (VG .or .u64 acc (Qdz .u64 (IntKind.u64.wrap (VG .and .u8 (a.getD i 0) 127)) ((7 * i : Nat) : Int)), ((i + 1 : Nat) : Int), 0)))
   else .next (VG .or .u64 acc (Qdz .u64 (IntKind.u64.wrap (VG .and .u8 (a.getD i 0) 127)) ((7 * i : Nat) : Int)), ((i + 1 : Nat) : Int))) := by
 have w1 : IntKind.i64.wrap ((7 : Int) * (i : Int)) = ((7 * i : Nat) : Int) := by rw [w64 (by omega) (by omega)]; omega
 have hs : Q1.a mx (acc, (i : Int)) (a.getD i 0) = some (if i = 9 ∧ 1 < a.getD i 0 then .inl () else .inr ()) := by
  simp only [Q1.a, ieq]
  by_cases h : i = 9
  ·rw [decide_eq_true (show (i : Int) = 9 by omega)]
   by_cases h2 : 1 < a.getD i 0
   ·rw [decide_eq_true h2, if_pos ⟨h, h2⟩]; rfl
   ·rw [decide_eq_false h2, if_neg (fun hh => h2 hh.2)]; rfl
  ·rw [decide_eq_false (show ¬ (i : Int) = 9 by omega), if_neg (fun hh => h hh.1)]; rfl
 simp only [Q1.b, ltd hi, lez, Bool.and_self, cond_true, Int.toNat_natCast, hs, Option.bind_some]
 by_cases h1 : i = 9 ∧ 1 < a.getD i 0
 ·rw [if_pos h1, if_pos h1]
 rw [if_neg h1, if_neg h1]
 simp only [w1, decide_eq_false (show ¬ ((7 * i : Nat) : Int) < 0 by omega), cond_false, ieq]
 rw [Z8 (by omega)]
 by_cases h2 : a.getD i 0 < 128
 ·rw [decide_eq_true h2, if_pos h2]
  by_cases h3 : a.getD i 0 = 0
  ·rw [decide_eq_true h3]
   by_cases h4 : 0 < i
   ·rw [decide_eq_true (show (0 : Int) < (i : Int) by omega), if_pos ⟨h3, h4⟩]; rfl
   ·rw [decide_eq_false (show ¬ (0 : Int) < (i : Int) by omega), if_neg (fun hh => h4 hh.2)]; rfl
  ·rw [decide_eq_false h3, if_neg (fun hh => h3 hh.1)]; rfl
 ·rw [decide_eq_false h2, if_neg h2]; rfl
theorem QcV {a : List Int} (hb : QV a) (hl : a.length ≤ 1000000) : ∃ (v : Int) (n : Nat) (e : Int), Q1 mx a = some (v, (n : Int), e) ∧ 0 ≤ v ∧ v ≤ 18446744073709551615 ∧ n ≤ a.length := by
 obtain ⟨r, hr, hQ⟩ := V9 (f := Q1.b mx a (a.length : Int)) (fun s => ∃ k : Nat, s.2 = (k : Int) ∧ k ≤ a.length) (fun s => a.length - s.2.toNat)
  (fun r => ∀ x, r = .inr x → ∃ n : Nat, x.2.1 = (n : Int) ∧ n ≤ a.length ∧ 0 ≤ x.1 ∧ x.1 ≤ 18446744073709551615) ((0 : Int), (0 : Int)) ⟨0, rfl, Nat.zero_le _⟩ (by
  simp only [Int.toNat_zero, Nat.sub_zero]; exact Z7 (by omega)) (fun s ⟨k, e, hk⟩ => by
  obtain ⟨acc, i⟩ := s
  dsimp only at e
  subst e
  by_cases h1 : k < a.length
  ·rw [QfY hb hl h1]
   by_cases g1 : k = 9 ∧ 1 < a.getD k 0
   ·rw [if_pos g1]; exact .inr ⟨_, rfl, fun x hx => by cases hx⟩
   rw [if_neg g1]
   by_cases g2 : a.getD k 0 < 128
   ·rw [if_pos g2]
    by_cases g3 : a.getD k 0 = 0 ∧ 0 < k
    ·rw [if_pos g3]; exact .inr ⟨_, rfl, fun x hx => by cases hx⟩
    ·rw [if_neg g3]
     refine .inr ⟨_, rfl, fun x hx => ?_⟩
     cases hx
     exact ⟨k + 1, rfl, by omega, Qj9 _⟩
   ·rw [if_neg g2]
    exact .inl ⟨_, rfl, ⟨k + 1, rfl, by omega⟩, by dsimp only; omega⟩
  ·have : k = a.length := by omega
   subst this
   exact .inr ⟨.inl (), by simp only [Q1.b, nltd, cond_false], fun x hx => by cases hx⟩)
 simp only [Q1, hr, Option.bind_some]
 cases r with
 | inl _ => exact ⟨0, 0, 8, rfl, by decide, by decide, Nat.zero_le _⟩
 | inr x =>
  obtain ⟨v, n, e⟩ := x
  obtain ⟨m, h1, h2, h3, h4⟩ := hQ _ rfl
  dsimp only at h1
  subst h1
  exact ⟨v, m, e, rfl, h3, h4, h2⟩
theorem Qd0 : ∀ (f n : Nat), n < 128 ^ (f + 1) → QV (smF f n)
 | 0, n, h => fun x hx => by
  simp only [smF, List.mem_singleton] at hx
  subst hx; simp at h; omega
 | f + 1, n, h => fun x hx => by
  rw [smF] at hx
  split at hx
  ·rw [List.mem_singleton] at hx; subst hx; omega
  ·rcases List.mem_cons.1 hx with rfl | hx
   ·omega
   ·exact Qd0 f (n / 128) (by rw [Nat.pow_succ] at h; exact Nat.div_lt_of_lt_mul (by omega)) x hx
theorem Qi6 {a rest : List Int} (hb : QV a) (hl : a.length ≤ 1000000) : ∀ (f n i acc : Nat) (pre : List Int) (k : Nat), a = pre ++ (smF f n ++ rest) → pre.length = i → acc < 2 ^ (7 * i) → acc + n * 2 ^ (7 * i) < 18446744073709551616 → i ≤ 9 → n < 128 ^ (f + 1) → (0 < i → 0 < n) → f < k →
  QaG (Q1.b mx a (a.length : Int)) k (((acc : Nat) : Int), (i : Int)) = some (.inr (((acc + n * 2 ^ (7 * i) : Nat) : Int), ((i + (smF f n).length : Nat) : Int), 0))
 | f, n, i, acc, pre, k, ha, hp, hac, hs, hi, hn, hnz, hk => by
  obtain ⟨k, rfl⟩ : ∃ m, k = m + 1 := ⟨k - 1, by omega⟩
  have hlen := (QhX f n).1
  have hil : i < a.length := by rw [ha]; simp only [List.length_append]; omega
  have hget : a.getD i 0 = (smF f n).getD 0 0 := by
   rw [getD_some hil, getD_some (by omega)]
   simp only [ha]
   rw [List.getElem_append_right (by omega), List.getElem_append_left (by omega)]
   congr 1; omega
  by_cases h : n < 128
  ·have hsm : smF f n = [((n : Nat) : Int)] := by
    cases f with
    | zero => rfl
    | succ f => rw [smF, if_pos h]
   rw [hsm] at hget ⊢
   have hget : a.getD i 0 = (n : Int) := hget
   have hstep := QfY hb hl hil (((acc : Nat) : Int))
   rw [hget, Qpq (by omega), Nat.mod_eq_of_lt h, Qnb hi h hac hs, if_neg (fun hh => by
    have h9 := hh.1
    subst h9
    have : 2 ^ (7 * 9) = 9223372036854775808 := by decide
    rw [this] at hs; omega), if_pos (by omega), if_neg (fun hh => by have := hnz hh.2; omega)] at hstep
   rw [Jr hstep]; rfl
  ·cases f with
   | zero => simp at hn; omega
   | succ f =>
    have hsm : smF (f + 1) n = ((n % 128 + 128 : Nat) : Int) :: smF f (n / 128) := by rw [smF, if_neg h]
    have hi9 : i < 9 := by
     rcases Nat.lt_or_ge i 9 with h9 | h9
     ·exact h9
     ·have : i = 9 := by omega
      subst this
      have : 2 ^ (7 * 9) = 9223372036854775808 := by decide
      rw [this] at hs; omega
    rw [hsm] at hget
    have hget : a.getD i 0 = ((n % 128 + 128 : Nat) : Int) := hget
    have e7 : 2 ^ (7 * (i + 1)) = 128 * 2 ^ (7 * i) := by rw [show 7 * (i + 1) = 7 * i + 7 by omega, Nat.pow_add]; omega
    have hm : n % 128 * 2 ^ (7 * i) + n / 128 * 2 ^ (7 * (i + 1)) = n * 2 ^ (7 * i) := by
     rw [e7, ← Nat.mul_assoc, ← Nat.add_mul]; congr 1; omega
    have hle : n % 128 * 2 ^ (7 * i) ≤ n * 2 ^ (7 * i) := Nat.mul_le_mul_right _ (Nat.mod_le _ _)
    have hstep := QfY hb hl hil (((acc : Nat) : Int))
    rw [hget, Qpq (by omega), show (n % 128 + 128) % 128 = n % 128 by omega, Qnb hi (by omega) hac (by omega), if_neg (by omega), if_neg (by omega)] at hstep
    rw [Jl hstep, Qi6 (rest := rest) hb hl f (n / 128) (i + 1) (acc + n % 128 * 2 ^ (7 * i)) (pre ++ [((n % 128 + 128 : Nat) : Int)]) k (by rw [ha, hsm]; simp) (by simp [hp]) (by
      rw [e7]
      have : n % 128 * 2 ^ (7 * i) ≤ 127 * 2 ^ (7 * i) := Nat.mul_le_mul_right _ (by omega)
      omega) (by omega) (by omega) (by rw [Nat.pow_succ] at hn; exact Nat.div_lt_of_lt_mul (by omega)) (fun _ => by omega) (by omega), hsm, List.length_cons]
    congr 3
    ·omega
    ·congr 1; omega
theorem QdN {n : Nat} (hn : n < 18446744073709551616) {rest : List Int} (hr : QV rest) (hl : rest.length ≤ 900000) : Q1 mx (sm n ++ rest) = some ((n : Int), (((sm n).length : Nat) : Int), 0) := by
 have e0 : (128 : Nat) ^ (10 + 1) = 151115727451828646838272 := by decide
 have hs := ZD n
 have hb : QV (sm n ++ rest) := fun x hx => by
  rcases List.mem_append.1 hx with hx | hx
  ·exact Qd0 10 n (by rw [e0]; omega) x hx
  ·exact hr x hx
 have := Qi6 (a := sm n ++ rest) (rest := rest) hb (by rw [List.length_append]; omega) 10 n 0 0 [] N0 rfl rfl (by decide) (by omega) (by omega) (by rw [e0]; omega) (by omega) (by unfold N0; omega)
 have this : iter mx (Q1.b mx (sm n ++ rest) ((sm n ++ rest).length : Int)) ((0 : Int), (0 : Int)) = _ := this
 simp only [Q1, this, Option.bind_some, Nat.zero_add, Nat.mul_zero, Nat.pow_zero, Nat.mul_one]
 rfl
theorem Ju {n : Nat} (hn : n < 18446744073709551616) : QV (sm n) := by
 have e0 : (128 : Nat) ^ (10 + 1) = 151115727451828646838272 := by decide
 exact Qd0 10 n (by rw [e0]; omega)
end Go.Proofs.YtpfjjbpoikgocaaGreat
namespace Go.Proofs.YtpfjjbpoikgocaaGreat
open Go.Abs
set_option maxRecDepth 100000
def Rd (a : List Int) : Prop := QV a ∧ a.length ≤ 70000
theorem Rd.drop {a : List Int} (h : Rd a) (n : Nat) : Rd (a.drop n) := ⟨QkI h.1 n, by rw [List.length_drop]; have := h.2; omega⟩
theorem Rd.take {a : List Int} (h : Rd a) (n : Nat) : Rd (a.take n) := ⟨QkH h.1 n, by rw [List.length_take]; have := h.2; omega⟩
theorem Rd.right {a b : List Int} (h : Rd (a ++ b)) : Rd b := ⟨fun x hx => h.1 x (List.mem_append.2 (.inr hx)), by have := h.2; rw [List.length_append] at this; omega⟩
theorem QmA {a : List Int} {v e : Int} {n : Nat} (h : Q1 mx a = some (v, (n : Int), e)) (hn : n ≤ a.length) (bad : Bool) : Q0 mx (a, bad) = some (v, a.drop n, bad || (e != 0)) := by
 have hs : Q0.a mx a bad (v, (n : Int), e) = some (a, bad || (e != 0)) := by
  cases bad <;> rfl
 simp only [Q0, h, Option.bind_some, hs, lez, decide_eq_true (show (n : Int) ≤ (a.length : Int) by omega), Int.le_refl, decide_true, Bool.and_self, cond_true, Int.toNat_natCast, List.take_length]
theorem Qk0 {a : List Int} (ha : Rd a) (bad : Bool) : ∃ v rest bad', Q0 mx (a, bad) = some (v, rest, bad') ∧ (0 ≤ v ∧ v ≤ 18446744073709551615) ∧ Rd rest := by
 obtain ⟨v, n, e, h1, h2, h3, h4⟩ := QcV ha.1 (by have := ha.2; omega)
 exact ⟨v, a.drop n, _, QmA h1 h4 bad, ⟨h2, h3⟩, ha.drop n⟩
theorem Qmz {n : Nat} (hn : n < 18446744073709551616) {rest : List Int} (hr : Rd rest) (bad : Bool) : Q0 mx (sm n ++ rest, bad) = some ((n : Int), rest, bad) := by
 have h := QdN hn hr.1 (by have := hr.2; omega)
 rw [QmA h (by rw [List.length_append]; omega), List.drop_left']
 ·simp
 ·rfl
theorem Qbs {a : List Int} (ha : Rd a) (bad : Bool) {m : Int} (hm0 : 0 ≤ m) (hm : m ≤ 4611686018427387904) : ∃ v rest bad', Qt mx (a, bad, m) = some (v, rest, bad') ∧ (0 ≤ v ∧ v ≤ m) ∧ Rd rest := by
 obtain ⟨v, rest, b, h1, ⟨h2, h2'⟩, h3⟩ := Qk0 ha bad
 simp only [Qt, h1, Option.bind_some]
 rw [wu64 hm0 (by omega)]
 by_cases h : m < v
 ·rw [decide_eq_true h]; exact ⟨0, rest, true, rfl, ⟨Int.le_refl _, hm0⟩, h3⟩
 ·rw [decide_eq_false h, w64 (n := v) (by omega) (by omega)]; exact ⟨v, rest, b, rfl, ⟨h2, by omega⟩, h3⟩
theorem QcH {n : Nat} {rest : List Int} (hr : Rd rest) (bad : Bool) {m : Int} (h0 : (n : Int) ≤ m) (hm : m ≤ 4611686018427387904) : Qt mx (sm n ++ rest, bad, m) = some ((n : Int), rest, bad) := by
 simp only [Qt, Qmz (show n < 18446744073709551616 by omega) hr bad, Option.bind_some]
 rw [wu64 (by omega) (by omega), decide_eq_false (show ¬ m < (n : Int) by omega), w64 (n := (n : Int)) (by omega) (by omega)]; rfl
theorem Qk2 {a : List Int} (ha : Rd a) (bad : Bool) : ∃ s rest bad', ZV mx (a, bad) = some (s, rest, bad') ∧ Rd s ∧ Rd rest := by
 have hl := ha.2
 obtain ⟨v, rest, b, h1, ⟨h2, h2'⟩, h3⟩ := Qbs ha bad (m := (a.length : Int)) (by omega) (by omega)
 simp only [ZV, h1, Option.bind_some]
 by_cases h : (rest.length : Int) < v
 ·rw [decide_eq_true h]; exact ⟨[], rest, true, rfl, ⟨fun x hx => (by cases hx), by simp⟩, h3⟩
 ·rw [decide_eq_false h]
  simp only [cond_false, decide_eq_true h2, decide_eq_true (show v ≤ (rest.length : Int) by omega), Int.le_refl, decide_true, Bool.and_self, cond_true]
  exact ⟨_, _, _, rfl, (h3.take _).drop _, (h3.take _).drop _⟩
theorem QmG {s rest : List Int} (hs : Rd (s ++ rest)) (bad : Bool) : ZV mx (txt s ++ rest, bad) = some (s, rest, bad) := by
 have hl := hs.2
 rw [List.length_append] at hl
 have h := QcH (n := s.length) hs bad (m := ((txt s ++ rest).length : Int)) (by unfold txt; simp only [List.length_append]; omega) (by
  have := Qad s
  rw [List.length_append]; omega)
 have e : sm s.length ++ (s ++ rest) = txt s ++ rest := by unfold txt; rw [List.append_assoc]
 rw [e] at h
 simp only [ZV, h, Option.bind_some, decide_eq_false (show ¬ ((s ++ rest).length : Int) < (s.length : Int) by rw [List.length_append]; omega), cond_false, lez, decide_eq_true (show (s.length : Int) ≤ ((s ++ rest).length : Int) by rw [List.length_append]; omega), Int.le_refl, decide_true, Bool.and_self, cond_true, Int.toNat_natCast, List.drop_zero, List.take_length]
 rw [List.take_left' rfl, List.drop_left' rfl]
def wfIm (v : Img) : Prop := (∀ k ∈ v.2.2.1, (k.2.1.length ≤ 140737488351232 ∧ k.2.2.1.length ≤ 140737488351232) ∧ QV k.2.1 ∧ QV k.2.2.1) ∧ ∀ k ∈ v.2.2.1, wfK k
def Qps (a : List Int) (y : Int × List Int × List Kept × Int × Int × Bool × Int) : Prop := y = QfI 8 ∨ ∃ v, y = QdU v ∧ wfIm v ∧ Q6 v = (a, 0)
theorem Qkl (cnt : Int) (hc : cnt ≤ 4) (x : List Int × Bool) (t : Int) {a : List Int} (ha : Rd a) (bad : Bool) : ∃ r, iter mx (Qv.a mx (cnt, x)) ((0 : Int), a, bad, t, ([] : List Int), (0 : Int), (0 : Int), false) = some r ∧
  ∃ rest bad' q, r = (rest, bad', t, q, 0, 0, false) ∧ Rd rest ∧ q.length ≤ 4 := by
 refine V9 (f := Qv.a mx (cnt, x)) (fun s => ∃ (k : Nat) (rest : List Int) (b : Bool) (q : List Int), s = ((k : Int), rest, b, t, q, 0, 0, false) ∧ q.length = k ∧ k ≤ 4 ∧ Rd rest) (fun s => 4 - s.1.toNat)
  (fun r => ∃ rest bad' q, r = (rest, bad', t, q, 0, 0, false) ∧ Rd rest ∧ q.length ≤ 4) _ ⟨0, a, bad, [], rfl, rfl, by omega, ha⟩ (Z7 (by dsimp only; omega)) (fun s ⟨k, rest, b, q, e, hq, hk, hr⟩ => ?_)
 subst e
 by_cases h : (k : Int) < cnt
 ·obtain ⟨v, rest', b', h1, h2, h3⟩ := Qbs hr b (m := 16) (by decide) (by decide)
  have c1 : Nat.ble (q.length + 1) 4294967296 = true := ZQ (by omega)
  refine .inl ⟨(((k + 1 : Nat) : Int), rest', b', t, q ++ [v], 0, 0, false), ?_, ⟨k + 1, rest', b', q ++ [v], rfl, by simp [hq], by omega, h3⟩, by dsimp only; omega⟩
  simp only [Qv.a, decide_eq_true h, cond_true, h1, Option.bind_some, List.length_singleton, c1]
  rw [Z8 (by omega)]
 ·refine .inr ⟨(rest, b, t, q, 0, 0, false), ?_, rest, b, q, rfl, hr, by omega⟩
  simp only [Qv.a, decide_eq_false h, cond_false]
theorem Qmb (cnt : Int) (hc : cnt ≤ 1024) (x : List Int × Bool) (t : Int) (q : List Int) (e n : Int) (bb : Bool) {a : List Int} (ha : Rd a) (bad : Bool) : ∃ r, iter mx (Qv.b mx (cnt, x)) ((0 : Int), a, bad, t, q, ([] : List Kept), e, n, bb) = some r ∧
  (r = .inl (8, 0, 0, 0, false) ∨ ∃ rest bad' l, r = .inr (rest, bad', t, q, l, e, n, bb) ∧ wfIm (t, q, l, e, n, bb)) := by
 refine V9 (f := Qv.b mx (cnt, x)) (fun s => ∃ (k : Nat) (rest : List Int) (b : Bool) (l : List Kept), s = ((k : Int), rest, b, t, q, l, e, n, bb) ∧ l.length = k ∧ k ≤ 1024 ∧ Rd rest ∧ wfIm (t, q, l, e, n, bb)) (fun s => 1024 - s.1.toNat)
  (fun r => r = .inl (8, 0, 0, 0, false) ∨ ∃ rest bad' l, r = .inr (rest, bad', t, q, l, e, n, bb) ∧ wfIm (t, q, l, e, n, bb)) _ ⟨0, a, bad, [], rfl, rfl, by omega, ha, ⟨fun k hk => (by cases hk), fun k hk => (by cases hk)⟩⟩ (Z7 (by dsimp only; omega)) (fun s ⟨k, rest, b, l, es, hq, hk, hr, hw⟩ => ?_)
 subst es
 by_cases h : (k : Int) < cnt
 ·obtain ⟨v1, r1, b1, p1, i1, j1⟩ := Qbs hr b (m := 4) (by decide) (by decide)
  obtain ⟨s2, r2, b2, p2, i2, j2⟩ := Qk2 j1 b1
  obtain ⟨s3, r3, b3, p3, i3, j3⟩ := Qk2 j2 b2
  obtain ⟨v4, r4, b4, p4, i4, j4⟩ := Qbs j3 b3 (m := 4294967295) (by decide) (by decide)
  obtain ⟨v5, r5, b5, p5, i5, j5⟩ := Qbs j4 b4 (m := 1099511627776) (by decide) (by decide)
  obtain ⟨v6, r6, b6, p6, i6, j6⟩ := Qk0 j5 b5
  have c1 : Nat.ble (l.length + 1) 4294967296 = true := ZQ (by omega)
  have w4 : IntKind.u32.wrap v4 = v4 := wu32 i4.1 i4.2
  have hst : Qv.b mx (cnt, x) ((k : Int), rest, b, t, q, l, e, n, bb) = some (bif b6 then .fin (.inl (8, 0, 0, 0, false)) else .next (((k + 1 : Nat) : Int), r6, b6, t, q, l ++ [(v1, s2, s3, v4, v5, v6)], e, n, bb)) := by
   simp only [Qv.b, decide_eq_true h, cond_true, p1, p2, p3, p4, p5, p6, Option.bind_some, List.length_singleton, c1, w4]
   rw [Z8 (by omega)]
   cases b6 <;> rfl
  rw [hst]
  cases b6 with
  | true => exact .inr ⟨_, rfl, .inl rfl⟩
  | false =>
   refine .inl ⟨_, rfl, ⟨k + 1, r6, false, l ++ [(v1, s2, s3, v4, v5, v6)], rfl, by simp [hq], by omega, j6, ?_⟩, by dsimp only; omega⟩
   refine ⟨fun y hy => ?_, fun y hy => ?_⟩
   ·rcases List.mem_append.1 hy with hy | hy
    ·exact hw.1 y hy
    ·rw [List.mem_singleton] at hy; subst hy
     have := i2.2
     have := i3.2
     exact ⟨⟨by dsimp only; omega, by dsimp only; omega⟩, i2.1, i3.1⟩
   ·rcases List.mem_append.1 hy with hy | hy
    ·exact hw.2 y hy
    ·rw [List.mem_singleton] at hy; subst hy
     exact ⟨i4, i6⟩
 ·refine .inr ⟨.inr (rest, b, t, q, l, e, n, bb), ?_, .inr ⟨rest, b, l, rfl, hw⟩⟩
  simp only [Qv.b, decide_eq_false h, cond_false]
theorem Qem (a b : List Int) : QK mx (a, b) = some (decide (a = b)) := by
 simp only [QK]; congr 1; rw [Bool.eq_iff_iff]; simp
theorem QoE {a : List Int} (ha : QV a) (hl : a.length ≤ 65536) : ∃ y, Qv mx a = some y ∧ Qps a y := by
 have hR : Rd a := ⟨ha, by omega⟩
 obtain ⟨v1, r1, b1, p1, i1, j1⟩ := Qbs hR false (m := 1099511627776) (by decide) (by decide)
 obtain ⟨v2, r2, b2, p2, i2, j2⟩ := Qbs j1 b1 (m := 4) (by decide) (by decide)
 obtain ⟨x3, p3, r3, b3, q, rfl, j3, hq⟩ := Qkl v2 i2.2 (r2, b2) v1 j2 b2
 obtain ⟨v4, r4, b4, p4, i4, j4⟩ := Qbs j3 b3 (m := 2147483647) (by decide) (by decide)
 obtain ⟨v5, r5, b5, p5, i5, j5⟩ := Qbs j4 b4 (m := 2147483647) (by decide) (by decide)
 obtain ⟨v6, r6, b6, p6, i6, j6⟩ := Qbs j5 b5 (m := 255) (by decide) (by decide)
 obtain ⟨v7, r7, b7, p7, i7, j7⟩ := Qbs j6 b6 (m := 1024) (by decide) (by decide)
 obtain ⟨x8, p8, h8⟩ := Qmb v7 i7.2 (r7, b7) v1 q v4 v5 (v6 == 1) j7 b7
 simp only [Qv, decide_eq_false (show ¬ (65536 : Int) < (a.length : Int) by omega), cond_false, p1, p2, Option.bind_some, p3, p4, p5, p6, p7, p8]
 rcases h8 with rfl | ⟨rest, bad', l, rfl, hw⟩
 ·exact ⟨QfI 8, rfl, .inl rfl⟩
 ·have hwr := QhQ (v := (v1, q, l, v4, v5, (v6 == 1))) (fun k hk => (hw.1 k hk).1) hw.2
  simp only [hwr, Option.bind_some, Qem, Vf]
  cases bad' with
  | true => exact ⟨QfI 8, rfl, .inl rfl⟩
  | false =>
   by_cases g1 : (Q6 (v1, q, l, v4, v5, (v6 == 1))).2 = 0
   ·by_cases g2 : (Q6 (v1, q, l, v4, v5, (v6 == 1))).1 = a
    ·rw [decide_eq_true g1, decide_eq_true g2]
     exact ⟨QdU (v1, q, l, v4, v5, (v6 == 1)), rfl, .inr ⟨_, rfl, hw, Prod.ext g2 g1⟩⟩
    ·rw [decide_eq_true g1, decide_eq_false g2]; exact ⟨QfI 8, rfl, .inl rfl⟩
   ·rw [decide_eq_false g1]; exact ⟨QfI 8, rfl, .inl rfl⟩
theorem Qaw {v : Img} {a : List Int} (h : Q6 v = (a, 0)) : okI v ∧ imgB v = a ∧ a.length ≤ 65536 := by
 unfold Q6 at h
 by_cases h1 : okI v
 ·rw [if_pos h1] at h
  by_cases h2 : 65536 < (imgB v).length
  ·rw [if_pos h2] at h; cases h
  ·rw [if_neg h2] at h; cases h; exact ⟨h1, rfl, by omega⟩
 ·rw [if_neg h1] at h; cases h
theorem Qdb (x : Int) (l : List Int) : ZY (x :: l) = sm x.toNat ++ ZY l := rfl
theorem Qcl (x : Kept) (l : List Kept) : Zo (x :: l) = QeQ x ++ Zo l := rfl
theorem Qm3 (x : List Int × Bool) (t : Int) (q : List Int) (hq : q.length ≤ 4) (h16 : ∀ y ∈ q, 0 ≤ y ∧ y ≤ 16) {rest : List Int} (hr : Rd (ZY q ++ rest)) :
  iter mx (Qv.a mx ((q.length : Int), x)) ((0 : Int), ZY q ++ rest, false, t, ([] : List Int), (0 : Int), (0 : Int), false) = some (rest, false, t, q, 0, 0, false) := by
 have hd : ∀ i, i ≤ q.length → Rd (ZY (q.drop i) ++ rest) := fun i => by
  induction i with
  | zero => intro _; exact hr
  | succ i ih =>
   intro hi
   have := ih (by omega)
   rw [List.drop_eq_getElem_cons (show i < q.length by omega), Qdb, List.append_assoc] at this
   exact this.right
 have := QL (f := Qv.a mx ((q.length : Int), x)) (fun i => ((i : Int), ZY (q.drop i) ++ rest, false, t, q.take i, (0 : Int), (0 : Int), false)) q.length (r := (rest, false, t, q, 0, 0, false)) (Z7 (by omega)) (fun i hi => by
  obtain ⟨y1, y2⟩ := h16 _ (List.getElem_mem hi)
  have hn := hd (i + 1) hi
  have e : ZY (q.drop i) ++ rest = sm q[i].toNat ++ (ZY (q.drop (i + 1)) ++ rest) := by rw [List.drop_eq_getElem_cons hi, Qdb, List.append_assoc]
  have hx := QcH (n := q[i].toNat) hn false (m := 16) (by omega) (by decide)
  rw [← e, show ((q[i].toNat : Nat) : Int) = q[i] by omega] at hx
  have c1 : Nat.ble ((q.take i).length + 1) 4294967296 = true := ZQ (by rw [List.length_take]; omega)
  simp only [Qv.a, ltd hi, cond_true, hx, Option.bind_some, List.length_singleton, c1]
  rw [Z8 (by omega), QH hi 0, getD_some hi]) (by
  simp only [Qv.a, nltd, cond_false, List.take_length]
  rw [List.drop_eq_nil_of_le (Nat.le_refl _)]; rfl)
 exact this
theorem QoN (x : List Int × Bool) (t : Int) (q : List Int) (l : List Kept) (e n : Int) (bb : Bool) (hl : l.length ≤ 1024) (hk : ∀ k ∈ l, (0 ≤ k.1 ∧ k.1 ≤ 4) ∧ QbK k.2) (hw : ∀ k ∈ l, wfK k) {rest : List Int} (hr : Rd (Zo l ++ rest)) :
  iter mx (Qv.b mx ((l.length : Int), x)) ((0 : Int), Zo l ++ rest, false, t, q, ([] : List Kept), e, n, bb) = some (.inr (rest, false, t, q, l, e, n, bb)) := by
 have hd : ∀ i, i ≤ l.length → Rd (Zo (l.drop i) ++ rest) := fun i => by
  induction i with
  | zero => intro _; exact hr
  | succ i ih =>
   intro hi
   have := ih (by omega)
   rw [List.drop_eq_getElem_cons (show i < l.length by omega), Qcl, List.append_assoc] at this
   exact this.right
 have := QL (f := Qv.b mx ((l.length : Int), x)) (fun i => ((i : Int), Zo (l.drop i) ++ rest, false, t, q, l.take i, e, n, bb)) l.length (r := .inr (rest, false, t, q, l, e, n, bb)) (Z7 (by omega)) (fun i hi => by
  obtain ⟨⟨y1, y2⟩, y3⟩ := hk _ (List.getElem_mem hi)
  obtain ⟨⟨z1, z2⟩, z3, z4⟩ := hw _ (List.getElem_mem hi)
  have hn := hd i (by omega)
  have e0 : Zo (l.drop i) ++ rest = sm l[i].1.toNat ++ (txt l[i].2.1 ++ (txt l[i].2.2.1 ++ (sm l[i].2.2.2.1.toNat ++ (sm l[i].2.2.2.2.1.toNat ++ (sm l[i].2.2.2.2.2.toNat ++ (Zo (l.drop (i + 1)) ++ rest)))))) := by
   rw [List.drop_eq_getElem_cons hi, Qcl]
   simp only [QeQ, List.append_assoc]
  have hi4 := y3.2.2.2
  obtain ⟨A, hA⟩ : ∃ A, Zo (l.drop (i + 1)) ++ rest = A := ⟨_, rfl⟩
  have g6 : Rd A := by rw [← hA]; exact hd (i + 1) hi
  rw [hA] at e0
  rw [e0] at hn ⊢
  have g1 := hn.right
  have g2 : Rd (txt l[i].2.2.1 ++ (sm l[i].2.2.2.1.toNat ++ (sm l[i].2.2.2.2.1.toNat ++ (sm l[i].2.2.2.2.2.toNat ++ A)))) := g1.right
  have g3 : Rd (sm l[i].2.2.2.1.toNat ++ (sm l[i].2.2.2.2.1.toNat ++ (sm l[i].2.2.2.2.2.toNat ++ A))) := g2.right
  have g4 : Rd (sm l[i].2.2.2.2.1.toNat ++ (sm l[i].2.2.2.2.2.toNat ++ A)) := g3.right
  have g5 : Rd (sm l[i].2.2.2.2.2.toNat ++ A) := g4.right
  have p1 := QcH (n := l[i].1.toNat) g1 false (m := 4) (by omega) (by decide)
  have p2 := QmG (s := l[i].2.1) (rest := txt l[i].2.2.1 ++ (sm l[i].2.2.2.1.toNat ++ (sm l[i].2.2.2.2.1.toNat ++ (sm l[i].2.2.2.2.2.toNat ++ A)))) (by unfold txt at g1; rw [List.append_assoc] at g1; exact g1.right) false
  have p3 := QmG (s := l[i].2.2.1) (rest := sm l[i].2.2.2.1.toNat ++ (sm l[i].2.2.2.2.1.toNat ++ (sm l[i].2.2.2.2.2.toNat ++ A))) (by
   have := g2
   unfold txt at this
   rw [List.append_assoc] at this
   exact this.right) false
  have p4 := QcH (n := l[i].2.2.2.1.toNat) g4 false (m := 4294967295) (by omega) (by decide)
  have p5 := QcH (n := l[i].2.2.2.2.1.toNat) g5 false (m := 1099511627776) (by omega) (by decide)
  have p6 := Qmz (n := l[i].2.2.2.2.2.toNat) (by omega) g6 false
  rw [show ((l[i].1.toNat : Nat) : Int) = l[i].1 by omega] at p1
  rw [show ((l[i].2.2.2.1.toNat : Nat) : Int) = l[i].2.2.2.1 by omega] at p4
  rw [show ((l[i].2.2.2.2.1.toNat : Nat) : Int) = l[i].2.2.2.2.1 by omega] at p5
  rw [show ((l[i].2.2.2.2.2.toNat : Nat) : Int) = l[i].2.2.2.2.2 by omega] at p6
  have c1 : Nat.ble ((l.take i).length + 1) 4294967296 = true := ZQ (by rw [List.length_take]; omega)
  have w4 : IntKind.u32.wrap l[i].2.2.2.1 = l[i].2.2.2.1 := wu32 z1 z2
  simp only [Qv.b, ltd hi, cond_true, p1, p2, p3, p4, p5, p6, Option.bind_some, List.length_singleton, c1, w4, cond_false, hA]
  rw [Z8 (by omega), QH hi K0, getD_some hi]) (by
  simp only [Qv.b, nltd, cond_false, List.take_length]
  rw [List.drop_eq_nil_of_le (Nat.le_refl _)]; rfl)
 exact this
theorem Qkj {v : Img} {a : List Int} (h : Q6 v = (a, 0)) (ha : QV a) (hw : ∀ k ∈ v.2.2.1, wfK k) : Qv mx a = some (QdU v) := by
 obtain ⟨hok, himg, hl⟩ := Qaw h
 have hwr := QhQ (QbO hok) hw
 rw [h] at hwr
 obtain ⟨t, q, l, e, n, b⟩ := v
 obtain ⟨⟨t1, t2⟩, ⟨q1, q2, q3⟩, l1, ⟨e1, e2⟩, ⟨n1, n2⟩, hk, _⟩ := id hok
 dsimp only at t1 t2 q1 q2 q3 l1 e1 e2 n1 n2 hk hw
 have hR : Rd a := ⟨ha, by omega⟩
 have hs1 : sm (if b then 1 else 0) = [if b then 1 else 0] := by cases b <;> rfl
 have e0 : a = sm t.toNat ++ (sm q.length ++ (ZY q ++ (sm e.toNat ++ (sm n.toNat ++ (sm (if b then 1 else 0) ++ (sm l.length ++ (Zo l ++ []))))))) := by
  rw [← himg, hs1]
  simp only [imgB, Qbx, List.append_assoc, List.append_nil]
 rw [e0] at hR
 have g1 := hR.right
 have g2 : Rd (ZY q ++ (sm e.toNat ++ (sm n.toNat ++ (sm (if b then 1 else 0) ++ (sm l.length ++ (Zo l ++ [])))))) := g1.right
 have g3 : Rd (sm e.toNat ++ (sm n.toNat ++ (sm (if b then 1 else 0) ++ (sm l.length ++ (Zo l ++ []))))) := g2.right
 have g4 : Rd (sm n.toNat ++ (sm (if b then 1 else 0) ++ (sm l.length ++ (Zo l ++ [])))) := g3.right
 have g5 : Rd (sm (if b then 1 else 0) ++ (sm l.length ++ (Zo l ++ []))) := g4.right
 have g6 : Rd (sm l.length ++ (Zo l ++ [])) := g5.right
 have g7 : Rd (Zo l ++ []) := g6.right
 have p1 := QcH (n := t.toNat) g1 false (m := 1099511627776) (by omega) (by decide)
 rw [← e0, show ((t.toNat : Nat) : Int) = t by omega] at p1
 have p2 := QcH (n := q.length) g2 false (m := 4) (by omega) (by decide)
 have p3 := Qm3 (ZY q ++ (sm e.toNat ++ (sm n.toNat ++ (sm (if b then 1 else 0) ++ (sm l.length ++ (Zo l ++ []))))), false) t q q2 q3 g2
 have p4 := QcH (n := e.toNat) g4 false (m := 2147483647) (by omega) (by decide)
 rw [show ((e.toNat : Nat) : Int) = e by omega] at p4
 have p5 := QcH (n := n.toNat) g5 false (m := 2147483647) (by omega) (by decide)
 rw [show ((n.toNat : Nat) : Int) = n by omega] at p5
 have p6 := QcH (n := if b then 1 else 0) g6 false (m := 255) (by cases b <;> decide) (by decide)
 have p7 := QcH (n := l.length) g7 false (m := 1024) (by omega) (by decide)
 have p8 := QoN (Zo l ++ [], false) t q l e n b l1 (fun k hk' => ⟨⟨(hk k hk').1, by have := (hk k hk').2.1; omega⟩, (hk k hk').2.2.1⟩) hw g7
 have hb : (((if b then 1 else 0 : Nat) : Int) == 1) = b := by cases b <;> rfl
 simp only [Qv, decide_eq_false (show ¬ (65536 : Int) < (a.length : Int) by omega), cond_false, p1, p2, Option.bind_some, p3, p4, p5, p6, p7, hb, p8, hwr, bne_self_eq_false, Qem, decide_true, Bool.not_true]
 rfl
theorem QfJ {v w : Img} {a : List Int} (h1 : Q6 v = (a, 0)) (h2 : Q6 w = (a, 0)) (ha : QV a) (hv : ∀ k ∈ v.2.2.1, wfK k) (hw : ∀ k ∈ w.2.2.1, wfK k) : v = w := by
 have a1 := Qkj h1 ha hv
 rw [Qkj h2 ha hw] at a1
 have a1 := Option.some.inj a1
 obtain ⟨t, q, l, e, n, b⟩ := v
 obtain ⟨t', q', l', e', n', b'⟩ := w
 simp only [QdU, Prod.mk.injEq] at a1
 obtain ⟨rfl, rfl, rfl, rfl, rfl, rfl, _⟩ := a1
 rfl
end Go.Proofs.YtpfjjbpoikgocaaGreat
namespace Go.Proofs.YtpfjjbpoikgocaaGreat
open Go.Abs
set_option maxRecDepth 100000
theorem Qlx {a : List Int} {v e : Int} {n : Nat} (h : Q1 mx a = some (v, (n : Int), e)) (hn : n ≤ a.length) (bad : Bool) : Za mx (a, bad) = some (v, a.drop n, bad || (e != 0)) := by
 have hs : Za.a mx a bad (v, (n : Int), e) = some (a, bad || (e != 0)) := by
  cases bad <;> rfl
 simp only [Za, h, Option.bind_some, hs, lez, decide_eq_true (show (n : Int) ≤ (a.length : Int) by omega), Int.le_refl, decide_true, Bool.and_self, cond_true, Int.toNat_natCast, List.take_length]
theorem QjL {a : List Int} (ha : Rd a) (bad : Bool) : ∃ v rest bad', Za mx (a, bad) = some (v, rest, bad') ∧ (0 ≤ v ∧ v ≤ 18446744073709551615) ∧ Rd rest := by
 obtain ⟨v, n, e, h1, h2, h3, h4⟩ := QcV ha.1 (by have := ha.2; omega)
 exact ⟨v, a.drop n, _, Qlx h1 h4 bad, ⟨h2, h3⟩, ha.drop n⟩
theorem Qlw {n : Nat} (hn : n < 18446744073709551616) {rest : List Int} (hr : Rd rest) (bad : Bool) : Za mx (sm n ++ rest, bad) = some ((n : Int), rest, bad) := by
 have h := QdN hn hr.1 (by have := hr.2; omega)
 rw [Qlx h (by rw [List.length_append]; omega), List.drop_left']
 ·simp
 ·rfl
theorem Qep {a : List Int} (ha : Rd a) (bad : Bool) {m : Int} (hm0 : 0 ≤ m) (hm : m ≤ 4611686018427387904) : ∃ v rest bad', Zm mx (a, bad, m) = some (v, rest, bad') ∧ (0 ≤ v ∧ v ≤ m) ∧ Rd rest := by
 obtain ⟨v, rest, b, h1, ⟨h2, h2'⟩, h3⟩ := QjL ha bad
 simp only [Zm, h1, Option.bind_some]
 rw [wu64 hm0 (by omega)]
 by_cases h : m < v
 ·rw [decide_eq_true h]; exact ⟨0, rest, true, rfl, ⟨Int.le_refl _, hm0⟩, h3⟩
 ·rw [decide_eq_false h, w64 (n := v) (by omega) (by omega)]; exact ⟨v, rest, b, rfl, ⟨h2, by omega⟩, h3⟩
theorem QbC {n : Int} (h0 : 0 ≤ n) {rest : List Int} (hr : Rd rest) (bad : Bool) {m : Int} (h1 : n ≤ m) (hm : m ≤ 4611686018427387904) : Zm mx (sm n.toNat ++ rest, bad, m) = some (n, rest, bad) := by
 simp only [Zm, Qlw (show n.toNat < 18446744073709551616 by omega) hr bad, Option.bind_some]
 rw [wu64 (by omega) (by omega), decide_eq_false (show ¬ m < ((n.toNat : Nat) : Int) by omega), w64 (n := ((n.toNat : Nat) : Int)) (by omega) (by omega), show ((n.toNat : Nat) : Int) = n by omega]; rfl
theorem Qgz {a : List Int} (ha : Rd a) (bad : Bool) : ∃ v rest bad', ZP mx (a, bad) = some (v, rest, bad') ∧ Rd rest := by
 simp only [ZP, ieq]
 by_cases h : a.length = 0
 ·rw [decide_eq_true (show (a.length : Int) = 0 by omega)]; exact ⟨0, a, true, rfl, ha⟩
 ·simp only [decide_eq_false (show ¬ (a.length : Int) = 0 by omega), cond_false, decide_eq_true (show (0 : Int) < (a.length : Int) by omega), decide_eq_true (show (1 : Int) ≤ (a.length : Int) by omega), Int.le_refl, decide_true, Bool.and_self, cond_true, Int.toNat_natCast, List.take_length]
  exact ⟨_, _, _, rfl, ha.drop 1⟩
theorem Qbg (x : Int) (rest : List Int) (bad : Bool) : ZP mx (x :: rest, bad) = some (x, rest, bad) := by
 have h1 : (x :: rest).length = rest.length + 1 := List.length_cons
 simp only [ZP, ieq, decide_eq_false (show ¬ ((x :: rest).length : Int) = 0 by omega), cond_false, decide_eq_true (show (0 : Int) < ((x :: rest).length : Int) by omega), decide_eq_true (show (1 : Int) ≤ ((x :: rest).length : Int) by omega), Int.le_refl, decide_true, Bool.and_self, cond_true, Int.toNat_natCast, List.take_length]
 rfl
theorem Qpp {a : List Int} (hl : a.length ≤ 70000) {v e : Int} {n : Nat} (h : Q1 mx a = some (v, (n : Int), e)) (hn : n ≤ a.length) (hv : 0 ≤ v ∧ v ≤ 18446744073709551615) :
  Qbn mx a = some (if e = 0 ∧ v ≤ (a.length : Int) - (n : Int) then ((a.drop n).take v.toNat, a.drop (n + v.toNat), 0) else ([], [], 8)) := by
 have w1 : IntKind.u64.wrap (IntKind.i64.wrap ((a.length : Int) - (n : Int))) = (a.length : Int) - (n : Int) := by rw [w64 (by omega) (by omega), wu64 (by omega) (by omega)]
 simp only [Qbn, h, Option.bind_some, w1, Vf]
 by_cases g1 : e = 0
 case neg => rw [decide_eq_false g1, if_neg (fun hh => g1 hh.1)]; rfl
 rw [decide_eq_true g1]
 by_cases g2 : v ≤ (a.length : Int) - (n : Int)
 case neg => rw [decide_eq_true (show (a.length : Int) - (n : Int) < v by omega), if_neg (fun hh => g2 hh.2)]; rfl
 obtain ⟨m, rfl⟩ := Int.eq_ofNat_of_zero_le hv.1
 have w2 : IntKind.i64.wrap ((n : Int) + IntKind.i64.wrap (m : Int)) = ((n + m : Nat) : Int) := by rw [w64 (n := (m : Int)) (by omega) (by omega), w64 (by omega) (by omega)]; omega
 have hdl : (a.drop n).length = a.length - n := List.length_drop
 simp only [decide_eq_false (show ¬ (a.length : Int) - (n : Int) < (m : Int) by omega), Bool.not_true, cond_false, lez, decide_eq_true (show (n : Int) ≤ (a.length : Int) by omega), Int.le_refl, decide_true, Bool.and_self, cond_true, Int.toNat_natCast, List.take_length, decide_eq_true (show (m : Int) ≤ ((a.drop n).length : Int) by omega), w2,
  decide_eq_true (show ((n + m : Nat) : Int) ≤ (a.length : Int) by omega), List.drop_zero, if_pos (show e = 0 ∧ (m : Int) ≤ (a.length : Int) - (n : Int) from ⟨g1, g2⟩)]
theorem Qgw {a : List Int} (ha : Rd a) (bad : Bool) : ∃ s rest bad', ZB mx (a, bad) = some (s, rest, bad') ∧ Rd s ∧ Rd rest := by
 obtain ⟨v, n, e, h1, h2, h3, h4⟩ := QcV ha.1 (by have := ha.2; omega)
 have hc := Qpp ha.2 h1 h4 ⟨h2, h3⟩
 by_cases g : e = 0 ∧ v ≤ (a.length : Int) - (n : Int)
 ·rw [if_pos g] at hc
  simp only [ZB, hc, Option.bind_some, bne_self_eq_false, cond_false]
  exact ⟨_, _, _, rfl, (ha.drop _).take _, ha.drop _⟩
 ·rw [if_neg g] at hc
  simp only [ZB, hc, Option.bind_some]
  exact ⟨[], a, true, rfl, ⟨fun x hx => (by cases hx), by simp⟩, ha⟩
theorem Qiv {s rest : List Int} (hs : Rd (s ++ rest)) (hl2 : (txt s ++ rest).length ≤ 70000) (bad : Bool) : ZB mx (txt s ++ rest, bad) = some (s, rest, bad) := by
 have hl := hs.2
 rw [List.length_append] at hl
 have h := QdN (n := s.length) (by omega) hs.1 (by rw [List.length_append]; omega)
 have e : sm s.length ++ (s ++ rest) = txt s ++ rest := by unfold txt; rw [List.append_assoc]
 rw [e] at h
 have hla : (txt s ++ rest).length = (sm s.length).length + s.length + rest.length := by unfold txt; simp only [List.length_append]
 have hc := Qpp hl2 h (by omega) ⟨by omega, by omega⟩
 rw [if_pos ⟨rfl, by omega⟩, Int.toNat_natCast] at hc
 have e1 : ((txt s ++ rest).drop (sm s.length).length).take s.length = s := by
  rw [← e, List.drop_left' rfl, List.take_left' rfl]
 have e2 : (txt s ++ rest).drop ((sm s.length).length + s.length) = rest := by
  rw [show (sm s.length).length + s.length = (txt s).length by unfold txt; rw [List.length_append], List.drop_left' rfl]
 rw [e1, e2] at hc
 simp only [ZB, hc, Option.bind_some, bne_self_eq_false, cond_false]
def QjP (c : Chg) (rest : List Int) (bad : Bool) : Int × Int × List Int × List Int × Int × Int × Int × List Int × Int × Int × Bool × List Int × Bool :=
 (c.1, c.2.1, c.2.2.1.1, c.2.2.1.2.1, c.2.2.1.2.2.1, c.2.2.1.2.2.2.1, c.2.2.1.2.2.2.2, c.2.2.2.1, c.2.2.2.2.1, c.2.2.2.2.2.1, c.2.2.2.2.2.2, rest, bad)
def Qb7 (c : Chg) : Prop := QV c.2.2.1.1 ∧ QV c.2.2.1.2.1 ∧ QV c.2.2.2.1
theorem QqM {a : List Int} (ha : Rd a) (bad : Bool) : ∃ c rest bad', Qb mx (a, bad) = some (QjP c rest bad') ∧ wfC c ∧ Qb7 c ∧ Rd rest := by
 have hE : QV ([] : List Int) := fun x hx => by cases hx
 obtain ⟨kd, r1, b1, p1, j1⟩ := Qgz ha bad
 obtain ⟨tn, r2, b2, p2, j2⟩ : ∃ tn r2 b2, Qb.b mx (kd, r1, b1) = some (r2, b2, kd, tn, [], [], 0, 0, 0, [], 0, 0, false) ∧ Rd r2 := by
  simp only [Qb.b]
  obtain ⟨B, hB⟩ : ∃ B, Qb.a mx (kd, r1, b1) = some B := by
   simp only [Qb.a]
   cases (kd == (1 : Int)) <;> cases (kd == (2 : Int)) <;> cases (kd == (3 : Int)) <;> exact ⟨_, rfl⟩
  rw [hB]
  cases B with
  | false => exact ⟨0, r1, b1, rfl, j1⟩
  | true =>
   obtain ⟨v, r2, b2, p2, _, j2⟩ := Qep j1 b1 (m := 4) (by decide) (by decide)
   simp only [Option.bind_some, cond_true, p2]
   exact ⟨v, r2, b2, rfl, j2⟩
 obtain ⟨k, v, f, d, cs, b, how, n, yes, r3, b3, p3, w1, w2, y1, y2, y3, j3⟩ : ∃ k v f d cs b how n yes r3 b3, Qb.d mx (r2, b2, kd, tn, [], [], 0, 0, 0, [], 0, 0, false) = some (r3, b3, kd, tn, k, v, f, d, cs, b, how, n, yes) ∧
   (0 ≤ f ∧ f ≤ 4294967295) ∧ (0 ≤ cs ∧ cs ≤ 18446744073709551615) ∧ QV k ∧ QV v ∧ QV b ∧ Rd r3 := by
  have z : (0 ≤ (0 : Int) ∧ (0 : Int) ≤ 4294967295) ∧ (0 ≤ (0 : Int) ∧ (0 : Int) ≤ 18446744073709551615) := by decide
  simp only [Qb.d, ieq]
  by_cases k1 : kd = 1
  ·rw [decide_eq_true k1]
   obtain ⟨s1, q1, c1, e1, i1, l1⟩ := Qgw j2 b2
   obtain ⟨s2, q2, c2, e2, i2, l2⟩ := Qgw l1 c1
   obtain ⟨v3, q3, c3, e3, i3, l3⟩ := Qep l2 c2 (m := 4294967295) (by decide) (by decide)
   obtain ⟨v4, q4, c4, e4, i4, l4⟩ := Qep l3 c3 (m := 1099511627776) (by decide) (by decide)
   obtain ⟨v5, q5, c5, e5, i5, l5⟩ := QjL l4 c4
   simp only [cond_true, e1, e2, e3, e4, e5, Option.bind_some]
   exact ⟨_, _, _, _, _, _, _, _, _, _, _, rfl, by rw [wu32 i3.1 i3.2]; exact i3, i5, i1.1, i2.1, hE, l5⟩
  rw [decide_eq_false k1]
  by_cases k2 : kd = 2
  ·rw [decide_eq_true k2]
   obtain ⟨s1, q1, c1, e1, i1, l1⟩ := Qgw j2 b2
   obtain ⟨v2, q2, c2, e2, l2⟩ := Qgz l1 c1
   simp only [cond_true, cond_false, e1, e2, Option.bind_some]
   exact ⟨_, _, _, _, _, _, _, _, _, _, _, rfl, z.1, z.2, hE, hE, i1.1, l2⟩
  rw [decide_eq_false k2]
  obtain ⟨B, hB⟩ : ∃ B, Qb.c mx (r2, b2, kd, tn, [], [], 0, 0, 0, [], 0, 0, false) = some B := by
   simp only [Qb.c]
   cases (kd == (4 : Int)) <;> cases (kd == (5 : Int)) <;> cases (kd == (6 : Int)) <;> exact ⟨_, rfl⟩
  simp only [cond_false, hB, Option.bind_some]
  cases B with
  | false => exact ⟨_, _, _, _, _, _, _, _, _, _, _, rfl, z.1, z.2, hE, hE, hE, j2⟩
  | true =>
   obtain ⟨v1, q1, c1, e1, i1, l1⟩ := Qep j2 b2 (m := 1099511627776) (by decide) (by decide)
   simp only [cond_true, e1, Option.bind_some]
   exact ⟨_, _, _, _, _, _, _, _, _, _, _, rfl, z.1, z.2, hE, hE, hE, l1⟩
 obtain ⟨yes', r4, b4, p4, j4⟩ : ∃ yes' r4 b4, Qb.e mx (r3, b3, kd, tn, k, v, f, d, cs, b, how, n, yes) = some (r4, b4, kd, tn, k, v, f, d, cs, b, how, n, yes') ∧ Rd r4 := by
  simp only [Qb.e, ieq]
  by_cases k6 : kd = 6
  ·rw [decide_eq_true k6]
   obtain ⟨v1, q1, c1, e1, l1⟩ := Qgz j3 b3
   simp only [cond_true, e1, Option.bind_some]
   exact ⟨_, _, _, rfl, l1⟩
  ·rw [decide_eq_false k6]; exact ⟨_, _, _, rfl, j3⟩
 refine ⟨(kd, tn, (k, v, f, d, cs), b, how, n, yes'), r4, b4, ?_, ⟨w1, w2⟩, ⟨y1, y2, y3⟩, j4⟩
 simp only [Qb, p1, p2, p3, p4, Option.bind_some]
 rfl
theorem Qre {c : Chg} (hc : chOk c) (hw : wfC c) {rest : List Int} (hr : Rd (putB c ++ rest)) : Qb mx (putB c ++ rest, false) = some (QjP c rest false) := by
 obtain ⟨kd, t, ⟨k, v, f, d, cs⟩, b, how, n, yes⟩ := c
 obtain ⟨⟨w1, w2⟩, w3, w4⟩ := hw
 obtain ⟨⟨t1, t2⟩, hc⟩ := hc
 dsimp only at w1 w2 w3 w4 t1 t2 hc
 rcases hc with h | h | h | h | h | h | h
 ·obtain ⟨rfl, ⟨⟨h1, h2⟩, h3, h4, h5⟩, rfl, rfl, rfl, rfl⟩ := h
  have e0 : putB (1, t, (k, v, f, d, cs), [], 0, 0, false) ++ rest = 1 :: (sm t.toNat ++ (txt k ++ (txt v ++ (sm f.toNat ++ (sm d.toNat ++ (sm cs.toNat ++ rest)))))) := by
   simp only [putB, reduceIte, List.append_assoc, List.singleton_append, List.cons_append, List.nil_append]
  rw [e0] at hr ⊢
  have g0 : Rd (sm t.toNat ++ (txt k ++ (txt v ++ (sm f.toNat ++ (sm d.toNat ++ (sm cs.toNat ++ rest)))))) := (show Rd ([1] ++ _) from hr).right
  have g1 := g0.right
  have g2 : Rd (txt v ++ (sm f.toNat ++ (sm d.toNat ++ (sm cs.toNat ++ rest)))) := g1.right
  have g3 : Rd (sm f.toNat ++ (sm d.toNat ++ (sm cs.toNat ++ rest))) := g2.right
  have g4 := g3.right
  have g5 := g4.right
  have g6 := g5.right
  have p1 := Qbg 1 (sm t.toNat ++ (txt k ++ (txt v ++ (sm f.toNat ++ (sm d.toNat ++ (sm cs.toNat ++ rest)))))) false
  have p2 := QbC t1 g1 false (m := 4) (by omega) (by decide)
  have p3 := Qiv (s := k) (rest := txt v ++ (sm f.toNat ++ (sm d.toNat ++ (sm cs.toNat ++ rest)))) (by
   have := g1
   unfold txt at this ⊢
   rw [List.append_assoc] at this
   exact this.right) g1.2 false
  have p4 := Qiv (s := v) (rest := sm f.toNat ++ (sm d.toNat ++ (sm cs.toNat ++ rest))) (by
   have := g2
   unfold txt at this
   rw [List.append_assoc] at this
   exact this.right) g2.2 false
  have p5 := QbC w1 g4 false (m := 4294967295) w2 (by decide)
  have p6 := QbC h4 g5 false (m := 1099511627776) h5 (by decide)
  have p7 := Qlw (n := cs.toNat) (by omega) g6 false
  rw [show ((cs.toNat : Nat) : Int) = cs by omega] at p7
  have s1 : Qb.a mx (1, sm t.toNat ++ (txt k ++ (txt v ++ (sm f.toNat ++ (sm d.toNat ++ (sm cs.toNat ++ rest))))), false) = some true := rfl
  have e6 : ((1 : Int) == 6) = false := rfl
  simp only [Qb, p1, Option.bind_some, Qb.b, s1, cond_true, p2, Qb.d, beq_self_eq_true, p3, p4, p5, p6, p7, Qb.e, e6, cond_false]
  rw [wu32 w1 w2]; rfl
 ·obtain ⟨rfl, ⟨⟨h1, h2⟩, h3⟩, ⟨z1, z2, z3, z4, z5⟩, rfl, rfl⟩ := h
  dsimp only at z1 z2 z3 z4 z5
  subst z1 z2 z3 z4 z5
  have e0 : putB (2, t, ([], [], 0, 0, 0), b, how, 0, false) ++ rest = 2 :: (sm t.toNat ++ (txt b ++ (how :: rest))) := by
   simp only [putB, reduceIte, Int.reduceEq, List.append_assoc, List.singleton_append, List.cons_append, List.nil_append]
  rw [e0] at hr ⊢
  have g0 : Rd (sm t.toNat ++ (txt b ++ (how :: rest))) := (show Rd ([2] ++ _) from hr).right
  have g1 := g0.right
  have p1 := Qbg 2 (sm t.toNat ++ (txt b ++ (how :: rest))) false
  have p2 := QbC t1 g1 false (m := 4) (by omega) (by decide)
  have p3 := Qiv (s := b) (rest := how :: rest) (by
   have := g1
   unfold txt at this
   rw [List.append_assoc] at this
   exact this.right) g1.2 false
  have p4 := Qbg how rest false
  have s1 : Qb.a mx (2, sm t.toNat ++ (txt b ++ (how :: rest)), false) = some true := rfl
  have e1 : ((2 : Int) == 1) = false := rfl
  have e6 : ((2 : Int) == 6) = false := rfl
  simp only [Qb, p1, Option.bind_some, Qb.b, s1, cond_true, p2, Qb.d, e1, cond_false, beq_self_eq_true, p3, p4, Qb.e, e6]
  rfl
 ·obtain ⟨rfl, ⟨z1, z2, z3, z4, z5⟩, rfl, rfl, rfl, rfl⟩ := h
  dsimp only at z1 z2 z3 z4 z5
  subst z1 z2 z3 z4 z5
  have e0 : putB (3, t, ([], [], 0, 0, 0), [], 0, 0, false) ++ rest = 3 :: (sm t.toNat ++ rest) := by
   simp only [putB, reduceIte, Int.reduceEq, List.append_assoc, List.singleton_append, List.cons_append, List.nil_append]
  rw [e0] at hr ⊢
  have g0 : Rd (sm t.toNat ++ rest) := (show Rd ([3] ++ _) from hr).right
  have g1 := g0.right
  have p1 := Qbg 3 (sm t.toNat ++ rest) false
  have p2 := QbC t1 g1 false (m := 4) (by omega) (by decide)
  have s1 : Qb.a mx (3, sm t.toNat ++ rest, false) = some true := rfl
  have e1 : ((3 : Int) == 1) = false := rfl
  have e2 : ((3 : Int) == 2) = false := rfl
  have e6 : ((3 : Int) == 6) = false := rfl
  have s2 : Qb.c mx (rest, false, 3, t, [], [], 0, 0, 0, [], 0, 0, false) = some false := rfl
  simp only [Qb, p1, Option.bind_some, Qb.b, s1, cond_true, p2, Qb.d, e1, e2, cond_false, s2, Qb.e, e6]
  rfl
 ·obtain ⟨rfl, ⟨h1, h2⟩, rfl, ⟨z1, z2, z3, z4, z5⟩, rfl, rfl, rfl⟩ := h
  dsimp only at z1 z2 z3 z4 z5
  subst z1 z2 z3 z4 z5
  have e0 : putB (4, 0, ([], [], 0, 0, 0), [], 0, n, false) ++ rest = 4 :: (sm n.toNat ++ rest) := by
   simp only [putB, reduceIte, Int.reduceEq, List.append_assoc, List.singleton_append, List.cons_append, List.nil_append]
  rw [e0] at hr ⊢
  have g0 : Rd (sm n.toNat ++ rest) := (show Rd ([4] ++ _) from hr).right
  have g1 := g0.right
  have p1 := Qbg 4 (sm n.toNat ++ rest) false
  have p2 := QbC h1 g1 false (m := 1099511627776) (by omega) (by decide)
  have s1 : Qb.a mx (4, sm n.toNat ++ rest, false) = some false := rfl
  have e1 : ((4 : Int) == 1) = false := rfl
  have e2 : ((4 : Int) == 2) = false := rfl
  have e6 : ((4 : Int) == 6) = false := rfl
  have s2 : Qb.c mx (sm n.toNat ++ rest, false, 4, 0, [], [], 0, 0, 0, [], 0, 0, false) = some true := rfl
  simp only [Qb, p1, Option.bind_some, Qb.b, s1, cond_false, p2, Qb.d, e1, e2, s2, cond_true, Qb.e, e6]
  rfl
 ·obtain ⟨rfl, ⟨h1, h2⟩, ⟨z1, z2, z3, z4, z5⟩, rfl, rfl, rfl⟩ := h
  dsimp only at z1 z2 z3 z4 z5
  subst z1 z2 z3 z4 z5
  have e0 : putB (5, t, ([], [], 0, 0, 0), [], 0, n, false) ++ rest = 5 :: (sm t.toNat ++ (sm n.toNat ++ rest)) := by
   simp only [putB, reduceIte, Int.reduceEq, List.append_assoc, List.singleton_append, List.cons_append, List.nil_append]
  rw [e0] at hr ⊢
  have g0 : Rd (sm t.toNat ++ (sm n.toNat ++ rest)) := (show Rd ([5] ++ _) from hr).right
  have g1 := g0.right
  have g2 := g1.right
  have p1 := Qbg 5 (sm t.toNat ++ (sm n.toNat ++ rest)) false
  have p2 := QbC t1 g1 false (m := 4) (by omega) (by decide)
  have p3 := QbC h1 g2 false (m := 1099511627776) (by omega) (by decide)
  have s1 : Qb.a mx (5, sm t.toNat ++ (sm n.toNat ++ rest), false) = some true := rfl
  have e1 : ((5 : Int) == 1) = false := rfl
  have e2 : ((5 : Int) == 2) = false := rfl
  have e6 : ((5 : Int) == 6) = false := rfl
  have s2 : Qb.c mx (sm n.toNat ++ rest, false, 5, t, [], [], 0, 0, 0, [], 0, 0, false) = some true := rfl
  simp only [Qb, p1, Option.bind_some, Qb.b, s1, cond_true, p2, Qb.d, e1, e2, cond_false, s2, p3, Qb.e, e6]
  rfl
 ·obtain ⟨rfl, ⟨h1, h2⟩, rfl, ⟨z1, z2, z3, z4, z5⟩, rfl, rfl⟩ := h
  dsimp only at z1 z2 z3 z4 z5
  subst z1 z2 z3 z4 z5
  have e0 : putB (6, 0, ([], [], 0, 0, 0), [], 0, n, yes) ++ rest = 6 :: (sm n.toNat ++ ((if yes then 1 else 0) :: rest)) := by
   simp only [putB, reduceIte, Int.reduceEq, List.append_assoc, List.singleton_append, List.cons_append, List.nil_append]
  rw [e0] at hr ⊢
  have g0 : Rd (sm n.toNat ++ ((if yes then 1 else 0) :: rest)) := (show Rd ([6] ++ _) from hr).right
  have g1 := g0.right
  have p1 := Qbg 6 (sm n.toNat ++ ((if yes then 1 else 0) :: rest)) false
  have p2 := QbC h1 g1 false (m := 1099511627776) (by omega) (by decide)
  have p3 := Qbg (if yes then 1 else 0) rest false
  have s1 : Qb.a mx (6, sm n.toNat ++ ((if yes then 1 else 0) :: rest), false) = some false := rfl
  have e1 : ((6 : Int) == 1) = false := rfl
  have e2 : ((6 : Int) == 2) = false := rfl
  have s2 : Qb.c mx (sm n.toNat ++ ((if yes then 1 else 0) :: rest), false, 6, 0, [], [], 0, 0, 0, [], 0, 0, false) = some true := rfl
  have hb : ((if yes then (1 : Int) else 0) == 1) = yes := by cases yes <;> rfl
  simp only [Qb, p1, Option.bind_some, Qb.b, s1, cond_false, p2, Qb.d, e1, e2, s2, cond_true, Qb.e, beq_self_eq_true, p3, hb]
  rfl
 ·obtain ⟨rfl, ⟨h1, h2⟩, rfl, ⟨z1, z2, z3, z4, z5⟩, rfl, rfl, rfl⟩ := h
  dsimp only at z1 z2 z3 z4 z5
  subst z1 z2 z3 z4 z5
  have e0 : putB (7, 0, ([], [], 0, 0, 0), [], 0, n, false) ++ rest = 7 :: (sm n.toNat ++ rest) := by
   simp only [putB, reduceIte, Int.reduceEq, List.append_assoc, List.singleton_append, List.cons_append, List.nil_append]
  rw [e0] at hr ⊢
  have g0 : Rd (sm n.toNat ++ rest) := (show Rd ([7] ++ _) from hr).right
  have g1 := g0.right
  have p1 := Qbg 7 (sm n.toNat ++ rest) false
  have p2 := QbC h1 g1 false (m := 1099511627776) (by omega) (by decide)
  have s1 : Qb.a mx (7, sm n.toNat ++ rest, false) = some false := rfl
  have e1 : ((7 : Int) == 1) = false := rfl
  have e2 : ((7 : Int) == 2) = false := rfl
  have e6 : ((7 : Int) == 6) = false := rfl
  have s2 : Qb.c mx (sm n.toNat ++ rest, false, 7, 0, [], [], 0, 0, 0, [], 0, 0, false) = some true := rfl
  simp only [Qb, p1, Option.bind_some, Qb.b, s1, cond_false, p2, Qb.d, e1, e2, s2, cond_true, Qb.e, e6]
  rfl
def IsCh (a : List Int) (cs : List Chg) : Prop := VX cs = 0 ∧ Ji cs = a ∧ (∀ c ∈ cs, wfC c ∧ Qb7 c)
theorem Qqy {a : List Int} (ha : QV a) : ∃ y, Qx mx a = some y ∧ ((y.1 = [] ∧ y.2 = 8) ∨ (65536 < a.length ∧ y = ([], 3)) ∨ (y.2 = 0 ∧ IsCh a y.1)) := by
 by_cases hl : 65536 < a.length
 ·refine ⟨([], 3), ?_, .inr (.inl ⟨hl, rfl⟩)⟩
  simp only [Qx, decide_eq_true (show (65536 : Int) < (a.length : Int) by omega), cond_true]
 obtain ⟨cnt, r1, b1, p1, i1, j1⟩ := Qep (a := a) ⟨ha, by omega⟩ false (m := 4096) (by decide) (by decide)
 obtain ⟨r, hr, hQ⟩ := V9 (f := Qx.a mx (cnt, r1, b1)) (fun s => ∃ (k : Nat) (l : List Chg) (rest : List Int) (b : Bool), s = (l, (k : Int), rest, b) ∧ l.length = k ∧ k ≤ 4096 ∧ Rd rest ∧ ∀ c ∈ l, wfC c ∧ Qb7 c) (fun s => 4096 - s.2.1.toNat)
  (fun r => r = .inl 8 ∨ ∃ l rest b, r = .inr (l, rest, b) ∧ ∀ c ∈ l, wfC c ∧ Qb7 c) (([] : List Chg), (0 : Int), r1, b1) ⟨0, [], r1, b1, rfl, rfl, by omega, j1, fun c hc => by cases hc⟩ (Z7 (by dsimp only; omega)) (fun s ⟨k, l, rest, b, es, hk, hk2, hrd, hw⟩ => by
   subst es
   by_cases h : (k : Int) < cnt
   ·obtain ⟨c, rest', b', p2, q1, q2, q3⟩ := QqM hrd b
    have c1 : Nat.ble (l.length + 1) 4294967296 = true := ZQ (by omega)
    have hst : Qx.a mx (cnt, r1, b1) (l, (k : Int), rest, b) = some (bif b' then .fin (.inl 8) else .next (l ++ [c], ((k + 1 : Nat) : Int), rest', b')) := by
     simp only [Qx.a, decide_eq_true h, cond_true, p2, Option.bind_some, QjP, List.length_singleton, c1]
     rw [Z8 (by omega)]
     cases b' <;> rfl
    rw [hst]
    cases b' with
    | true => exact .inr ⟨_, rfl, .inl rfl⟩
    | false =>
     refine .inl ⟨_, rfl, ⟨k + 1, l ++ [c], rest', false, rfl, by simp [hk], by omega, q3, fun x hx => ?_⟩, by dsimp only; omega⟩
     rcases List.mem_append.1 hx with hx | hx
     ·exact hw x hx
     ·rw [List.mem_singleton] at hx; subst hx; exact ⟨q1, q2⟩
   ·refine .inr ⟨.inr (l, rest, b), ?_, .inr ⟨l, rest, b, rfl, hw⟩⟩
    simp only [Qx.a, decide_eq_false h, cond_false])
 simp only [Qx, decide_eq_false (show ¬ (65536 : Int) < (a.length : Int) by omega), cond_false, p1, Option.bind_some, hr]
 rcases hQ with rfl | ⟨l, rest, b, rfl, hw⟩
 ·exact ⟨([], 8), rfl, .inl ⟨rfl, rfl⟩⟩
 ·simp only [Qdl (fun c hc => (hw c hc).1), Option.bind_some, Qem, Vf]
  cases b with
  | true => exact ⟨([], 8), rfl, .inl ⟨rfl, rfl⟩⟩
  | false =>
   by_cases g1 : VX l = 0
   case neg => rw [decide_eq_false g1]; exact ⟨([], 8), rfl, .inl ⟨rfl, rfl⟩⟩
   simp only [if_pos g1]
   by_cases g2 : Ji l = a
   ·rw [decide_eq_true g1, decide_eq_true g2]; exact ⟨(l, 0), rfl, .inr (.inr ⟨rfl, g1, g2, hw⟩)⟩
   ·rw [decide_eq_true g1, decide_eq_false g2]; exact ⟨([], 8), rfl, .inl ⟨rfl, rfl⟩⟩
theorem Qc7 (c : Chg) (l : List Chg) : Z3 (c :: l) = putB c ++ Z3 l := rfl
theorem QpN {cs : List Chg} {a : List Int} (h : IsCh a cs) (ha : QV a) : Qx mx a = some (cs, 0) := by
 obtain ⟨h1, h2, hw⟩ := h
 obtain ⟨h3, h4, h5⟩ := VJ.1 h1
 have hl : a.length ≤ 65536 := by rw [← h2]; exact h5
 have e0 : a = sm cs.length ++ (Z3 cs ++ []) := by rw [← h2, List.append_nil]; rfl
 have hR : Rd a := ⟨ha, by omega⟩
 rw [e0] at hR
 have g1 := hR.right
 have p1 := QbC (n := (cs.length : Int)) (by omega) g1 false (m := 4096) (by omega) (by decide)
 rw [Int.toNat_natCast, ← e0] at p1
 have hd : ∀ i, i ≤ cs.length → Rd (Z3 (cs.drop i) ++ []) := fun i => by
  induction i with
  | zero => intro _; exact g1
  | succ i ih =>
   intro hi
   have := ih (by omega)
   rw [List.drop_eq_getElem_cons (show i < cs.length by omega), Qc7, List.append_assoc] at this
   exact this.right
 have hloop := QL (f := Qx.a mx ((cs.length : Int), Z3 cs ++ [], false)) (fun i => (cs.take i, (i : Int), Z3 (cs.drop i) ++ [], false)) cs.length (r := .inr (cs, [], false)) (Z7 (by omega)) (fun i hi => by
  have hn := hd i (by omega)
  have e1 : Z3 (cs.drop i) ++ [] = putB cs[i] ++ (Z3 (cs.drop (i + 1)) ++ []) := by rw [List.drop_eq_getElem_cons hi, Qc7, List.append_assoc]
  rw [e1] at hn ⊢
  have p2 := Qre (h4 _ (List.getElem_mem hi)) (hw _ (List.getElem_mem hi)).1 hn
  have c1 : Nat.ble ((cs.take i).length + 1) 4294967296 = true := ZQ (by rw [List.length_take]; omega)
  simp only [Qx.a, ltd hi, cond_true, p2, Option.bind_some, QjP, List.length_singleton, c1, cond_false]
  rw [Z8 (by omega), QH hi C0, getD_some hi]) (by
  simp only [Qx.a, nltd, cond_false, List.take_length]
  rw [List.drop_eq_nil_of_le (Nat.le_refl _)]; rfl)
 have hloop : iter mx (Qx.a mx ((cs.length : Int), Z3 cs ++ [], false)) (([] : List Chg), (0 : Int), Z3 cs ++ [], false) = _ := hloop
 simp only [Qx, decide_eq_false (show ¬ (65536 : Int) < (a.length : Int) by omega), cond_false, p1, Option.bind_some, hloop, Qdl (fun c hc => (hw c hc).1), h1, if_pos, Qem, h2, decide_true, bne_self_eq_false, Bool.not_true]
theorem Qeg {a : List Int} (ha : QV a) {c d : List Chg} (h1 : IsCh a c) (h2 : IsCh a d) : c = d := by
 have := QpN h1 ha
 rw [QpN h2 ha] at this
 exact (Prod.ext_iff.1 (Option.some.inj this)).1.symm
end Go.Proofs.YtpfjjbpoikgocaaGreat
namespace Go.Proofs.YtpfjjbpoikgocaaGreat
open Go.Abs
set_option maxRecDepth 100000
theorem Qkx {n : Nat} (h : 1 ≤ n) (h2 : n ≤ 1000000) : Zq mx (n : Int) = some (((n - 1) / 2 : Nat) : Int) := by
 simp only [Zq]
 rw [w64 (n := (n : Int) - 1) (by omega) (by omega), show (n : Int) - 1 = ((n - 1 : Nat) : Int) by omega, show (2 : Int) = ((2 : Nat) : Int) from rfl, VZ, w64 (by omega) (by omega)]
def Jv (g a : Int) : List Int := le4 g ++ (a :: List.replicate 59 0)
theorem Qhx (g a : Int) : (Jv g a).length = 64 := by simp [Jv, le4]
theorem Qfe {g a : Int} (ha : Qcv a) : QA (Jv g a) := by
 refine VF (QcM g) fun x hx => ?_
 rcases List.mem_cons.1 hx with rfl | hx
 ·exact ha
 ·rw [(List.mem_replicate.1 hx).2]; exact ⟨by decide, by decide⟩
theorem Qio {g a : Int} (hg : Z6 g) (ha : Qcv a) : Qu mx (g, a) = some (0, Jv g a) := by
 have st : ∀ (i : Nat) (l : List Int), i ≤ 3 → i < l.length → Qu.a mx g ((i : Int), l) = some (.next (((i + 1 : Nat) : Int), l.set i (bAt g i))) := fun i l hi hl => by
  have h1 : decide ((i : Int) < 4) = true := decide_eq_true (by omega)
  have h2 : IntKind.i64.wrap ((8 : Int) * (i : Int)) = ((8 * i : Nat) : Int) := by rw [w64 (by omega) (by omega)]; omega
  have h3 := Qlf hg.1 hi
  rw [h2] at h3
  simp only [Qu.a, h1, cond_true, h2, decide_eq_false (show ¬ ((8 * i : Nat) : Int) < 0 by omega), cond_false, lez, ltd hl, Bool.and_self, Int.toNat_natCast, Qas hl, h3]
  rw [Z8 (by omega)]
 obtain ⟨N, hN⟩ : ∃ N, N0 = N + 5 := ⟨N0 - 5, by unfold N0; omega⟩
 have key : iter mx (Qu.a mx g) ((0 : Int), (List.replicate 64 0)) = some (bAt g 0 :: bAt g 1 :: bAt g 2 :: bAt g 3 :: List.replicate 60 0) := by
  rw [show iter mx (Qu.a mx g) ((0 : Int), (List.replicate 64 0)) = QaG (Qu.a mx g) N0 ((0 : Int), (List.replicate 64 0)) from rfl, hN]
  have h0 := st 0 (List.replicate 64 0) (by decide) (by simp)
  have h1 := st 1 ((List.replicate 64 0).set 0 (bAt g 0)) (by decide) (by simp)
  have h2 := st 2 (((List.replicate 64 0).set 0 (bAt g 0)).set 1 (bAt g 1)) (by decide) (by simp)
  have h3 := st 3 ((((List.replicate 64 0).set 0 (bAt g 0)).set 1 (bAt g 1)).set 2 (bAt g 2)) (by decide) (by simp)
  exact (Jl h0).trans ((Jl h1).trans ((Jl h2).trans ((Jl h3).trans (Jr rfl))))
 simp only [Qu, key, Option.bind_some]
 have h4 : IntKind.u8.wrap a = a := wu8 ha.1 ha.2
 rw [h4]
 rfl
theorem Qh1 {l : List Blk} {f : Nat} (more : List Put) (hl : l.length ≤ 1000000) (hm : more.length ≤ 1000000) (hf : f ≤ 1000000) : Zy mx (l, (f : Int), more) = some (Ze l f ++ more) := by
 have := QL (f := Zy.a mx l (f : Int) (l.length : Int)) (fun i => ((Ze l f).take i, (i : Int))) l.length (r := Ze l f) (Z7 (by omega)) (fun i hi => by
  have e1 : IntKind.i64.wrap ((f : Int) + (i : Int)) = ((f + i : Nat) : Int) := by rw [w64 (by omega) (by omega)]; omega
  have hp := ZT l f
  have c1 : Nat.ble (((Ze l f).take i).length + 1) 4294967296 = true := ZQ (by rw [List.length_take]; omega)
  simp only [Zy.a, ltd hi, lez, Bool.and_self, cond_true, Int.toNat_natCast, e1, List.length_singleton, c1]
  rw [Z8 (by omega), QH (l := Ze l f) (by omega) (0, []), QbV hi])
  (by
   have : (Ze l f).take l.length = Ze l f := by rw [← ZT l f, List.take_length]
   simp only [Zy.a, nltd, cond_false, this])
 have this : iter mx (Zy.a mx l (f : Int) (l.length : Int)) (([] : List (Int × List Int)), (0 : Int)) = _ := this
 have c1 : Nat.ble ((Ze l f).length + more.length) 4294967296 = true := ZQ (by rw [ZT]; omega)
 simp only [Zy, this, Option.bind_some, c1, cond_true]
theorem QpL {v w : Img} {c : Chg} (ho : oneS v c = .inr w) : ∀ k ∈ w.2.2.1, k ∈ v.2.2.1 ∨ k = (c.2.1, c.2.2.1) := by
 unfold oneS at ho
 repeat' split at ho
 all_goals (first | (cases ho; intro k hk; exact .inl (QcL.1 hk).1) | (cases ho; intro k hk; exact .inl hk) | (cases ho; intro k hk; exact (List.mem_append.1 hk).elim (fun h => .inl (QcL.1 h).1) (fun h => .inr (List.mem_singleton.1 h))) | cases ho)
theorem QgE {P : Kept → Prop} : ∀ {cs : List Chg} {v w : Img}, (∀ k ∈ v.2.2.1, P k) → (∀ c ∈ cs, P (c.2.1, c.2.2.1)) → VU v cs = .inr w → ∀ k ∈ w.2.2.1, P k
 | [], _, _, h, _, e => by cases e; exact h
 | c :: cs, v, w, h, hc, e => by
  rw [VU] at e
  cases ho : oneS v c with
  | inl e2 => rw [ho] at e; cases e
  | inr u =>
   rw [ho] at e
   refine QgE (cs := cs) (fun k hk => ?_) (fun x hx => hc x (by simp [hx])) e
   rcases QpL ho k hk with hk | rfl
   ·exact h k hk
   ·exact hc c (by simp)
theorem Qo3 {cs : List Chg} {v w : Img} (hv : okI v) (hwv : wfIm v) (h0 : VX cs = 0) (hw : ∀ c ∈ cs, wfC c ∧ Qb7 c) (ha : VU v cs = .inr w) : okI w ∧ wfIm w := by
 have hok := Qes hv (VJ.1 h0).2.1 ha
 refine ⟨hok, fun k hk => ⟨QbO hok k hk, ?_⟩, fun k hk => ?_⟩
 ·exact QgE (P := fun k => QV k.2.1 ∧ QV k.2.2.1) (fun k hk => (hwv.1 k hk).2) (fun c hc => ⟨(hw c hc).2.1, (hw c hc).2.2.1⟩) ha k hk
 ·exact QgE (P := wfK) (fun k hk => hwv.2 k hk) (fun c hc => ⟨(hw c hc).1.1, (hw c hc).1.2⟩) ha k hk
inductive Recs : Img → List (List Int) → Img → Prop
 | nil (v : Img) : Recs v [] v
 | cons {v w u : Img} {r : List Int} {rs : List (List Int)} {cs : List Chg} (hc : IsCh r cs) (ha : VU v cs = .inr w) (h : Recs w rs u) : Recs v (r :: rs) u
theorem Recs.uniq {v w w' : Img} {rs : List (List Int)} (hb : ∀ r ∈ rs, QV r) (h : Recs v rs w) (h' : Recs v rs w') : w = w' := by
 induction h with
 | nil v => cases h'; rfl
 | cons hc ha h ih =>
  cases h' with
  | cons hc' ha' h' =>
   have := Qeg (hb _ (by simp)) hc hc'
   subst this
   rw [ha] at ha'
   cases ha'
   exact ih (fun r hr => hb r (by simp [hr])) h'
theorem Recs.snoc {v w u : Img} {rs : List (List Int)} (h : Recs v rs w) {r : List Int} {cs : List Chg} (hc : IsCh r cs) (ha : VU w cs = .inr u) : Recs v (rs ++ [r]) u := by
 induction h with
 | nil v => exact .cons hc ha (.nil _)
 | cons hc' ha' h ih => exact .cons hc' ha' (ih ha)
theorem Recs.ok {v w : Img} {rs : List (List Int)} (h : Recs v rs w) : okI v → wfIm v → okI w ∧ wfIm w := by
 induction h with
 | nil v => exact fun a b => ⟨a, b⟩
 | cons hc ha h ih => exact fun a b => have := Qo3 a b hc.1 hc.2.2 ha; ih this.1 this.2
def Qbp (rs : List (List Int)) (v : Img) : Prop := ∃ r0 rest v0, rs = r0 :: rest ∧ Q6 v0 = (r0, 0) ∧ wfIm v0 ∧ Recs v0 rest v
theorem Qi3 {rs : List (List Int)} (hb : ∀ r ∈ rs, QV r) {v w : Img} (h : Qbp rs v) (h' : Qbp rs w) : v = w := by
 obtain ⟨r0, rest, v0, rfl, a2, a3, a4⟩ := h
 obtain ⟨s0, rest', w0, e, b2, b3, b4⟩ := h'
 cases e
 have := QfJ a2 b2 (hb _ (by simp)) a3.2 b3.2
 subst this
 exact a4.uniq (fun r hr => hb r (by simp [hr])) b4
theorem QeH {rs : List (List Int)} {v : Img} (h : Qbp rs v) : okI v ∧ wfIm v := by
 obtain ⟨r0, rest, v0, rfl, a2, a3, a4⟩ := h
 exact a4.ok (Qaw a2).1 a3
theorem Qi4 {rs : List (List Int)} {v w : Img} (h : Qbp rs v) {r : List Int} {cs : List Chg} (hc : IsCh r cs) (ha : VU v cs = .inr w) : Qbp (rs ++ [r]) w := by
 obtain ⟨r0, rest, v0, rfl, a2, a3, a4⟩ := h
 exact ⟨r0, rest ++ [r], v0, rfl, a2, a3, a4.snoc hc ha⟩
theorem Qi2 {xs : List (List Int)} (hx : ∀ r ∈ xs, QV r) (hl : xs.length ≤ 1000000) (d : List Int) (g a h : Int) (rs : List (List Int)) (bl la gr : Int) :
  ∀ (rest : List (List Int)) (i : Nat) (v : Img) (fuel : Nat), xs.drop i = rest → i ≤ xs.length → okI v → rest.length < fuel →
  (∃ w, Recs v rest w ∧ QaG (Qf.a mx xs (xs.length : Int)) fuel ((i : Int), d, g, a, h, rs, bl, la, gr, v) = some (.inr (d, g, a, h, rs, bl, la, gr, w))) ∨
  ((¬ ∃ w, Recs v rest w) ∧ ∃ y, QaG (Qf.a mx xs (xs.length : Int)) fuel ((i : Int), d, g, a, h, rs, bl, la, gr, v) = some (.inl y) ∧ y.1 = false)
 | [], i, v, fuel, hd, hi, hv, hf => by
  obtain ⟨f, rfl⟩ : ∃ f, fuel = f + 1 := ⟨fuel - 1, by simp at hf; omega⟩
  have : i = xs.length := by
   have := congrArg List.length hd
   rw [List.length_drop] at this; simp at this; omega
  subst this
  exact .inl ⟨v, .nil v, Jr (by simp only [Qf.a, nltd, cond_false])⟩
 | r :: rest, i, v, fuel, hd, hi, hv, hf => by
  obtain ⟨f, rfl⟩ : ∃ f, fuel = f + 1 := ⟨fuel - 1, by simp at hf; omega⟩
  have hlt : i < xs.length := by
   have := congrArg List.length hd
   rw [List.length_drop] at this; simp at this; omega
  have hr : xs.getD i [] = r := by
   rw [getD_some hlt]
   have := List.drop_eq_getElem_cons hlt
   rw [hd] at this
   exact (List.cons.inj this).1.symm
  have hd' : xs.drop (i + 1) = rest := by
   have := List.drop_eq_getElem_cons hlt
   rw [hd] at this
   exact (List.cons.inj this).2.symm
  have hrb : QV r := by rw [← hr]; exact hx _ (Zt hlt)
  obtain ⟨y, h1, h2⟩ := Qqy hrb
  by_cases g1 : y.2 = 0
  case neg =>
   refine .inr ⟨?_, (false, d, g, a, h, rs, bl, la, gr, v), Jr ?_, rfl⟩
   ·rintro ⟨w, hw⟩
    cases hw with
    | cons hc ha hw =>
     rw [QpN hc hrb] at h1
     exact g1 (by rw [← Option.some.inj h1])
   ·simp only [Qf.a, ltd hlt, lez, Bool.and_self, cond_true, Int.toNat_natCast, hr, h1, Option.bind_some, bne_iff_ne.2 g1]
  have hI : IsCh r y.1 := by
   rcases h2 with ⟨_, h2⟩ | ⟨_, h2⟩ | ⟨_, h2⟩
   ·rw [h2] at g1; cases g1
   ·rw [h2] at g1; cases g1
   ·exact h2
  have hap := QlJ (QbO hv) (cs := y.1) (fun c hc => (hI.2.2 c hc).1)
  cases hal : VU v y.1 with
  | inl er =>
   have hne : (Qac v y.1).2.2.2.2.2.2 ≠ 0 := fun h => by
    obtain ⟨_, _, w, hw⟩ := QbE.1 h
    rw [hal] at hw; cases hw
   refine .inr ⟨?_, (false, d, g, a, h, rs, bl, la, gr, (Qac v y.1).1, (Qac v y.1).2.1, (Qac v y.1).2.2.1, (Qac v y.1).2.2.2.1, (Qac v y.1).2.2.2.2.1, (Qac v y.1).2.2.2.2.2.1), Jr ?_, rfl⟩
   ·rintro ⟨w, hw⟩
    cases hw with
    | cons hc ha hw =>
     have := Qeg hrb hc hI
     subst this
     rw [hal] at ha; cases ha
   ·simp only [Qf.a, ltd hlt, lez, Bool.and_self, cond_true, Int.toNat_natCast, hr, h1, Option.bind_some, g1, bne_self_eq_false, cond_false, hap, bne_iff_ne.2 hne]
  | inr w =>
   rw [QhJ hv hI.1 hal] at hap
   have hst : Qf.a mx xs (xs.length : Int) ((i : Int), d, g, a, h, rs, bl, la, gr, v) = some (.next (((i + 1 : Nat) : Int), d, g, a, h, rs, bl, la, gr, w)) := by
    simp only [Qf.a, ltd hlt, lez, Bool.and_self, cond_true, Int.toNat_natCast, hr, h1, Option.bind_some, g1, bne_self_eq_false, cond_false, hap, QdU]
    rw [Z8 (by omega)]
   rw [Jl hst]
   have hokw := Qes hv (VJ.1 hI.1).2.1 hal
   rcases Qi2 hx hl d g a h rs bl la gr rest (i + 1) w f hd' hlt hokw (by simp at hf; omega) with ⟨u, h3, h4⟩ | ⟨h3, y', h4, h5⟩
   ·exact .inl ⟨u, .cons hI hal h3, h4⟩
   ·refine .inr ⟨?_, y', h4, h5⟩
    rintro ⟨u, hu⟩
    cases hu with
    | cons hc ha hw =>
     have := Qeg hrb hc hI
     subst this
     rw [hal] at ha; cases ha
     exact h3 ⟨u, hw⟩
def ZR (d : List Int) : Nat := (d.length / 64 - 1) / 2
def ZG (d : List Int) (a : Int) : Nat := 1 + a.toNat * ZR d
def QaJ (d : List Int) (a : Int) : List Blk := blks d (ZG d a) (ZR d)
def logA (d : List Int) (g a : Int) : List (List Int) × Int × Int × Int := Ve g (QaJ d a)
theorem QaO {d : List Int} {a : Int} (ha : a = 0 ∨ a = 1) (h3 : 3 ≤ d.length / 64) : ZG d a + ZR d ≤ d.length / 64 ∧ ZG d a ≤ d.length / 64 ∧ 1 ≤ ZG d a := by
 unfold ZG ZR
 rcases ha with rfl | rfl
 ·simp only [show (0 : Int).toNat = 0 from rfl]; omega
 ·simp only [show (1 : Int).toNat = 1 from rfl]; omega
theorem Qa4 (d : List Int) (a : Int) : (QaJ d a).length = ZR d := Qbh _ _ _
theorem Qap {d : List Int} (hb : QA d) {a : Int} (ha : a = 0 ∨ a = 1) (h3 : 3 ≤ d.length / 64) : Jk (QaJ d a) := QgC hb (QaO ha h3).1
theorem Qim {d : List Int} (hd : d.length ≤ 262144) {a : Int} (ha : a = 0 ∨ a = 1) : Qh mx ((ZR d : Int), a) = some ((ZG d a : Nat) : Int) := by
 have hh : ZR d ≤ 4096 := by unfold ZR; omega
 simp only [Qh]
 unfold ZG
 rcases ha with rfl | rfl
 ·simp only [show (0 : Int).toNat = 0 from rfl]
  rw [w64 (n := 0 * (ZR d : Int)) (by omega) (by omega), w64 (by omega) (by omega)]; congr 1 <;> omega
 ·simp only [show (1 : Int).toNat = 1 from rfl]
  rw [w64 (n := 1 * (ZR d : Int)) (by omega) (by omega), w64 (by omega) (by omega)]; congr 1 <;> omega
theorem Qm0 {d : List Int} (hb : QA d) (hok : okD d) (h3 : 3 ≤ d.length / 64) {g a : Int} (hg : Z6 g) (hg0 : g ≠ 0) (ha : a = 0 ∨ a = 1) :
  Qz mx (d, g, ((ZG d a : Nat) : Int), ((ZR d : Nat) : Int)) = some ((logA d g a).1, (logA d g a).2.1, (logA d g a).2.2.1, (logA d g a).2.2.2, 0) := by
 rw [QpG hb hg]
 obtain ⟨h1, h2, _⟩ := QaO ha h3
 have hA : VH d ((ZG d a : Nat) : Int) ((ZR d : Nat) : Int) := ⟨by omega, by omega, by omega, by omega⟩
 unfold Ql1
 rw [if_pos hok, if_pos hA, if_neg hg0]
 rfl
theorem Qmf {d : List Int} (hb : QA d) (hok : okD d) (h3 : 3 ≤ d.length / 64) {a : Int} (ha : a = 0 ∨ a = 1) :
  Q9 mx (d, ((ZG d a : Nat) : Int), ((ZR d : Nat) : Int)) = some (Qaf (QaJ d a), 0) := by
 rw [QoR hb]
 obtain ⟨h1, h2, _⟩ := QaO ha h3
 have hA : VH d ((ZG d a : Nat) : Int) ((ZR d : Nat) : Int) := ⟨by omega, by omega, by omega, by omega⟩
 unfold Qhv
 rw [if_pos hok, if_pos hA]
 rfl
theorem Qow {d : List Int} (hb : QA d) (hok : okD d) (h3 : 3 ≤ d.length / 64) {g a : Int} (hg : Z6 g) (hg0 : g ≠ 0) (ha : a = 0 ∨ a = 1) (rs : List (List Int)) (bl la gr : Int) (v : Img) :
  (∃ w, Qbp (logA d g a).1 w ∧ Qf mx (d, g, a, ((ZR d : Nat) : Int), rs, bl, la, gr, v) = some (true, d, g, a, ((ZR d : Nat) : Int), (logA d g a).1, (logA d g a).2.1, (logA d g a).2.2.1, (logA d g a).2.2.2, w)) ∨
  ((¬ ∃ w, Qbp (logA d g a).1 w) ∧ ∃ y, Qf mx (d, g, a, ((ZR d : Nat) : Int), rs, bl, la, gr, v) = some y ∧ y.1 = false) := by
 have hfr := Qim (d := d) hok.2.1 ha
 have hrd := Qm0 hb hok h3 hg hg0 ha
 have hbt := Qga (g := g) (Qap hb ha h3)
 have hbt : ∀ r ∈ (logA d g a).1, QV r ∧ r.length ≤ 65536 := hbt
 obtain ⟨_, _, _, hL, _⟩ := Qjk (g := g) (Qap hb ha h3) (by rw [Qa4]; unfold ZR; have := hok.2.1; omega)
 have hL : (logA d g a).1.length ≤ 4096 := hL
 obtain ⟨t, q, l, ie, inn, ib⟩ := v
 simp only [Qf, hfr, Option.bind_some, hrd, bne_self_eq_false, cond_false]
 generalize logA d g a = L at hbt hL ⊢
 obtain ⟨Lr, Lb, Ll, Lg⟩ := L
 dsimp only at hbt hL ⊢
 cases Lr with
 | nil =>
  refine .inr ⟨fun ⟨w, r0, rest, v0, e, _⟩ => (by cases e), _, rfl, rfl⟩
 | cons r0 rest =>
  have hz : (((r0 :: rest).length : Int) == 0) = false := by simp; omega
  have hlt : decide ((0 : Int) < ((r0 :: rest).length : Int)) = true := by simp
  have hbl : Nat.blt 0 (r0 :: rest).length = true := Qas (by simp)
  have hrb := hbt r0 (by simp)
  simp only [hz, cond_false, hlt, hbl, cond_true, List.getD_cons_zero]
  obtain ⟨y, hy, hyt⟩ := QoE hrb.1 hrb.2
  rw [hy]
  rcases hyt with rfl | ⟨v0, rfl, hw0, hwr⟩
  ·refine .inr ⟨?_, _, rfl, rfl⟩
   rintro ⟨w, s0, rest', v0, e, h1, h2, h3⟩
   cases e
   have h := Qkj h1 hrb.1 h2.2
   rw [hy] at h
   have := congrArg (fun z : Option (Int × List Int × List Kept × Int × Int × Bool × Int) => z.map (·.2.2.2.2.2.2)) h
   cases this
  ·have h1 : decide ((1 : Int) ≤ ((r0 :: rest).length : Int)) = true := decide_eq_true (by rw [List.length_cons]; omega)
   have hle : decide (((r0 :: rest).length : Int) ≤ ((r0 :: rest).length : Int)) = true := by simp
   have hdr : ((r0 :: rest).take (((r0 :: rest).length : Int)).toNat).drop 1 = rest := by
    rw [Int.toNat_natCast, List.take_length]; rfl
   simp only [Option.bind_some, QdU, bne_self_eq_false, cond_false, h1, hle, Bool.and_self, cond_true, hdr]
   have hrl : rest.length ≤ 4096 := by simp at hL; omega
   rcases Qi2 (xs := rest) (fun r hr => (hbt r (by simp [hr])).1) (by omega) d g a ((ZR d : Nat) : Int) (r0 :: rest) Lb Ll Lg rest 0 v0 N0 rfl (Nat.zero_le _) (Qaw hwr).1 (Z7 (by omega)) with ⟨w, h3, h4⟩ | ⟨h3, y', h4, h5⟩
   ·have h4 : iter mx (Qf.a mx rest (rest.length : Int)) ((0 : Int), d, g, a, ((ZR d : Nat) : Int), (r0 :: rest), Lb, Ll, Lg, v0.1, v0.2.1, v0.2.2.1, v0.2.2.2.1, v0.2.2.2.2.1, v0.2.2.2.2.2) = _ := h4
    refine .inl ⟨w, ⟨r0, rest, v0, rfl, hwr, hw0, h3⟩, ?_⟩
    rw [h4]; rfl
   ·have h4 : iter mx (Qf.a mx rest (rest.length : Int)) ((0 : Int), d, g, a, ((ZR d : Nat) : Int), (r0 :: rest), Lb, Ll, Lg, v0.1, v0.2.1, v0.2.2.1, v0.2.2.2.1, v0.2.2.2.2.1, v0.2.2.2.2.2) = _ := h4
    refine .inr ⟨?_, y', ?_, h5⟩
    ·rintro ⟨w, s0, rest', v0', e, k1, k2, k3⟩
     cases e
     have := QfJ hwr k1 hrb.1 hw0.2 k2.2
     subst this
     exact h3 ⟨w, k3⟩
    ·rw [h4]; rfl
structure St (d : List Int) (g a : Int) (v : Img) : Prop where
 ok : okD d
 n3 : 3 ≤ d.length / 64
 gu : Z6 g
 g0 : g ≠ 0
 ar : a = 0 ∨ a = 1
 b0 : QB d 0 = Jv g a
 rc : Qbp (logA d g a).1 v
end Go.Proofs.YtpfjjbpoikgocaaGreat
namespace Go.Proofs.YtpfjjbpoikgocaaGreat
open Go.Abs
set_option maxRecDepth 100000
abbrev Sto := (List Int) × Int × Int × Int × (List (List Int)) × Int × Int × Int × Int × (List Int) × (List (Int × (List Int) × (List Int) × Int × Int × Int)) × Int × Int × Bool
def QeM {R : Type} (a0 : List Int) (E : Int → R) (K : Sto → Option R) : Option R :=
 (ZW mx a0).bind fun x1 =>
 (Qi.a mx x1).bind fun x3 =>
 match x3 with
 | .inl x4 => bif x4 != (0 : Int) then some (E x4) else none
 | .inr _ =>
  (Qi.b mx x1).bind fun x8 =>
  match x8 with
  | .inl x9 => bif x9 != (0 : Int) then some (E x9) else none
  | .inr _ =>
   (Z0 mx (a0, (0 : Int))).bind fun x12 =>
   (Qi.c mx x12).bind fun x14 =>
   match x14 with
   | .inl x15 => bif x15 != (0 : Int) then some (E x15) else none
   | .inr _ =>
    bif decide ((4 : Int) < (x12.1.length : Int)) then
     bif Nat.blt 4 x12.1.length then
      (Zq mx x1.1).bind fun x20 =>
      (iter mx (Qi.e mx x12) ((0 : Int), a0, (0 : Int), (IntKind.i64.wrap (x12.1.getD 4 0)), x20, (0 : Int), (0 : Int), (0 : Int), (0 : Int), (0 : Int), (0 : Int), false)).bind fun x32 =>
      bif x32.2.1 == (0 : Int) then some (E 230) else
      bif decide ((1 : Int) < x32.2.2.1) then some (E 230) else
      (Qu mx (x32.2.1, x32.2.2.1)).bind fun x35 =>
      (QK mx (x35.2, x12.1)).bind fun x36 =>
      bif !x36 then some (E 230) else
      (Qf mx (x32.1, x32.2.1, x32.2.2.1, x32.2.2.2.1, ([] : List (List Int)), x32.2.2.2.2.1, x32.2.2.2.2.2.1, x32.2.2.2.2.2.2.1, x32.2.2.2.2.2.2.2.1, ([] : List Int), ([] : List (Int × (List Int) × (List Int) × Int × Int × Int)), x32.2.2.2.2.2.2.2.2)).bind fun x38 =>
      bif !x38.1 then some (E 230) else K x38.2
     else none
    else none
theorem QjX (d : List Int) (cs : List Chg) : Qi mx (d, cs) = QeM d (fun e => (([] : List (Int × List Int)), e)) (fun y => (Zk mx (y.1, y.2.1, y.2.2.1, y.2.2.2.1, y.2.2.2.2.1, y.2.2.2.2.2.1, y.2.2.2.2.2.2.1, y.2.2.2.2.2.2.2.1, y.2.2.2.2.2.2.2.2.1, y.2.2.2.2.2.2.2.2.2.1, y.2.2.2.2.2.2.2.2.2.2.1, y.2.2.2.2.2.2.2.2.2.2.2.1, y.2.2.2.2.2.2.2.2.2.2.2.2.1, y.2.2.2.2.2.2.2.2.2.2.2.2.2, cs)).bind fun x40 => some (x40.1, x40.2.1)) := rfl
theorem QmI (d : List Int) (i : Img) : ZI mx (d, i) = QeM d (fun e => (([] : List (Int × List Int)), e)) (fun y => (QZ mx (y.1, y.2.1, y.2.2.1, y.2.2.2.1, y.2.2.2.2.1, y.2.2.2.2.2.1, y.2.2.2.2.2.2.1, y.2.2.2.2.2.2.2.1, y.2.2.2.2.2.2.2.2.1, y.2.2.2.2.2.2.2.2.2.1, y.2.2.2.2.2.2.2.2.2.2.1, y.2.2.2.2.2.2.2.2.2.2.2.1, y.2.2.2.2.2.2.2.2.2.2.2.2.1, y.2.2.2.2.2.2.2.2.2.2.2.2.2, i)).bind fun x40 => some (x40.1, x40.2.1)) := rfl
theorem QhD (d : List Int) : Q3 mx d = QeM d (fun e => (([] : List (Int × List Int)), e)) (fun y => (QZ mx (y.1, y.2.1, y.2.2.1, y.2.2.2.1, y.2.2.2.2.1, y.2.2.2.2.2.1, y.2.2.2.2.2.2.1, y.2.2.2.2.2.2.2.1, y.2.2.2.2.2.2.2.2.1, y.2.2.2.2.2.2.2.2.2.1, y.2.2.2.2.2.2.2.2.2.2.1, y.2.2.2.2.2.2.2.2.2.2.2.1, y.2.2.2.2.2.2.2.2.2.2.2.2.1, y.2.2.2.2.2.2.2.2.2.2.2.2.2, y.2.2.2.2.2.2.2.2.1, y.2.2.2.2.2.2.2.2.2.1, y.2.2.2.2.2.2.2.2.2.2.1, y.2.2.2.2.2.2.2.2.2.2.2.1, y.2.2.2.2.2.2.2.2.2.2.2.2.1, y.2.2.2.2.2.2.2.2.2.2.2.2.2)).bind fun x40 => some (x40.1, x40.2.1)) := rfl
theorem QpW (xs : List (List Int)) (n : Int) : Qn.j mx xs n = Qf.a mx xs n := by
 funext x
 simp only [Qn.j, Qf.a, Qn.h, Qn.i]
 cases decide (x.1 < n) with
 | false => rfl
 | true =>
  simp only [cond_true, Option.bind_some]
  cases decide ((0 : Int) ≤ x.1) && decide (x.1 < (xs.length : Int)) with
  | false => rfl
  | true =>
   simp only [cond_true]
   congr 1
   funext y
   cases y.2 != (0 : Int) <;> rfl
theorem QpH (x : (List Int) × Int × Int × Int × Int × Int × Int × Int × Int × Int × Bool) : Qn.k mx x = Qf mx (x.1, x.2.1, x.2.2.1, x.2.2.2.1, ([] : List (List Int)), x.2.2.2.2.1, x.2.2.2.2.2.1, x.2.2.2.2.2.2.1, x.2.2.2.2.2.2.2.1, ([] : List Int), ([] : List Kept), x.2.2.2.2.2.2.2.2) := by
 simp only [Qn.k, Qf, Qn.f, QpW]
 cases Qh mx (x.2.2.2.1, x.2.2.1) with
 | none => rfl
 | some f =>
  simp only [Option.bind_some]
  cases Qz mx (x.1, x.2.1, f, x.2.2.2.1) with
  | none => rfl
  | some y =>
   simp only [Option.bind_some]
   cases y.2.2.2.2 != (0 : Int) with
   | true => rfl
   | false =>
    simp only [cond_false]
    cases (y.1.length : Int) == (0 : Int) with
    | true => rfl
    | false =>
     simp only [cond_false, Option.bind_some, Qn.g]
     cases decide ((0 : Int) < (y.1.length : Int)) with
     | false => rfl
     | true =>
      simp only [cond_true]
      cases Nat.blt 0 y.1.length with
      | false => rfl
      | true =>
       simp only [cond_true]
       cases Qv mx (y.1.getD 0 []) with
       | none => rfl
       | some z =>
        simp only [Option.bind_some]
        cases z.2.2.2.2.2.2 != (0 : Int) <;> rfl
theorem Qne (d : List Int) : Qn mx d = QeM d (fun e => ((0 : Int), ([] : List Int), ([] : List Kept), (0 : Int), (0 : Int), false, (0 : Int), e)) (fun y => some (y.2.2.2.2.2.2.2.2.1, y.2.2.2.2.2.2.2.2.2.1, y.2.2.2.2.2.2.2.2.2.2.1, y.2.2.2.2.2.2.2.2.2.2.2.1, y.2.2.2.2.2.2.2.2.2.2.2.2.1, y.2.2.2.2.2.2.2.2.2.2.2.2.2, IntKind.i64.wrap ((y.2.2.2.2.1.length : Int) - 1), 0)) := by
 simp only [Qn, QpH]
 rfl
theorem QnA (d : List Int) (cs : List Chg) : ZJ mx (d, cs) = QeM d (fun e => (([] : List (Int × List Int)), e)) (fun y => (Zk mx (y.1, y.2.1, y.2.2.1, y.2.2.2.1, y.2.2.2.2.1, y.2.2.2.2.2.1, y.2.2.2.2.2.2.1, y.2.2.2.2.2.2.2.1, y.2.2.2.2.2.2.2.2.1, y.2.2.2.2.2.2.2.2.2.1, y.2.2.2.2.2.2.2.2.2.2.1, y.2.2.2.2.2.2.2.2.2.2.2.1, y.2.2.2.2.2.2.2.2.2.2.2.2.1, y.2.2.2.2.2.2.2.2.2.2.2.2.2, cs)).bind fun x40 =>
 bif x40.2.1 != (9 : Int) then some (x40.1, x40.2.1) else
 (QZ mx (x40.2.2.1, x40.2.2.2.1, x40.2.2.2.2.1, x40.2.2.2.2.2.1, x40.2.2.2.2.2.2.1, x40.2.2.2.2.2.2.2.1, x40.2.2.2.2.2.2.2.2.1, x40.2.2.2.2.2.2.2.2.2.1, x40.2.2.2.2.2.2.2.2.2.2.1, x40.2.2.2.2.2.2.2.2.2.2.2.1, x40.2.2.2.2.2.2.2.2.2.2.2.2.1, x40.2.2.2.2.2.2.2.2.2.2.2.2.2.1, x40.2.2.2.2.2.2.2.2.2.2.2.2.2.2.1, x40.2.2.2.2.2.2.2.2.2.2.2.2.2.2.2, x40.2.2.2.2.2.2.2.2.2.2.1, x40.2.2.2.2.2.2.2.2.2.2.2.1, x40.2.2.2.2.2.2.2.2.2.2.2.2.1, x40.2.2.2.2.2.2.2.2.2.2.2.2.2.1, x40.2.2.2.2.2.2.2.2.2.2.2.2.2.2.1, x40.2.2.2.2.2.2.2.2.2.2.2.2.2.2.2)).bind fun x42 =>
 bif x42.2.1 != (0 : Int) then some (([] : List (Int × List Int)), x42.2.1) else
 (Z2 mx (d, x42.1, (x42.1.length : Int))).bind fun x45 =>
 bif x45.2 != (0 : Int) then some (([] : List (Int × List Int)), x45.2) else
 (Qi mx (x45.1, cs)).bind fun x47 =>
 bif x47.2 != (0 : Int) then some (([] : List (Int × List Int)), x47.2) else
 bif Nat.ble (x42.1.length + x47.1.length) 4294967296 then some ((x42.1 ++ x47.1), (0 : Int)) else none) := rfl
theorem QoT {b : List Int} (hb : QA b) (hl : b.length = 64) (e0 : Int) (d : List Int) (a h : Int) : iter mx (Qi.e mx (b, e0)) ((0 : Int), d, (0 : Int), a, h, (0 : Int), (0 : Int), (0 : Int), (0 : Int), (0 : Int), (0 : Int), false) =
  some (d, Vv (b.take 4), a, h, 0, 0, 0, 0, 0, 0, false) := by
 refine QL (f := Qi.e mx (b, e0)) (fun i => ((i : Int), d, Vv (b.take i), a, h, (0 : Int), (0 : Int), (0 : Int), (0 : Int), (0 : Int), (0 : Int), false)) 4 (Z7 (by decide)) (fun i hi => ?_) ?_
 ·have hbt := QfC (Zf hb i)
  have hlt : (b.take i).length = i := by rw [List.length_take]; omega
  rw [hlt] at hbt
  have ho := Qnc (i := i) (by omega) hbt.1 hbt.2 (VK hb i)
  have hs : b.take (i + 1) = b.take i ++ [b.getD i 0] := QH (by omega) 0
  have hn := Qgh (b.take i) (b.getD i 0)
  rw [hlt] at hn
  simp only [Qi.e, Qi.d, decide_eq_true (show (i : Int) < 4 by omega), cond_true, Option.bind_some, lez, ltd (show i < b.length by omega), Bool.and_self, Int.toNat_natCast, Qas (show i < b.length by omega), ho.2, cond_false, ho.1]
  rw [Z8 (by omega), hs, hn]
 ·simp only [Qi.e, Qi.d]; rfl
theorem Qf4 {R : Type} {d : List Int} (hb : QA d) (E : Int → R) (K : Sto → Option R) :
  (∃ g a v, St d g a v ∧ QeM d E K = K (d, g, a, ((ZR d : Nat) : Int), (logA d g a).1, (logA d g a).2.1, (logA d g a).2.2.1, (logA d g a).2.2.2, v)) ∨
  ((¬ ∃ g a v, St d g a v) ∧ ∃ e, (e = 20 ∧ ¬ okD d ∨ e = 230 ∧ okD d) ∧ QeM d E K = some (E e)) := by
 by_cases h1 : okD d
 case neg =>
  refine .inr ⟨fun ⟨g, a, v, h⟩ => h1 h.ok, 20, .inl ⟨rfl, h1⟩, ?_⟩
  simp only [QeM, QcI, if_neg h1, Option.bind_some, Qi.a]; rfl
 by_cases h2 : 3 ≤ d.length / 64
 case neg =>
  refine .inr ⟨fun ⟨g, a, v, h⟩ => h2 h.n3, 230, .inr ⟨rfl, h1⟩, ?_⟩
  simp only [QeM, QcI, if_pos h1, Option.bind_some, Qi.a, bne_self_eq_false, cond_false, Qi.b, decide_eq_true (show ((d.length / 64 : Nat) : Int) < 3 by omega), cond_true]; rfl
 have hl := QaN (d := d) (n := 0) (by omega)
 have hbb : QA (QB d 0) := Zf (Z5 hb _) _
 have hrd : Z0 mx (d, (0 : Int)) = some (QB d 0, 0) := by
  rw [Qi7, if_pos h1, if_pos (show (0 : Int) ≤ 0 ∧ (0 : Int) < ((d.length / 64 : Nat) : Int) by omega)]; rfl
 have hhf : Zq mx ((d.length / 64 : Nat) : Int) = some ((ZR d : Nat) : Int) := Qkx (by omega) (by have := h1.2.1; omega)
 have h4 := VK hbb 4
 have h5 : IntKind.i64.wrap ((QB d 0).getD 4 0) = (QB d 0).getD 4 0 := w64 (by have := h4.1; omega) (by have := h4.2; omega)
 have hgl := QoT hbb hl 0 d ((QB d 0).getD 4 0) ((ZR d : Nat) : Int)
 have hgu : Z6 (Vv ((QB d 0).take 4)) := JQ (Zf hbb 4) (by rw [List.length_take]; omega)
 have hfo := Qio hgu h4
 have hst : ∀ {g a v}, St d g a v → g = Vv ((QB d 0).take 4) ∧ a = (QB d 0).getD 4 0 := fun {g a v} h => by
  rw [h.b0]
  exact ⟨(QdJ h.gu).symm, rfl⟩
 generalize hg : Vv ((QB d 0).take 4) = g at hgl hgu hfo hst
 generalize ha : (QB d 0).getD 4 0 = a at h4 h5 hgl hfo hst
 have hpre : QeM d E K = bif g == (0 : Int) then some (E 230) else bif decide ((1 : Int) < a) then some (E 230) else
   (QK mx (Jv g a, QB d 0)).bind fun x36 => bif !x36 then some (E 230) else
   (Qf mx (d, g, a, ((ZR d : Nat) : Int), ([] : List (List Int)), 0, 0, 0, 0, ([] : List Int), ([] : List Kept), 0, 0, false)).bind fun x38 => bif !x38.1 then some (E 230) else K x38.2 := by
  simp only [QeM, QcI, if_pos h1, Option.bind_some, Qi.a, bne_self_eq_false, cond_false, Qi.b, decide_eq_false (show ¬ ((d.length / 64 : Nat) : Int) < 3 by omega), hrd, Qi.c,
   decide_eq_true (show (4 : Int) < ((QB d 0).length : Int) by omega), Qas (show 4 < (QB d 0).length by omega), cond_true, hhf, ha, h5, hgl, hfo]
 rw [hpre]
 by_cases k1 : g = 0
 ·refine .inr ⟨fun ⟨g', a', v, h⟩ => h.g0 ((hst h).1.trans k1), 230, .inr ⟨rfl, h1⟩, ?_⟩
  rw [k1]; rfl
 by_cases k2 : 1 < a
 ·refine .inr ⟨fun ⟨g', a', v, h⟩ => ?_, 230, .inr ⟨rfl, h1⟩, ?_⟩
  ·have := (hst h).2; have := h.ar; omega
  ·rw [ieq, decide_eq_false k1, decide_eq_true k2]; rfl
 have k2' : a = 0 ∨ a = 1 := by have := h4.1; omega
 rw [ieq, decide_eq_false k1, decide_eq_false k2, Qem]
 by_cases k3 : Jv g a = QB d 0
 case neg =>
  refine .inr ⟨fun ⟨g', a', v, h⟩ => ?_, 230, .inr ⟨rfl, h1⟩, ?_⟩
  ·have e := h.b0
   rw [(hst h).1, (hst h).2] at e
   exact k3 e.symm
  ·rw [decide_eq_false k3]; rfl
 rw [decide_eq_true k3]
 simp only [cond_false, Option.bind_some, Bool.not_true]
 rcases Qow hb h1 h2 hgu k1 k2' [] 0 0 0 (0, [], [], 0, 0, false) with ⟨w, hw, he⟩ | ⟨hno, y, he, hy⟩
 ·refine .inl ⟨g, a, w, ⟨h1, h2, hgu, k1, k2', k3.symm, hw⟩, ?_⟩
  rw [he]; rfl
 ·refine .inr ⟨fun ⟨g', a', v, h⟩ => hno ⟨v, ?_⟩, 230, .inr ⟨rfl, h1⟩, ?_⟩
  ·have := h.rc
   rwa [(hst h).1, (hst h).2] at this
  ·rw [he]
   simp only [Option.bind_some, hy, Bool.not_false, cond_true]
theorem St.uniq {d : List Int} (hb : QA d) {g a g' a' : Int} {v v' : Img} (h : St d g a v) (h' : St d g' a' v') : g = g' ∧ a = a' ∧ v = v' := by
 have e := h.b0.symm.trans h'.b0
 have h1 : g = g' := by
  have := congrArg (fun l => Vv (l.take 4)) e
  exact (QdJ h.gu).symm.trans (this.trans (QdJ h'.gu))
 have h2 : a = a' := congrArg (fun l : List Int => l.getD 4 0) e
 subst h1 h2
 exact ⟨rfl, rfl, Qi3 (fun r hr => (Qga (Qap hb h.ar h.n3) r hr).1) h.rc h'.rc⟩
def appS (d : List Int) (g a : Int) (v : Img) (cs : List Chg) : List Put × Int :=
 if (Qac v cs).2.2.2.2.2.2 ≠ 0 then ([], (Qac v cs).2.2.2.2.2.2)
 else if (Qbu (logA d g a).1 (logA d g a).2.2.1 (logA d g a).2.2.2 g (Ji cs)).2 ≠ 0 then ([], (Qbu (logA d g a).1 (logA d g a).2.2.1 (logA d g a).2.2.2 g (Ji cs)).2)
 else if (ZR d : Int) - (logA d g a).2.1 < ((Qbu (logA d g a).1 (logA d g a).2.2.1 (logA d g a).2.2.2 g (Ji cs)).1.length : Int) then ([], 9)
 else (Ze (Qbu (logA d g a).1 (logA d g a).2.2.1 (logA d g a).2.2.2 g (Ji cs)).1 (ZG d a + ((logA d g a).2.1).toNat), 0)
theorem Qhe {d : List Int} (hb : QA d) {g a : Int} {v : Img} (h : St d g a v) {cs : List Chg} (hw : ∀ c ∈ cs, wfC c) :
  Zk mx (d, g, a, ((ZR d : Nat) : Int), (logA d g a).1, (logA d g a).2.1, (logA d g a).2.2.1, (logA d g a).2.2.2, v.1, v.2.1, v.2.2.1, v.2.2.2.1, v.2.2.2.2.1, v.2.2.2.2.2, cs) =
   some ((appS d g a v cs).1, (appS d g a v cs).2, d, g, a, ((ZR d : Nat) : Int), (logA d g a).1, (logA d g a).2.1, (logA d g a).2.2.1, (logA d g a).2.2.2, v) := by
 have hap := QlJ (QbO (QeH h.rc).1) hw
 have hch := Qdl hw
 have hfr := Qim (d := d) h.ok.2.1 h.ar
 obtain ⟨B, e1, e2, e3, e4, e5⟩ := Qjk (g := g) (Qap hb h.ar h.n3) (by rw [Qa4]; unfold ZR; have := h.ok.2.1; omega)
 have e1 : (logA d g a).2.1 = (B : Int) := e1
 have e4 : Z6 (logA d g a).2.2.1 := e4
 have e5 : Z6 (logA d g a).2.2.2 := e5
 rw [Qa4] at e2
 have hh : ZR d ≤ 4096 := by unfold ZR; have := h.ok.2.1; omega
 obtain ⟨ha1, ha2, ha3⟩ := QaO h.ar h.n3
 have hdl := h.ok.2.1
 simp only [Zk, hap, Option.bind_some]
 unfold appS
 by_cases g1 : (Qac v cs).2.2.2.2.2.2 = 0
 case neg => rw [if_pos g1, bne_iff_ne.2 g1]; rfl
 rw [if_neg (by omega), g1]
 obtain ⟨g2, g3, w, g4⟩ := QbE.1 g1
 rw [hch, if_pos g3, g3]
 have hcl := (VJ.1 g3).2.2
 simp only [Option.bind_some, bne_self_eq_false, cond_false]
 have hnx := Qnq (rs := (logA d g a).1) (bl := (logA d g a).2.1) (r := Ji cs) e4 e5 h.gu (by omega)
 rw [hnx]
 generalize hN : Qbu (logA d g a).1 (logA d g a).2.2.1 (logA d g a).2.2.2 g (Ji cs) = N
 have hNl : N.1.length ≤ 1525 := by
  rw [← hN]
  unfold Qbu
  split
  ·simp
  split
  ·simp
  split
  ·simp
  split
  ·simp
  ·show (frame _ _ _ _ _).length ≤ _
   rw [Q2]; exact J4 hcl
 simp only [Option.bind_some]
 by_cases g5 : N.2 = 0
 case neg => rw [if_pos g5, bne_iff_ne.2 g5]; rfl
 rw [if_neg (by omega), g5, e1, w64 (n := ((ZR d : Nat) : Int) - (B : Int)) (by omega) (by omega)]
 by_cases g6 : ((ZR d : Nat) : Int) - (B : Int) < (N.1.length : Int)
 ·rw [if_pos g6, decide_eq_true g6]; rfl
 rw [if_neg g6, decide_eq_false g6]
 simp only [bne_self_eq_false, cond_false, hfr, Option.bind_some]
 rw [w64 (n := ((ZG d a : Nat) : Int) + (B : Int)) (by omega) (by omega), show ((ZG d a : Nat) : Int) + (B : Int) = ((ZG d a + B : Nat) : Int) by omega, Qh1 (l := N.1) (f := ZG d a + B) [] (by omega) (by simp) (by omega), List.append_nil]
 rfl
def genS (d : List Int) (g a : Int) : Int := IntKind.u32.wrap (mxI (Qaf (QaJ d (1 - a))) g + 1)
def swpS (d : List Int) (g a : Int) (i : Img) : List Put × Int :=
 if (Q6 i).2 ≠ 0 then ([], (Q6 i).2)
 else if genS d g a = 0 then ([], 9)
 else if (ZR d : Int) < ((frame (genS d g a) 1 1 0 (Q6 i).1).length : Int) then ([], 9)
 else (Ze (frame (genS d g a) 1 1 0 (Q6 i).1) (ZG d (1 - a)) ++ [(0, Jv (genS d g a) (1 - a))], 0)
theorem Qfy {a : Int} (h : a = 0 ∨ a = 1) : 1 - a = 0 ∨ 1 - a = 1 := by omega
theorem Qgn (d : List Int) (g a : Int) : Z6 (genS d g a) := by
 unfold genS Z6
 rw [IntKind.wrap_u32]
 constructor <;> omega
theorem V6 (i : Img) : (Q6 i).1.length ≤ 65536 := by
 unfold Q6
 split
 ·split
  ·simp
  ·dsimp only; omega
 ·simp
theorem Qi5 {i : Img} (hb : ∀ k ∈ i.2.2.1, k.2.1.length ≤ 140737488351232 ∧ k.2.2.1.length ≤ 140737488351232) (hw : ∀ k ∈ i.2.2.1, wfK k) {g : Int} (hg : Z6 g) (h : Int) :
  JG mx (i.1, i.2.1, i.2.2.1, i.2.2.2.1, i.2.2.2.2.1, i.2.2.2.2.2, g, h) = some (if (Q6 i).2 ≠ 0 then ([], (Q6 i).2) else if g = 0 then ([], 9) else if h < ((frame g 1 1 0 (Q6 i).1).length : Int) then ([], 9) else (frame g 1 1 0 (Q6 i).1, 0)) := by
 have hwr := QhQ hb hw
 have hwr : Zj mx (i.1, i.2.1, i.2.2.1, i.2.2.2.1, i.2.2.2.2.1, i.2.2.2.2.2) = some (Q6 i) := hwr
 have hl := V6 i
 simp only [JG, hwr, Option.bind_some]
 by_cases g1 : (Q6 i).2 = 0
 case neg => rw [if_pos g1, bne_iff_ne.2 g1]; rfl
 rw [if_neg (by omega), g1, ieq]
 by_cases g2 : g = 0
 ·rw [if_pos g2, decide_eq_true g2]; rfl
 rw [if_neg g2, decide_eq_false g2]
 have hnx := Qnq (rs := []) (bl := 0) (la := 0) (gr := 0) (g := g) (r := (Q6 i).1) ⟨by decide, by decide⟩ ⟨by decide, by decide⟩ hg (by omega)
 have hE : Qbu [] 0 0 g (Q6 i).1 = (frame g 1 1 0 (Q6 i).1, 0) := by
  unfold Qbu
  rw [if_neg g2, if_neg (by omega), if_neg (by simp), if_neg (by decide)]; rfl
 rw [hE] at hnx
 simp only [bne_self_eq_false, cond_false, hnx, Option.bind_some, beq_self_eq_true, cond_true]
 by_cases g3 : h < ((frame g 1 1 0 (Q6 i).1).length : Int)
 ·rw [if_pos g3, decide_eq_true g3]; rfl
 ·rw [if_neg g3, decide_eq_false g3]; rfl
theorem QhV {d : List Int} (hb : QA d) {g a : Int} {v : Img} (h : St d g a v) {i : Img} (hi : ∀ k ∈ i.2.2.1, k.2.1.length ≤ 140737488351232 ∧ k.2.2.1.length ≤ 140737488351232) (hw : ∀ k ∈ i.2.2.1, wfK k) (y : List (List Int) × Int × Int × Int × Img) :
  QZ mx (d, g, a, ((ZR d : Nat) : Int), y.1, y.2.1, y.2.2.1, y.2.2.2.1, y.2.2.2.2.1, y.2.2.2.2.2.1, y.2.2.2.2.2.2.1, y.2.2.2.2.2.2.2.1, y.2.2.2.2.2.2.2.2.1, y.2.2.2.2.2.2.2.2.2, i.1, i.2.1, i.2.2.1, i.2.2.2.1, i.2.2.2.2.1, i.2.2.2.2.2) =
   some ((swpS d g a i).1, (swpS d g a i).2, d, g, a, ((ZR d : Nat) : Int), y) := by
 have ho := Qfy h.ar
 have hw1 : IntKind.i64.wrap ((1 : Int) - a) = 1 - a := by have := h.ar; rw [w64 (by omega) (by omega)]
 have hfr := Qim (d := d) h.ok.2.1 ho
 have hgr := Qmf hb h.ok h.n3 ho
 have hrec := Qi5 hi hw (Qgn d g a) ((ZR d : Nat) : Int)
 have hfi := Qio (Qgn d g a) (a := 1 - a) (by rcases ho with e | e <;> rw [e] <;> exact ⟨by decide, by decide⟩)
 obtain ⟨ha1, ha2, ha3⟩ := QaO ho h.n3
 have hdl := h.ok.2.1
 unfold genS at hrec hfi
 simp only [QZ, hw1, hfr, hgr, Option.bind_some, bne_self_eq_false, cond_false, hrec, hfi]
 unfold swpS
 rw [show IntKind.u32.wrap (mxI (Qaf (QaJ d (1 - a))) g + 1) = genS d g a from rfl]
 by_cases g1 : (Q6 i).2 = 0
 case neg => rw [if_pos g1, if_pos g1]; simp only [bne_iff_ne.2 g1, cond_true]
 rw [if_neg (show ¬ (Q6 i).2 ≠ 0 by omega), if_neg (show ¬ (Q6 i).2 ≠ 0 by omega)]
 by_cases g2 : genS d g a = 0
 ·rw [if_pos g2, if_pos g2]; rfl
 rw [if_neg g2, if_neg g2]
 by_cases g3 : ((ZR d : Nat) : Int) < ((frame (genS d g a) 1 1 0 (Q6 i).1).length : Int)
 ·rw [if_pos g3, if_pos g3]; rfl
 rw [if_neg g3, if_neg g3]
 have hfl : (frame (genS d g a) 1 1 0 (Q6 i).1).length ≤ 1525 := by rw [Q2]; exact J4 (V6 i)
 simp only [bne_self_eq_false, cond_false, Qh1 (l := frame (genS d g a) 1 1 0 (Q6 i).1) (f := ZG d (1 - a)) [(0, Jv (genS d g a) (1 - a))] (by omega) (by simp) (by omega), Option.bind_some]
end Go.Proofs.YtpfjjbpoikgocaaGreat
namespace Go.Proofs.YtpfjjbpoikgocaaGreat
open Go.Abs
set_option maxRecDepth 100000
theorem Qkc {cs : List Chg} (h : ∀ c ∈ cs, chOk c ∧ wfC c ∧ Qb7 c) : QV (Z3 cs) := by
 have app : ∀ {a b : List Int}, QV a → QV b → QV (a ++ b) := fun ha hb x hx => (List.mem_append.1 hx).elim (ha x) (hb x)
 have one : ∀ {y : Int}, 0 ≤ y → y ≤ 255 → QV [y] := fun h1 h2 x hx => by rw [List.mem_singleton] at hx; subst hx; exact ⟨h1, h2⟩
 have tx : ∀ {s : List Int}, QV s → s.length ≤ 1000000 → QV (txt s) := fun hs hl => app (Ju (by omega)) hs
 induction cs with
 | nil => intro x hx; cases hx
 | cons c cs ih =>
  refine app ?_ (ih fun x hx => h x (by simp [hx]))
  obtain ⟨⟨⟨t1, t2⟩, hc⟩, ⟨⟨w1, w2⟩, w3, w4⟩, b1, b2, b3⟩ := h c (by simp)
  have ht : QV (sm c.2.1.toNat) := Ju (by omega)
  unfold putB
  rcases hc with h | h | h | h | h | h | h
  ·obtain ⟨k, ⟨⟨h1, h2⟩, h3, h4, h5⟩, _⟩ := h
   rw [if_pos k]
   exact app (app (app (app (one (by decide) (by decide)) ht) (app (tx b1 (by omega)) (tx b2 (by omega)))) (app (Ju (by omega)) (Ju (by omega)))) (Ju (by omega))
  ·obtain ⟨k, ⟨⟨h1, h2⟩, h3⟩, _⟩ := h
   rw [if_neg (by omega), if_pos k]
   exact app (app (app (one (by decide) (by decide)) ht) (tx b3 (by omega))) (one (by omega) (by omega))
  ·rw [if_neg (by omega), if_neg (by omega), if_pos h.1]
   exact app (one (by decide) (by decide)) ht
  ·obtain ⟨k, ⟨h1, h2⟩, _⟩ := h
   rw [if_neg (by omega), if_neg (by omega), if_neg (by omega), if_neg (by omega), if_neg (by omega)]
   exact app (one (by omega) (by omega)) (Ju (by omega))
  ·obtain ⟨k, ⟨h1, h2⟩, _⟩ := h
   rw [if_neg (by omega), if_neg (by omega), if_neg (by omega), if_pos k]
   exact app (app (one (by decide) (by decide)) ht) (Ju (by omega))
  ·obtain ⟨k, ⟨h1, h2⟩, _⟩ := h
   rw [if_neg (by omega), if_neg (by omega), if_neg (by omega), if_neg (by omega), if_pos k]
   refine app (app (one (by decide) (by decide)) (Ju (by omega))) ?_
   cases c.2.2.2.2.2.2 <;> exact one (by decide) (by decide)
  ·obtain ⟨k, ⟨h1, h2⟩, _⟩ := h
   rw [if_neg (by omega), if_neg (by omega), if_neg (by omega), if_neg (by omega), if_neg (by omega)]
   exact app (one (by omega) (by omega)) (Ju (by omega))
theorem Qix {cs : List Chg} (h0 : VX cs = 0) (h : ∀ c ∈ cs, wfC c ∧ Qb7 c) : QV (Ji cs) := by
 obtain ⟨h1, h2, h3⟩ := VJ.1 h0
 have := Qkc (cs := cs) fun c hc => ⟨h2 c hc, h c hc⟩
 intro x hx
 rcases List.mem_append.1 hx with hx | hx
 ·exact Ju (n := cs.length) (by omega) x hx
 ·exact this x hx
theorem Qat {a b : List Int} (ha : QV a) (hb : QV b) : QV (a ++ b) := fun x hx => (List.mem_append.1 hx).elim (ha x) (hb x)
theorem QoQ {v : Img} (h : okI v) (hw : ∀ k ∈ v.2.2.1, wfK k) (hb : ∀ k ∈ v.2.2.1, QV k.2.1 ∧ QV k.2.2.1) : QV (imgB v) := by
 obtain ⟨⟨t1, t2⟩, ⟨q1, q2, q3⟩, l1, ⟨e1, e2⟩, ⟨n1, n2⟩, hk, _⟩ := id h
 have hn : ∀ {l : List Int}, (∀ x ∈ l, 0 ≤ x ∧ x ≤ 16) → QV (ZY l) := fun {l} => by
  induction l with
  | nil => intro _ x hx; cases hx
  | cons y l ih => intro hl; exact Qat (Ju (by have := (hl y (by simp)).2; omega)) (ih fun x hx => hl x (by simp [hx]))
 have htx : ∀ {s : List Int}, QV s → s.length ≤ 1000000 → QV (txt s) := fun hs hl => Qat (Ju (by omega)) hs
 have hks : ∀ {l : List Kept}, (∀ k ∈ l, Vi v.1 v.2.1.length k ∧ wfK k ∧ QV k.2.1 ∧ QV k.2.2.1) → QV (Zo l) := fun {l} => by
  induction l with
  | nil => intro _ x hx; cases hx
  | cons y l ih =>
   intro hl
   obtain ⟨⟨a1, a2, ⟨a3, a4, a5, a6, a7⟩, a8⟩, ⟨b1, b2⟩, b3, b4⟩ := hl y (by simp)
   exact Qat (Qat (Qat (Qat (Qat (Ju (by omega)) (htx b3 (by omega))) (htx b4 (by omega))) (Qat (Ju (by have := b1.2; omega)) (Ju (by omega)))) (Ju (by have := b2.2; omega))) (ih fun x hx => hl x (by simp [hx]))
 refine Qat (Qat (Qat (Qat (Qat (Qat (Ju (by omega)) (Ju (by omega))) (hn q3)) (Qat (Ju (by omega)) (Ju (by omega)))) ?_) (Ju (by omega))) (hks fun k hk' => ⟨hk k hk', hw k hk', hb k hk'⟩)
 intro x hx
 rw [List.mem_singleton] at hx
 subst hx
 cases v.2.2.2.2.2 <;> exact ⟨by decide, by decide⟩
theorem QkZ {v : Img} {b : List Int} (h : Q6 v = (b, 0)) (hw : wfIm v) : QV b := by
 obtain ⟨h1, h2, _⟩ := Qaw h
 rw [← h2]
 exact QoQ h1 hw.2 (fun k hk => (hw.1 k hk).2)
end Go.Proofs.YtpfjjbpoikgocaaGreat
namespace Go.Proofs.YtpfjjbpoikgocaaGreat
open Go.Abs
set_option maxRecDepth 100000
theorem QcD {l : List Blk} (hl : Jk l) (f : Nat) : ∀ p ∈ Ze l f, QA p.2 := fun p hp => by
 obtain ⟨i, hi, rfl⟩ := List.mem_iff_getElem.1 hp
 have hi' := hi
 rw [ZT] at hi'
 have := QbV (f := f) hi'
 rw [getD_some hi] at this
 rw [this]
 exact (hl _ (Zt hi')).2
theorem QcO {d e : List Int} (h : e.length = d.length) : ZR e = ZR d := by unfold ZR; rw [h]
theorem Qer {d e : List Int} (h : e.length = d.length) (a : Int) : ZG e a = ZG d a := by unfold ZG; rw [QcO h]
theorem Qmm {d : List Int} {l : List Blk} {f : Nat} (hl : ∀ b ∈ l, b.length = 64) (hf : f + l.length ≤ d.length / 64) {t : Nat} (ht : t ≤ l.length) {x m : Nat} (hx : x + m ≤ d.length / 64) (ha : x + m ≤ f ∨ f + l.length ≤ x) :
  blks (wr d ((Ze l f).take t)) x m = blks d x m := by
 unfold blks
 refine List.map_congr_left fun i hi => ?_
 have hi := List.mem_range.1 hi
 rw [Qb8 hl hf (by omega) t ht, if_neg (by omega)]
theorem QqJ {d : List Int} {l : List Put} (h : okD d) (hp : ∀ p ∈ l, Jq d p = 0) (hl : l.length ≤ 1000000000000000000) {t : Nat} (ht : t ≤ l.length) : Z2 mx (d, l, (t : Int)) = some (wr d (l.take t), 0) := by
 rw [QkF hl]
 unfold doS
 rw [if_pos h, if_pos (QeI.2 hp), if_pos (by omega), Int.toNat_natCast]
structure Puts (d : List Int) (p : List Put) : Prop where
 ok : ∀ q ∈ p, Jq d q = 0
 by_ : ∀ q ∈ p, QA q.2
 len : p.length ≤ 100000
theorem Puts.wr {d : List Int} {p : List Put} (h : Puts d p) (hb : QA d) (t : Nat) : QA (wr d (p.take t)) ∧ (wr d (p.take t)).length = d.length :=
 ⟨QiM hb fun q hq => h.by_ q (List.mem_of_mem_take hq), QfL fun q hq => h.ok q (List.mem_of_mem_take hq)⟩
theorem QlK {d : List Int} (hb : QA d) {g a : Int} {v : Img} (h : St d g a v) {cs : List Chg} (hw : ∀ c ∈ cs, wfC c ∧ Qb7 c) {p : List Put} (he : appS d g a v cs = (p, 0)) :
  Puts d p ∧ VX cs = 0 ∧ ∃ w, VU v cs = .inr w ∧ ∀ t, t ≤ p.length → St (wr d (p.take t)) g a (if t = p.length then w else v) ∧ (t < p.length → (logA (wr d (p.take t)) g a).1 = (logA d g a).1) := by
 have hA := Qap hb h.ar h.n3
 have hAl := Qa4 d a
 have hdl := h.ok.2.1
 have hh : ZR d ≤ 4096 := by unfold ZR; omega
 obtain ⟨ha1, ha2, ha3⟩ := QaO h.ar h.n3
 obtain ⟨B, e1, e2, _, e4, e5⟩ := Qjk (g := g) hA (by omega)
 rw [hAl] at e2
 unfold appS at he
 by_cases g1 : (Qac v cs).2.2.2.2.2.2 ≠ 0
 ·rw [if_pos g1] at he; exact absurd (congrArg Prod.snd he) g1
 rw [if_neg g1] at he
 obtain ⟨g2, g3, w, g4⟩ := QbE.1 (show (Qac v cs).2.2.2.2.2.2 = 0 by omega)
 by_cases g5 : (Qbu (logA d g a).1 (logA d g a).2.2.1 (logA d g a).2.2.2 g (Ji cs)).2 ≠ 0
 ·rw [if_pos g5] at he; exact absurd (congrArg Prod.snd he) g5
 rw [if_neg g5] at he
 have hcb : QA (Ji cs) := Qix g3 hw
 obtain ⟨fr, hfr⟩ : ∃ fr, Qbu (logA d g a).1 (logA d g a).2.2.1 (logA d g a).2.2.2 g (Ji cs) = (fr, 0) := ⟨_, Prod.ext rfl (show _ = (0 : Int) by omega)⟩
 rw [hfr] at he
 have e1' : (logA d g a).2.1 = (B : Int) := e1
 rw [e1'] at he
 dsimp only at he
 by_cases g6 : (ZR d : Int) - (B : Int) < (fr.length : Int)
 ·rw [if_pos g6] at he; exact absurd (show (9 : Int) = 0 from congrArg Prod.snd he) (by decide)
 rw [if_neg g6, Int.toNat_natCast] at he
 have hp : p = Ze fr (ZG d a + B) := (congrArg Prod.fst he).symm
 subst hp
 obtain ⟨hfb, hg0, hfl⟩ := Qnr hcb hfr
 have hf64 : ∀ b ∈ fr, b.length = 64 := fun b hb => (hfb b hb).1
 have hputs := Qd5 (d := d) (f := ZG d a + B) hf64 (by omega)
 have hP : Puts d (Ze fr (ZG d a + B)) := ⟨hputs, QcD hfb _, by rw [ZT]; omega⟩
 refine ⟨hP, g3, w, g4, fun t ht => ?_⟩
 rw [ZT] at ht ⊢
 have hbl := QgB (d := d) (f := ZG d a) (m := ZR d) (B := B) (t := t) hf64 (by omega) (by omega) ht
 have htorn := torn hA (by omega) h.gu hcb hfr (by rw [e1, Int.toNat_natCast, hAl]; omega) ht
 rw [e1, Int.toNat_natCast] at htorn
 have hbl : blks (wr d ((Ze fr (ZG d a + B)).take t)) (ZG d a) (ZR d) = (QaJ d a).take B ++ (fr.take t ++ (QaJ d a).drop (B + t)) := hbl
 rw [← hbl] at htorn
 have hlen := (hP.wr hb t).2
 have hb0 := Qb8 (d := d) (l := fr) (f := ZG d a + B) hf64 (by omega) (n := 0) (by have := h.n3; omega) t ht
 rw [if_neg (by omega)] at hb0
 generalize wr d ((Ze fr (ZG d a + B)).take t) = d' at htorn hlen hb0 ⊢
 have hlog : logA d' g a = Ve g (blks d' (ZG d a) (ZR d)) := by unfold logA QaJ; rw [Qer hlen, QcO hlen]
 have key : Qbp (logA d' g a).1 (if t = fr.length then w else v) ∧ (t < fr.length → (logA d' g a).1 = (logA d g a).1) := by
  rw [hlog]
  by_cases ht2 : t = fr.length
  ·rw [if_pos ht2] at htorn ⊢
   rw [htorn.2]
   exact ⟨Qi4 h.rc ⟨g3, rfl, hw⟩ g4, fun hh => absurd ht2 (by omega)⟩
  ·rw [if_neg ht2] at htorn ⊢
   rw [htorn.2]
   exact ⟨h.rc, fun _ => rfl⟩
 exact ⟨⟨Qh9 hlen h.ok, by rw [hlen]; exact h.n3, h.gu, h.g0, h.ar, by rw [hb0]; exact h.b0, key.1⟩, key.2⟩
theorem QnI {d : List Int} (hb : QA d) {g a : Int} {v : Img} (h : St d g a v) (h0 : genS d g a ≠ 0) : ∀ b ∈ QaJ d (1 - a), QaI b < genS d g a := fun b hbm => by
 have ho := Qap hb (Qfy h.ar) h.n3
 have h1 := QoS hbm
 have h2 := Qjz ho
 have h3 := Qbv (Qaf (QaJ d (1 - a))) g
 have h4 : mxI (Qaf (QaJ d (1 - a))) g ≤ 4294967295 := QdG h2.2 h.gu.2
 have h5 := h2.1
 unfold genS at h0 ⊢
 rw [IntKind.wrap_u32] at h0 ⊢
 omega
theorem Qot {d : List Int} (hb : QA d) {g a : Int} {v : Img} (h : St d g a v) {i : Img} (hw : wfIm i) {p : List Put} (he : swpS d g a i = (p, 0)) :
  Puts d p ∧ 1 ≤ p.length ∧ okI i ∧ (∀ t, t < p.length → St (wr d (p.take t)) g a v ∧ (logA (wr d (p.take t)) g a).1 = (logA d g a).1) ∧
   St (wr d p) (genS d g a) (1 - a) i ∧ (logA (wr d p) (genS d g a) (1 - a)).1.length = 1 := by
 have ho := Qfy h.ar
 have hdl := h.ok.2.1
 have hh : ZR d ≤ 4096 := by unfold ZR; omega
 obtain ⟨ha1, ha2, ha3⟩ := QaO ho h.n3
 obtain ⟨hb1, hb2, hb3⟩ := QaO h.ar h.n3
 have hgu := Qgn d g a
 have hgab := fun h0 => QnI hb h h0
 unfold swpS at he
 by_cases g1 : (Q6 i).2 ≠ 0
 ·rw [if_pos g1] at he; exact absurd (congrArg Prod.snd he) g1
 rw [if_neg g1] at he
 have hwr : Q6 i = ((Q6 i).1, 0) := Prod.ext rfl (show _ = (0 : Int) by omega)
 have hob := Qap hb ho h.n3
 have hobl := Qa4 d (1 - a)
 generalize genS d g a = G at he hgu hgab ⊢
 by_cases g2 : G = 0
 ·rw [if_pos g2] at he; exact absurd (show (9 : Int) = 0 from congrArg Prod.snd he) (by decide)
 rw [if_neg g2] at he
 have hgab := hgab g2
 have hbb : QA (Q6 i).1 := QkZ hwr hw
 have hbl := V6 i
 have hfb : Jk (frame G 1 1 0 (Q6 i).1) := Qb3 hbb
 obtain ⟨fr, hfr⟩ : ∃ fr, frame G 1 1 0 (Q6 i).1 = fr := ⟨_, rfl⟩
 have hfl : fr.length ≤ 1525 := by rw [← hfr, Q2]; exact J4 hbl
 have hfp : 1 ≤ fr.length := by rw [← hfr, Q2]; exact Qaj _
 rw [hfr] at he hfb
 by_cases g3 : (ZR d : Int) < (fr.length : Int)
 ·rw [if_pos g3] at he; exact absurd (show (9 : Int) = 0 from congrArg Prod.snd he) (by decide)
 rw [if_neg g3] at he
 have hp : p = Ze fr (ZG d (1 - a)) ++ [(0, Jv G (1 - a))] := (congrArg Prod.fst he).symm
 subst hp
 have hf64 : ∀ b ∈ fr, b.length = 64 := fun b hb => (hfb b hb).1
 have hputs := Qd5 (d := d) (f := ZG d (1 - a)) hf64 (by omega)
 have hfB : Qcv (1 - a) := by rcases ho with e | e <;> rw [e] <;> exact ⟨by decide, by decide⟩
 have h0e : Jq d (0, Jv G (1 - a)) = 0 := by
  have := h.n3
  unfold Jq
  rw [if_pos (show (0 : Int) ≤ 0 ∧ (0 : Int) < ((d.length / 64 : Nat) : Int) by omega), if_pos (Qhx _ _)]
 have hP : Puts d (Ze fr (ZG d (1 - a)) ++ [(0, Jv G (1 - a))]) := by
  refine ⟨fun q hq => ?_, fun q hq => ?_, by rw [List.length_append, ZT, List.length_singleton]; omega⟩
  ·rcases List.mem_append.1 hq with hq | hq
   ·exact hputs q hq
   ·rw [List.mem_singleton] at hq; subst hq; exact h0e
  ·rcases List.mem_append.1 hq with hq | hq
   ·exact QcD hfb _ q hq
   ·rw [List.mem_singleton] at hq; subst hq; exact Qfe hfB
 have hpl : (Ze fr (ZG d (1 - a)) ++ [(0, Jv G (1 - a))]).length = fr.length + 1 := by rw [List.length_append, ZT, List.length_singleton]
 have hapart : ZG d a + ZR d ≤ ZG d (1 - a) ∨ ZG d (1 - a) + fr.length ≤ ZG d a := by
  unfold ZG
  rcases h.ar with e | e
  ·rw [e]; left; show 1 + 0 * ZR d + ZR d ≤ 1 + 1 * ZR d; omega
  ·rw [e]; right; show 1 + 0 * ZR d + fr.length ≤ 1 + 1 * ZR d; omega
 refine ⟨hP, by omega, (Qaw hwr).1, fun t ht => ?_, ?_⟩
 ·rw [hpl] at ht
  have htk : (Ze fr (ZG d (1 - a)) ++ [(0, Jv G (1 - a))]).take t = (Ze fr (ZG d (1 - a))).take t := by rw [List.take_append_of_le_length (by rw [ZT]; omega)]
  have hlen := (hP.wr hb t).2
  rw [htk] at hlen ⊢
  have hb0 := Qb8 (d := d) (l := fr) (f := ZG d (1 - a)) hf64 (by omega) (n := 0) (by have := h.n3; omega) t (by omega)
  rw [if_neg (by omega)] at hb0
  have hap := Qmm (d := d) (l := fr) (f := ZG d (1 - a)) hf64 (by omega) (t := t) (by omega) (x := ZG d a) (m := ZR d) hb1 hapart
  generalize wr d ((Ze fr (ZG d (1 - a))).take t) = d' at hlen hb0 hap ⊢
  have hlog : logA d' g a = logA d g a := by unfold logA QaJ; rw [Qer hlen, QcO hlen, hap]
  exact ⟨⟨Qh9 hlen h.ok, by rw [hlen]; exact h.n3, h.gu, h.g0, h.ar, by rw [hb0]; exact h.b0, by rw [hlog]; exact h.rc⟩, by rw [hlog]⟩
 ·have hlen1 : (wr d (Ze fr (ZG d (1 - a)))).length = d.length := QfL hputs
  have hwrE : wr d (Ze fr (ZG d (1 - a)) ++ [(0, Jv G (1 - a))]) = wr1 (wr d (Ze fr (ZG d (1 - a)))) (0, Jv G (1 - a)) := by unfold wr; rw [List.foldl_append]; rfl
  have h0e' : Jq (wr d (Ze fr (ZG d (1 - a)))) (0, Jv G (1 - a)) = 0 := by rw [QbW hlen1]; exact h0e
  have hbl := QgB (d := d) (f := ZG d (1 - a)) (m := ZR d) (B := 0) (t := fr.length) hf64 (by omega) (by omega) (Nat.le_refl _)
  have hfull : (Ze fr (ZG d (1 - a))).take fr.length = Ze fr (ZG d (1 - a)) := by rw [← ZT fr (ZG d (1 - a)), List.take_length]
  rw [Nat.add_zero, hfull, List.take_zero, List.nil_append, List.take_length, Nat.zero_add] at hbl
  have hblk : ∀ n, n < d.length / 64 → QB (wr1 (wr d (Ze fr (ZG d (1 - a)))) (0, Jv G (1 - a))) n = if n = 0 then Jv G (1 - a) else QB (wr d (Ze fr (ZG d (1 - a)))) n := fun n hn => by
   rw [QgA h0e' (by rw [hlen1]; exact hn)]
   by_cases hn0 : n = 0
   ·rw [if_pos hn0, if_pos (by dsimp only; omega)]
   ·rw [if_neg hn0, if_neg (by dsimp only; omega)]
  have hlen : (wr1 (wr d (Ze fr (ZG d (1 - a)))) (0, Jv G (1 - a))).length = d.length := by rw [Qj6 h0e', hlen1]
  rw [hwrE]
  generalize wr d (Ze fr (ZG d (1 - a))) = d1 at hlen1 hbl hblk hlen h0e' hwrE ⊢
  generalize wr1 d1 (0, Jv G (1 - a)) = d' at hblk hlen ⊢
  have hB : QaJ d' (1 - a) = fr ++ (QaJ d (1 - a)).drop fr.length := by
   unfold QaJ
   rw [Qer hlen, QcO hlen]
   refine Eq.trans ?_ hbl
   unfold blks
   refine List.map_congr_left fun j hj => ?_
   have hj := List.mem_range.1 hj
   rw [hblk _ (by omega), if_neg (by omega)]
  obtain ⟨X, hX⟩ := Qnv (g := G) (r := (Q6 i).1) (l := (QaJ d (1 - a)).drop fr.length) (fun b hb => hob b (List.mem_of_mem_drop hb)) g2 hgu hbb (V6 i) (fun b hb => by have := hgab b (List.mem_of_mem_drop hb); omega)
  have hlog : logA d' G (1 - a) = ([(Q6 i).1], ((Qp (Q6 i).1 : Nat) : Int), 1, X) := by unfold logA; rw [hB, ← hfr]; rw [← hfr] at hX; exact hX
  refine ⟨⟨Qh9 hlen h.ok, by rw [hlen]; exact h.n3, hgu, g2, ho, ?_, ?_⟩, by rw [hlog]; rfl⟩
  ·rw [hblk 0 (by have := h.n3; omega), if_pos rfl]
  ·rw [hlog]; exact ⟨_, [], i, rfl, hwr, hw, .nil _⟩
end Go.Proofs.YtpfjjbpoikgocaaGreat
namespace Go.Proofs.YtpfjjbpoikgocaaGreat
open Go.Abs
set_option maxRecDepth 100000
theorem St.okv {d : List Int} {g a : Int} {v : Img} (h : St d g a v) : okI v ∧ wfIm v := QeH h.rc
end Go.Proofs.YtpfjjbpoikgocaaGreat
namespace Go.Proofs.YtpfjjbpoikgocaaGreat
open Go.Abs
set_option maxRecDepth 100000
theorem Qp2 {d : List Int} (hok : okD d) (hn3 : 3 ≤ d.length / 64) (hb : QA d) {o : Int} (ho : o = 0 ∨ o = 1) {G : Int} (hgu : Z6 G) (g2 : G ≠ 0) {i : Img} {b : List Int} (hwr : Q6 i = (b, 0)) (hw : wfIm i)
  (g3 : (frame G 1 1 0 b).length ≤ ZR d) (hgab : ∀ x ∈ QaJ d o, QaI x ≠ G) :
  Puts d (Ze (frame G 1 1 0 b) (ZG d o) ++ [(0, Jv G o)]) ∧ St (wr d (Ze (frame G 1 1 0 b) (ZG d o) ++ [(0, Jv G o)])) G o i := by
 have hdl := hok.2.1
 have hh : ZR d ≤ 4096 := by unfold ZR; omega
 obtain ⟨ha1, ha2, ha3⟩ := QaO ho hn3
 have hob := Qap hb ho hn3
 have hbb : QA b := QkZ hwr hw
 have hbl : b.length ≤ 65536 := (Qaw hwr).2.2
 have hfb : Jk (frame G 1 1 0 b) := Qb3 hbb
 obtain ⟨fr, hfr⟩ : ∃ fr, frame G 1 1 0 b = fr := ⟨_, rfl⟩
 have hfl : fr.length ≤ 1525 := by rw [← hfr, Q2]; exact J4 hbl
 rw [hfr] at hfb g3 ⊢
 have hf64 : ∀ b ∈ fr, b.length = 64 := fun b hb => (hfb b hb).1
 have hputs := Qd5 (d := d) (f := ZG d o) hf64 (by omega)
 have hfB : Qcv o := by rcases ho with e | e <;> rw [e] <;> exact ⟨by decide, by decide⟩
 have h0e : Jq d (0, Jv G o) = 0 := by
  unfold Jq
  rw [if_pos (show (0 : Int) ≤ 0 ∧ (0 : Int) < ((d.length / 64 : Nat) : Int) by omega), if_pos (Qhx _ _)]
 have hP : Puts d (Ze fr (ZG d o) ++ [(0, Jv G o)]) := by
  refine ⟨fun q hq => ?_, fun q hq => ?_, by rw [List.length_append, ZT, List.length_singleton]; omega⟩
  ·rcases List.mem_append.1 hq with hq | hq
   ·exact hputs q hq
   ·rw [List.mem_singleton] at hq; subst hq; exact h0e
  ·rcases List.mem_append.1 hq with hq | hq
   ·exact QcD hfb _ q hq
   ·rw [List.mem_singleton] at hq; subst hq; exact Qfe hfB
 refine ⟨hP, ?_⟩
 have hlen1 : (wr d (Ze fr (ZG d o))).length = d.length := QfL hputs
 have hwrE : wr d (Ze fr (ZG d o) ++ [(0, Jv G o)]) = wr1 (wr d (Ze fr (ZG d o))) (0, Jv G o) := by unfold wr; rw [List.foldl_append]; rfl
 have h0e' : Jq (wr d (Ze fr (ZG d o))) (0, Jv G o) = 0 := by rw [QbW hlen1]; exact h0e
 have hbl := QgB (d := d) (f := ZG d o) (m := ZR d) (B := 0) (t := fr.length) hf64 (by omega) (by omega) (Nat.le_refl _)
 have hfull : (Ze fr (ZG d o)).take fr.length = Ze fr (ZG d o) := by rw [← ZT fr (ZG d o), List.take_length]
 rw [Nat.add_zero, hfull, List.take_zero, List.nil_append, List.take_length, Nat.zero_add] at hbl
 have hblk : ∀ n, n < d.length / 64 → QB (wr1 (wr d (Ze fr (ZG d o))) (0, Jv G o)) n = if n = 0 then Jv G o else QB (wr d (Ze fr (ZG d o))) n := fun n hn => by
  rw [QgA h0e' (by rw [hlen1]; exact hn)]
  by_cases hn0 : n = 0
  ·rw [if_pos hn0, if_pos (by dsimp only; omega)]
  ·rw [if_neg hn0, if_neg (by dsimp only; omega)]
 have hlen : (wr1 (wr d (Ze fr (ZG d o))) (0, Jv G o)).length = d.length := by rw [Qj6 h0e', hlen1]
 rw [hwrE]
 generalize wr d (Ze fr (ZG d o)) = d1 at hlen1 hbl hblk hlen h0e' hwrE ⊢
 generalize wr1 d1 (0, Jv G o) = d' at hblk hlen ⊢
 have hB : QaJ d' o = fr ++ (QaJ d o).drop fr.length := by
  unfold QaJ
  rw [Qer hlen, QcO hlen]
  refine Eq.trans ?_ hbl
  unfold blks
  refine List.map_congr_left fun j hj => ?_
  have hj := List.mem_range.1 hj
  rw [hblk _ (by omega), if_neg (by omega)]
 obtain ⟨X, hX⟩ := Qnv (g := G) (r := b) (l := (QaJ d o).drop fr.length) (fun b hb => hob b (List.mem_of_mem_drop hb)) g2 hgu hbb (Qaw hwr).2.2 (fun b hb => hgab b (List.mem_of_mem_drop hb))
 have hlog : logA d' G o = ([b], ((Qp b : Nat) : Int), 1, X) := by unfold logA; rw [hB, ← hfr]; rw [← hfr] at hX; exact hX
 refine ⟨Qh9 hlen hok, by rw [hlen]; exact hn3, hgu, g2, ho, ?_, ?_⟩
 ·rw [hblk 0 (by omega), if_pos rfl]
 ·rw [hlog]; exact ⟨_, [], i, rfl, hwr, hw, .nil _⟩
end Go.Proofs.YtpfjjbpoikgocaaGreat
namespace Go.Proofs.YtpfjjbpoikgocaaGreat
open Go.Abs
set_option maxRecDepth 100000
theorem QlY {q : List Int} : ZM mx q = some (decide (Vu q)) := by
 simp only [ZM]
 by_cases h1 : 1 ≤ q.length
 case neg => rw [decide_eq_true (show (q.length : Int) < 1 by omega), decide_eq_false (fun h : Vu q => h1 h.1)]; rfl
 rw [decide_eq_false (show ¬ (q.length : Int) < 1 by omega)]
 by_cases h2 : q.length ≤ 4
 case neg => rw [decide_eq_true (show (4 : Int) < (q.length : Int) by omega), decide_eq_false (fun h : Vu q => h2 h.2.1)]; rfl
 rw [decide_eq_false (show ¬ (4 : Int) < (q.length : Int) by omega)]
 simp only [cond_false]
 have hstep : ∀ i, i < q.length → ZM.a mx q (i : Int) = some (bif decide (0 ≤ q.getD i 0 ∧ q.getD i 0 ≤ 16) then .next ((i + 1 : Nat) : Int) else .fin (.inl false)) := fun i hi => by
  simp only [ZM.a, ltd hi, lez, Bool.and_self, cond_true, Int.toNat_natCast]
  rw [Z8 (by omega)]
  by_cases g1 : q.getD i 0 < 0
  ·rw [decide_eq_true g1, decide_eq_false (show ¬ (0 ≤ q.getD i 0 ∧ q.getD i 0 ≤ 16) by omega)]; rfl
  ·rw [decide_eq_false g1]
   by_cases g2 : 16 < q.getD i 0
   ·rw [decide_eq_true g2, decide_eq_false (show ¬ (0 ≤ q.getD i 0 ∧ q.getD i 0 ≤ 16) by omega)]; rfl
   ·rw [decide_eq_false g2, decide_eq_true (show (0 ≤ q.getD i 0 ∧ q.getD i 0 ≤ 16) by omega)]; rfl
 rcases JF (f := ZM.a mx q) (fun i => (i : Int)) q.length (fun i => 0 ≤ q.getD i 0 ∧ q.getD i 0 ≤ 16) (Z7 (by omega)) (fun i => .inl false) (.inr ())
  (fun i hi hp _ => by rw [hstep i hi, decide_eq_true hp]; rfl)
  (fun i hi hp _ => by rw [hstep i hi, decide_eq_false hp]; rfl)
  (fun _ => by simp only [ZM.a, nltd, cond_false]) with ⟨h, e⟩ | ⟨i, hi, hp, _, e⟩
 ·have e : iter mx (ZM.a mx q) (0 : Int) = _ := e
  rw [e, decide_eq_true (show Vu q from ⟨h1, h2, fun x hx => by
   obtain ⟨j, hj, rfl⟩ := List.mem_iff_getElem.1 hx
   have := h j hj
   rwa [getD_some hj] at this⟩)]
  rfl
 ·have e : iter mx (ZM.a mx q) (0 : Int) = _ := e
  rw [e, decide_eq_false (fun h : Vu q => hp (h.2.2 _ (Zt hi)))]
  rfl
theorem QmU (b : List Int) : VC mx b = some (decide (1 ≤ b.length ∧ b.length ≤ 32)) := by
 simp only [VC]
 by_cases h : 1 ≤ b.length
 ·rw [decide_eq_true (show (1 : Int) ≤ (b.length : Int) by omega)]
  by_cases h2 : b.length ≤ 32
  ·rw [decide_eq_true (show (b.length : Int) ≤ 32 by omega), decide_eq_true (show 1 ≤ b.length ∧ b.length ≤ 32 from ⟨h, h2⟩)]; rfl
  ·rw [decide_eq_false (show ¬ (b.length : Int) ≤ 32 by omega), decide_eq_false (show ¬ (1 ≤ b.length ∧ b.length ≤ 32) from fun hh => h2 hh.2)]; rfl
 ·rw [decide_eq_false (show ¬ (1 : Int) ≤ (b.length : Int) by omega), decide_eq_false (show ¬ (1 ≤ b.length ∧ b.length ≤ 32) from fun hh => h hh.1)]; rfl
theorem Qld (x : Itm) : Va mx x = some (decide (1 ≤ x.1.length ∧ x.1.length ≤ 32) && (decide (x.2.1.length ≤ 512) && decide (0 ≤ x.2.2.2.1 ∧ x.2.2.2.1 ≤ 1099511627776))) := by
 simp only [Va, QmU, Option.bind_some]
 have e : decide ((x.2.1.length : Int) ≤ 512) = decide (x.2.1.length ≤ 512) := decide_eq_decide.2 (by omega)
 rw [e]
 cases decide (1 ≤ x.1.length ∧ x.1.length ≤ 32) <;> cases decide (x.2.1.length ≤ 512) <;> try rfl
 simp only [cond_true, Bool.true_and]
 by_cases h : 0 ≤ x.2.2.2.1
 ·rw [decide_eq_true h]; simp [h]
 ·rw [decide_eq_false h]; simp [h]
theorem Qk6 (x : Itm) (h1 : x.1.length ≤ 140737488351232) (h2 : x.2.1.length ≤ 140737488351232) : Vk mx x = some ((8 + x.1.length + x.2.1.length : Nat) : Int) := by
 simp only [Vk]
 rw [w64 (n := 8 + (x.1.length : Int)) (by omega) (by omega), w64 (by omega) (by omega)]
 congr 1
theorem Qkk (x : Itm) (t : Int) : Vc mx (x.1, x.2.1, x.2.2.1, x.2.2.2.1, x.2.2.2.2, t) = some (dueB x t) := by
 simp only [Vc, Vf, dueB]
 by_cases h : x.2.2.2.1 = 0
 ·rw [decide_eq_true h, decide_eq_false (show ¬ (x.2.2.2.1 ≠ 0 ∧ x.2.2.2.1 ≤ t) from fun hh => hh.1 h)]; rfl
 ·rw [decide_eq_false h]
  by_cases h2 : x.2.2.2.1 ≤ t
  ·rw [decide_eq_true h2, decide_eq_true ⟨h, h2⟩]; rfl
  ·rw [decide_eq_false h2, decide_eq_false (show ¬ (x.2.2.2.1 ≠ 0 ∧ x.2.2.2.1 ≤ t) from fun hh => h2 hh.2)]; rfl
theorem Qnp {x y : Kept} : nm x = nm y ↔ x.1 = y.1 ∧ x.2.1 = y.2.1 := by unfold nm; rw [Prod.mk.injEq]
theorem Qqs {l : List Kept} (hl : l.length ≤ 1000000) {k : Nat} (hk : k < l.length) :
  iter mx (QE.a mx l (k : Int) (l.getD k K0)) (0 : Int) = some (if ∀ j, j < k → nm (l.getD j K0) ≠ nm (l.getD k K0) then .inr () else .inl 8) := by
 have hstep : ∀ j, j < k → QE.a mx l (k : Int) (l.getD k K0) (j : Int) = some (bif decide (nm (l.getD j K0) ≠ nm (l.getD k K0)) then .next ((j + 1 : Nat) : Int) else .fin (.inl 8)) := fun j hj => by
  simp only [QE.a, ltd hj, lez, ltd (show j < l.length by omega), Bool.and_self, cond_true, Int.toNat_natCast, ieq]
  rw [Z8 (by omega)]
  by_cases g1 : (l.getD j K0).1 = (l.getD k K0).1
  ·rw [decide_eq_true g1]
   by_cases g2 : (l.getD j K0).2.1 = (l.getD k K0).2.1
   ·rw [show ((l.getD j K0).2.1 == (l.getD k K0).2.1) = true by rw [g2]; exact beq_self_eq_true _, decide_eq_false (fun h => h (Qnp.2 ⟨g1, g2⟩))]; rfl
   ·rw [show ((l.getD j K0).2.1 == (l.getD k K0).2.1) = false from beq_eq_false_iff_ne.2 g2, decide_eq_true (show nm (l.getD j K0) ≠ nm (l.getD k K0) from fun h => g2 (Qnp.1 h).2)]; rfl
  ·rw [decide_eq_false g1, decide_eq_true (show nm (l.getD j K0) ≠ nm (l.getD k K0) from fun h => g1 (Qnp.1 h).1)]; rfl
 rcases JF (f := QE.a mx l (k : Int) (l.getD k K0)) (fun i => (i : Int)) k (fun j => nm (l.getD j K0) ≠ nm (l.getD k K0)) (Z7 (by omega)) (fun i => .inl 8) (.inr ())
  (fun i hi hp _ => by rw [hstep i hi, decide_eq_true hp]; rfl)
  (fun i hi hp _ => by rw [hstep i hi, decide_eq_false hp]; rfl)
  (fun _ => by simp only [QE.a, nltd, cond_false]) with ⟨h, e⟩ | ⟨i, hi, hp, _, e⟩
 ·have e : iter mx (QE.a mx l (k : Int) (l.getD k K0)) (0 : Int) = _ := e
  rw [e, if_pos h]
 ·have e : iter mx (QE.a mx l (k : Int) (l.getD k K0)) (0 : Int) = _ := e
  rw [e, if_neg (fun h => hp (h i hi))]
theorem Qi8 {v : Img} (hb : ∀ k ∈ v.2.2.1, k.2.1.length ≤ 140737488351232 ∧ k.2.2.1.length ≤ 140737488351232) : QE mx v = some (if okI v then 0 else 8) := by
 obtain ⟨t, q, l, e, n, b⟩ := v
 dsimp only at hb
 simp only [QE, QlY, Option.bind_some]
 by_cases h1 : 0 ≤ t
 case neg => rw [decide_eq_true (show t < 0 by omega), if_neg (fun h : okI (t, q, l, e, n, b) => h1 h.1.1)]; rfl
 by_cases h1' : t ≤ 1099511627776
 case neg => rw [decide_eq_false (show ¬ t < 0 by omega), decide_eq_true (show 1099511627776 < t by omega), if_neg (fun h : okI (t, q, l, e, n, b) => h1' h.1.2)]; rfl
 rw [decide_eq_false (show ¬ t < 0 by omega), decide_eq_false (show ¬ 1099511627776 < t by omega)]
 by_cases h2 : Vu q
 case neg => rw [decide_eq_false h2, if_neg (fun h : okI (t, q, l, e, n, b) => h2 h.2.1)]; rfl
 rw [decide_eq_true h2]
 by_cases h3 : l.length ≤ 1024
 case neg => rw [decide_eq_true (show (1024 : Int) < (l.length : Int) by omega), if_neg (fun h : okI (t, q, l, e, n, b) => h3 h.2.2.1)]; rfl
 rw [decide_eq_false (show ¬ (1024 : Int) < (l.length : Int) by omega)]
 by_cases h4 : 0 ≤ e
 case neg => rw [decide_eq_true (show e < 0 by omega), if_neg (fun h : okI (t, q, l, e, n, b) => h4 h.2.2.2.1.1)]; rfl
 rw [decide_eq_false (show ¬ e < 0 by omega)]
 by_cases h4' : e ≤ 2147483647
 case neg => rw [decide_eq_true (show 2147483647 < e by omega), if_neg (fun h : okI (t, q, l, e, n, b) => h4' h.2.2.2.1.2)]; rfl
 rw [decide_eq_false (show ¬ 2147483647 < e by omega)]
 by_cases h5 : 0 ≤ n
 case neg => rw [decide_eq_true (show n < 0 by omega), if_neg (fun h : okI (t, q, l, e, n, b) => h5 h.2.2.2.2.1.1)]; rfl
 rw [decide_eq_false (show ¬ n < 0 by omega)]
 by_cases h5' : n ≤ 2147483647
 case neg => rw [decide_eq_true (show 2147483647 < n by omega), if_neg (fun h : okI (t, q, l, e, n, b) => h5' h.2.2.2.2.1.2)]; rfl
 rw [decide_eq_false (show ¬ 2147483647 < n by omega)]
 simp only [Bool.not_true, cond_false]
 have hstep : ∀ i, i < l.length → QE.b mx t q l (i : Int) = some (bif decide (Vi t q.length (l.getD i K0) ∧ ∀ j, j < i → nm (l.getD j K0) ≠ nm (l.getD i K0)) then .next ((i + 1 : Nat) : Int) else .fin (.inl 8)) := fun i hi => by
  obtain ⟨b1, b2⟩ := hb _ (Zt (d := K0) hi)
  have hin := Qqs (l := l) (by omega) hi
  have hdu := Qkk (l.getD i K0).2 t
  simp only [QE.b, ltd hi, lez, Bool.and_self, cond_true, Int.toNat_natCast, Qld, Option.bind_some, Qk6 _ b1 b2, hdu, hin]
  rw [Z8 (by omega)]
  have neg : ¬ Vi t q.length (l.getD i K0) → (bif decide (Vi t q.length (l.getD i K0) ∧ ∀ j, j < i → nm (l.getD j K0) ≠ nm (l.getD i K0)) then (Step.next ((i + 1 : Nat) : Int) : Step Int (Int ⊕ Unit)) else .fin (.inl 8)) = .fin (.inl 8) := fun h => by
   rw [decide_eq_false (fun hh => h hh.1)]; rfl
  by_cases g1 : (l.getD i K0).1 < 0
  ·rw [decide_eq_true g1, neg (fun h => by have := h.1; omega)]; rfl
  rw [decide_eq_false g1]
  by_cases g2 : (q.length : Int) ≤ (l.getD i K0).1
  ·rw [decide_eq_true g2, neg (fun h => by have := h.2.1; omega)]; rfl
  rw [decide_eq_false g2]
  by_cases g3 : 1 ≤ (l.getD i K0).2.1.length ∧ (l.getD i K0).2.1.length ≤ 32
  case neg => rw [decide_eq_false g3, neg (fun h => g3 ⟨h.2.2.1.1, h.2.2.1.2.1⟩)]; rfl
  rw [decide_eq_true g3]
  by_cases g4 : (l.getD i K0).2.2.1.length ≤ 512
  case neg => rw [decide_eq_false g4, neg (fun h => by have := h.2.2.1.2.2.1; omega)]; rfl
  rw [decide_eq_true g4]
  by_cases g5 : 0 ≤ (l.getD i K0).2.2.2.2.1 ∧ (l.getD i K0).2.2.2.2.1 ≤ 1099511627776
  case neg => rw [decide_eq_false g5, neg (fun h => g5 h.2.2.1.2.2.2)]; rfl
  rw [decide_eq_true g5]
  by_cases g6 : 8 + (l.getD i K0).2.1.length + (l.getD i K0).2.2.1.length ≤ 256
  case neg => rw [decide_eq_true (show (256 : Int) < ((8 + (l.getD i K0).2.1.length + (l.getD i K0).2.2.1.length : Nat) : Int) by omega), neg (fun h => g6 h.2.2.1.2.2.1)]; rfl
  rw [decide_eq_false (show ¬ (256 : Int) < ((8 + (l.getD i K0).2.1.length + (l.getD i K0).2.2.1.length : Nat) : Int) by omega)]
  cases g7 : dueB (l.getD i K0).2 t with
  | true => rw [neg (fun h => by rw [h.2.2.2] at g7; cases g7)]; rfl
  | false =>
   have hk : Vi t q.length (l.getD i K0) := ⟨by omega, by omega, ⟨g3.1, g3.2, g6, g5.1, g5.2⟩, g7⟩
   by_cases g8 : ∀ j, j < i → nm (l.getD j K0) ≠ nm (l.getD i K0)
   ·rw [if_pos g8, decide_eq_true (show Vi t q.length (l.getD i K0) ∧ ∀ j, j < i → nm (l.getD j K0) ≠ nm (l.getD i K0) from ⟨hk, g8⟩)]; rfl
   ·rw [if_neg g8, decide_eq_false (fun hh : Vi t q.length (l.getD i K0) ∧ ∀ j, j < i → nm (l.getD j K0) ≠ nm (l.getD i K0) => g8 hh.2)]; rfl
 rcases JF (f := QE.b mx t q l) (fun i => (i : Int)) l.length (fun i => Vi t q.length (l.getD i K0) ∧ ∀ j, j < i → nm (l.getD j K0) ≠ nm (l.getD i K0)) (Z7 (by omega)) (fun _ => .inl 8) (.inr ())
  (fun i hi hp _ => by rw [hstep i hi, decide_eq_true hp]; rfl)
  (fun i hi hp _ => by rw [hstep i hi, decide_eq_false hp]; rfl)
  (fun _ => by simp only [QE.b, nltd, cond_false]) with ⟨h, e1⟩ | ⟨i, hi, hp, _, e1⟩
 ·have e1 : iter mx (QE.b mx t q l) (0 : Int) = _ := e1
  have hall : ∀ k ∈ l, Vi t q.length k := fun k hk => by
   obtain ⟨j, hj, rfl⟩ := List.mem_iff_getElem.1 hk
   have := (h j hj).1
   rwa [getD_some hj] at this
  have hnd : (l.map nm).Nodup := by
   rw [List.Nodup, List.pairwise_iff_getElem]
   intro i j hi hj hij
   rw [List.length_map] at hi hj
   have := (h j hj).2 i hij
   rw [getD_some hi, getD_some hj] at this
   rw [List.getElem_map, List.getElem_map]; exact this
  rw [e1, if_pos (show okI (t, q, l, e, n, b) from ⟨⟨h1, h1'⟩, h2, h3, ⟨h4, h4'⟩, ⟨h5, h5'⟩, hall, hnd⟩)]; rfl
 ·have e1 : iter mx (QE.b mx t q l) (0 : Int) = _ := e1
  rw [e1, if_neg (fun h : okI (t, q, l, e, n, b) => hp ⟨h.2.2.2.2.2.1 _ (Zt hi), fun j hj hn => by
   have hnd := h.2.2.2.2.2.2
   dsimp only at hnd
   rw [getD_some (show j < l.length by omega), getD_some hi] at hn
   have : (l.map nm)[j]'(by rw [List.length_map]; omega) = (l.map nm)[i]'(by rw [List.length_map]; exact hi) := by rw [List.getElem_map, List.getElem_map, hn]
   have := (List.getElem_inj hnd).1 this
   omega⟩)]; rfl
end Go.Proofs.YtpfjjbpoikgocaaGreat
namespace Go.Proofs.YtpfjjbpoikgocaaGreat
open Go.Abs
set_option maxRecDepth 100000
theorem QqS {n : Nat} (h : n < 18446744073709551616) : IntKind.u64.wrap (n : Int) = (n : Int) := wu64 (by omega) (by omega)
theorem QfR : ∀ (f n : Nat) (acc : List Int) (k : Nat), n < 128 ^ (f + 1) → n < 18446744073709551616 → f < k → acc.length + f ≤ 1000000 →
  ∃ a b, QaG (QU.a mx) k ((n : Int), acc) = some (((a : Nat) : Int), b) ∧ b ++ [((a : Nat) : Int)] = acc ++ smF f n ∧ a < 128 ∧ b.length ≤ acc.length + f
 | f, n, acc, k, hn, hn2, hk, hl => by
  obtain ⟨k, rfl⟩ : ∃ m, k = m + 1 := ⟨k - 1, by omega⟩
  by_cases h : n < 128
  ·have e : QU.a mx ((n : Int), acc) = some (.fin ((n : Int), acc)) := by
    simp only [QU.a, decide_eq_false (show ¬ (128 : Int) ≤ (n : Int) by omega), cond_false]
   refine ⟨n, acc, Jr e, ?_, h, by omega⟩
   cases f with
   | zero => rfl
   | succ f => rw [smF, if_pos h]
  ·cases f with
   | zero => simp at hn; omega
   | succ f =>
    have e : QU.a mx ((n : Int), acc) = some (.next (((n / 128 : Nat) : Int), acc ++ [((n % 128 + 128 : Nat) : Int)])) := by
     have m1 : (n : Int).tmod (128 : Int) = ((n % 128 : Nat) : Int) := QbD n 128
     have d1 : (n : Int).tdiv (128 : Int) = ((n / 128 : Nat) : Int) := VZ n 128
     have e1 : IntKind.u8.wrap ((IntKind.u8.wrap ((n : Int).tmod (128 : Int))) + (128 : Int)) = ((n % 128 + 128 : Nat) : Int) := by
      rw [m1, wu8 (n := ((n % 128 : Nat) : Int)) (by omega) (by omega), wu8 (by omega) (by omega)]; rfl
     have e2 : IntKind.u64.wrap ((n : Int).tdiv (128 : Int)) = ((n / 128 : Nat) : Int) := by rw [d1, QqS (by omega)]
     have c1 : Nat.ble (acc.length + 1) 140737488351232 = true := ZQ (by omega)
     simp only [QU.a, decide_eq_true (show (128 : Int) ≤ (n : Int) by omega), cond_true, e1, e2, List.length_singleton, c1]
    rw [Jl e]
    obtain ⟨a, b, h1, h2, h3, h4⟩ := QfR f (n / 128) (acc ++ [((n % 128 + 128 : Nat) : Int)]) k (by rw [Nat.pow_succ] at hn; exact Nat.div_lt_of_lt_mul (by omega)) (by omega) (by omega) (by rw [List.length_append, List.length_singleton]; omega)
    rw [List.length_append, List.length_singleton] at h4
    refine ⟨a, b, h1, ?_, h3, by omega⟩
    rw [h2, smF, if_neg h, List.append_assoc]; rfl
theorem QiS {n : Int} (h1 : 0 ≤ n) (h2 : n ≤ 18446744073709551615) : QU mx n = some (sm n.toNat) := by
 obtain ⟨n, rfl⟩ := Int.eq_ofNat_of_zero_le h1
 have e0 : (128 : Nat) ^ (10 + 1) = 151115727451828646838272 := by decide
 obtain ⟨a, b, g1, g2, g3, g4⟩ := QfR 10 n [] N0 (by rw [e0]; omega) (by omega) (by unfold N0; omega) (by simp)
 have g1 : iter mx (QU.a mx) ((n : Int), ([] : List Int)) = _ := g1
 have c1 : Nat.ble (b.length + 1) 140737488351232 = true := ZQ (by simp at g4; omega)
 simp only [QU, g1, Option.bind_some, wu8n, List.length_singleton, c1, cond_true]
 rw [Nat.mod_eq_of_lt (by omega), g2]
 rfl
theorem Qcd {n : Int} (h1 : 0 ≤ n) (h2 : n ≤ 18446744073709551615) : QU mx (IntKind.u64.wrap n) = some (sm n.toNat) := by rw [wu64 h1 h2, QiS h1 h2]
theorem Qk9 {l : List Int} (hl : Qli l) : QI mx l = some (ZY l) := by
 obtain ⟨h1, h2⟩ := hl
 have := QL (f := QI.a mx l) (fun i => (ZY (l.take i), (i : Int))) l.length (r := ZY l) (Z7 (by omega)) (fun i hi => by
  obtain ⟨b1, b2⟩ := h2 _ (Zt (d := 0) hi)
  have hn := Qa2 (l.take i)
  rw [List.length_take] at hn
  have hs := ZD (l.getD i 0).toNat
  have c1 : Nat.ble ((ZY (l.take i)).length + (sm (l.getD i 0).toNat).length) 140737488351232 = true := ZQ (by omega)
  simp only [QI.a, ltd hi, lez, Bool.and_self, cond_true, Int.toNat_natCast, Qcd b1 (show l.getD i 0 ≤ 18446744073709551615 by omega), Option.bind_some, c1]
  rw [Z8 (by omega), QH hi 0, ZY, ZY, List.map_append, List.flatten_append]
  simp) (by simp only [QI.a, nltd, cond_false, List.take_length])
 have this : iter mx (QI.a mx l) (([] : List Int), (0 : Int)) = _ := this
 simp only [QI, this, Option.bind_some]
theorem Qhg {x : Int} (h1 : 0 ≤ x) (h2 : x ≤ 9223372036854775807) : QI mx [x] = some (sm x.toNat) := by
 have := Qk9 (l := [x]) ⟨by simp, fun y hy => by rw [List.mem_singleton] at hy; subst hy; exact ⟨h1, h2⟩⟩
 simpa [ZY] using this
theorem Qqr {x y : Int} (h1 : 0 ≤ x) (h2 : x ≤ 9223372036854775807) (h3 : 0 ≤ y) (h4 : y ≤ 9223372036854775807) : QI mx [x, y] = some (sm x.toNat ++ sm y.toNat) := by
 have := Qk9 (l := [x, y]) ⟨by simp, fun z hz => by
  rcases List.mem_cons.1 hz with rfl | hz
  ·exact ⟨h1, h2⟩
  ·rw [List.mem_singleton] at hz; subst hz; exact ⟨h3, h4⟩⟩
 simpa [ZY] using this
theorem Qh0 {s : List Int} (hs : s.length ≤ 1000000000) : J9 mx s = some (txt s) := by
 have h := ZD ((s.length : Int).toNat)
 have c1 : Nat.ble ((sm ((s.length : Int).toNat)).length + s.length) 140737488351232 = true := ZQ (by omega)
 simp only [J9, Qcd (show 0 ≤ (s.length : Int) by omega) (show (s.length : Int) ≤ 18446744073709551615 by omega), Option.bind_some, c1, cond_true]
 rfl
def Qcm (x : Itm) : List Int := txt x.1 ++ txt x.2.1 ++ sm x.2.2.1.toNat ++ sm x.2.2.2.1.toNat ++ sm x.2.2.2.2.toNat
theorem QfS {x : Itm} (h1 : x.1.length ≤ 100000000) (h2 : x.2.1.length ≤ 100000000) (h3 : 0 ≤ x.2.2.1 ∧ x.2.2.1 ≤ 4294967295) (h4 : 0 ≤ x.2.2.2.1 ∧ x.2.2.2.1 ≤ 9223372036854775807) (h5 : 0 ≤ x.2.2.2.2 ∧ x.2.2.2.2 ≤ 18446744073709551615) :
  Jn mx x = some (Qcm x) := by
 have a1 := Qad x.1
 have a2 := Qad x.2.1
 have a3 := ZD x.2.2.1.toNat
 have a4 := ZD x.2.2.2.1.toNat
 have a5 := ZD x.2.2.2.2.toNat
 have c1 : Nat.ble ((txt x.1).length + (txt x.2.1).length) 140737488351232 = true := ZQ (by omega)
 have c2 : Nat.ble ((txt x.1 ++ txt x.2.1).length + (sm x.2.2.1.toNat).length) 140737488351232 = true := ZQ (by simp only [List.length_append]; omega)
 have c3 : Nat.ble ((txt x.1 ++ txt x.2.1 ++ sm x.2.2.1.toNat).length + (sm x.2.2.2.1.toNat).length) 140737488351232 = true := ZQ (by simp only [List.length_append]; omega)
 have c4 : Nat.ble ((txt x.1 ++ txt x.2.1 ++ sm x.2.2.1.toNat ++ sm x.2.2.2.1.toNat).length + (sm x.2.2.2.2.toNat).length) 140737488351232 = true := ZQ (by simp only [List.length_append]; omega)
 simp only [Jn, Qh0 (s := x.1) (by omega), Qh0 (s := x.2.1) (by omega), Option.bind_some, c1, cond_true, Qcd h3.1 (show x.2.2.1 ≤ 18446744073709551615 by omega), c2, Qhg h4.1 h4.2, c3, QiS h5.1 h5.2, c4]
 rfl
theorem QpC (a : Int) : VM mx a = some (decide (0 ≤ a ∧ a < 4)) := by
 simp only [VM]
 by_cases h : 0 ≤ a
 ·rw [decide_eq_true h]; simp [h]
 ·rw [decide_eq_false h]; simp [h]
theorem Ql2 (c : Chg) : JD mx (c.1, c.2.1, c.2.2.1.1, c.2.2.1.2.1, c.2.2.1.2.2.1, c.2.2.1.2.2.2.1, c.2.2.1.2.2.2.2, c.2.2.2) = some (decide (chOk c)) := by
 obtain ⟨kd, t, ⟨k, v, f, d, cs⟩, b, how, n, yes⟩ := c
 suffices h : ∃ B, JD mx (kd, t, k, v, f, d, cs, b, how, n, yes) = some B ∧ (B = true ↔ chOk (kd, t, (k, v, f, d, cs), b, how, n, yes)) by
  obtain ⟨B, h1, h2⟩ := h
  show JD mx (kd, t, k, v, f, d, cs, b, how, n, yes) = _
  rw [h1]; congr 1
  cases B with
  | true => exact (decide_eq_true (h2.1 rfl)).symm
  | false => exact (decide_eq_false fun h => by have := h2.2 h; cases this).symm
 have fin : ∀ (r : Int × Int × List Int × List Int × Int × Int × Int × List Int × Int × Int × Bool) (B : Bool), J8.a mx kd t k v f d cs b how n yes = some r →
   (bif kd == (1 : Int) then (Va mx (k, v, f, d, cs)).bind fun x6 => some x6
    else bif kd == (2 : Int) then (VC mx b).bind fun x8 => bif x8 then (bif how == (1 : Int) then some true else some (how == (2 : Int))) else some false
    else bif kd == (3 : Int) then some true else
    bif kd == (4 : Int) then (bif decide ((0 : Int) ≤ n) then some (decide (n ≤ (1099511627776 : Int))) else some false)
    else bif kd == (5 : Int) then (bif decide ((0 : Int) ≤ n) then some (decide (n ≤ (16 : Int))) else some false)
    else bif kd == (6 : Int) then (bif decide ((0 : Int) ≤ n) then some (decide (n ≤ (2147483647 : Int))) else some false)
    else bif kd == (7 : Int) then (bif decide ((0 : Int) ≤ n) then some (decide (n ≤ (2147483647 : Int))) else some false) else some false) = some B →
   JD mx (kd, t, k, v, f, d, cs, b, how, n, yes) = some (((r.1 == kd) && ((r.2.1 == t) && (((r.2.2.1 == k) && ((r.2.2.2.1 == v) && ((r.2.2.2.2.1 == f) && ((r.2.2.2.2.2.1 == d) && ((r.2.2.2.2.2.2.1 == cs) && true))))) && ((r.2.2.2.2.2.2.2.1 == b) && ((r.2.2.2.2.2.2.2.2.1 == how) && ((r.2.2.2.2.2.2.2.2.2.1 == n) && ((r.2.2.2.2.2.2.2.2.2.2 == yes) && true))))))) &&
    (decide (0 ≤ t ∧ t < 4) && B)) := fun r B e e2 => by
  simp only [JD, J8, e, Option.bind_some, QpC]
  cases ((r.1 == kd) && ((r.2.1 == t) && (((r.2.2.1 == k) && ((r.2.2.2.1 == v) && ((r.2.2.2.2.1 == f) && ((r.2.2.2.2.2.1 == d) && ((r.2.2.2.2.2.2.1 == cs) && true))))) && ((r.2.2.2.2.2.2.2.1 == b) && ((r.2.2.2.2.2.2.2.2.1 == how) && ((r.2.2.2.2.2.2.2.2.2.1 == n) && ((r.2.2.2.2.2.2.2.2.2.2 == yes) && true))))))) with
  | false => rfl
  | true =>
   cases decide (0 ≤ t ∧ t < 4) with
   | false => rfl
   | true =>
    simp only [Bool.not_true, cond_false, Bool.true_and]
    exact e2
 have rng : ∀ m : Int, (bif decide ((0 : Int) ≤ n) then some (decide (n ≤ m)) else some false) = some (decide (0 ≤ n ∧ n ≤ m)) := fun m => by
  by_cases h : 0 ≤ n
  ·rw [decide_eq_true h]; simp [h]
  ·rw [decide_eq_false h]; simp [h]
 by_cases k1 : kd = 1
 ·subst k1
  refine ⟨_, fin _ (decide (1 ≤ k.length ∧ k.length ≤ 32) && (decide (v.length ≤ 512) && decide (0 ≤ d ∧ d ≤ 1099511627776))) rfl (by simp only [beq_self_eq_true, cond_true, Qld, Option.bind_some]), ?_⟩
  simp only [Bool.and_eq_true, decide_eq_true_eq, beq_iff_eq, chOk, itm0]
  grind
 by_cases k2 : kd = 2
 ·subst k2
  have e : ((2 : Int) == 1) = false := rfl
  refine ⟨_, fin _ (decide (1 ≤ b.length ∧ b.length ≤ 32) && ((how == 1) || (how == 2))) rfl (by
   simp only [e, beq_self_eq_true, cond_true, cond_false, QmU, Option.bind_some]
   cases decide (1 ≤ b.length ∧ b.length ≤ 32) <;> cases (how == 1) <;> rfl), ?_⟩
  simp only [Bool.and_eq_true, Bool.or_eq_true, decide_eq_true_eq, beq_iff_eq, chOk, itm0]
  grind
 have z1 : (kd == 1) = false := by simpa using k1
 have z2 : (kd == 2) = false := by simpa using k2
 by_cases k3 : kd = 3
 ·subst k3
  refine ⟨_, fin _ true rfl rfl, ?_⟩
  simp only [Bool.and_eq_true, decide_eq_true_eq, beq_iff_eq, chOk, itm0]
  grind
 have z3 : (kd == 3) = false := by simpa using k3
 by_cases k4 : kd = 4
 ·subst k4
  refine ⟨_, fin _ (decide (0 ≤ n ∧ n ≤ 1099511627776)) rfl (by simp only [z1, z2, z3, beq_self_eq_true, cond_true, cond_false, rng]), ?_⟩
  simp only [Bool.and_eq_true, decide_eq_true_eq, beq_iff_eq, chOk, itm0]
  grind
 have z4 : (kd == 4) = false := by simpa using k4
 by_cases k5 : kd = 5
 ·subst k5
  refine ⟨_, fin _ (decide (0 ≤ n ∧ n ≤ 16)) rfl (by simp only [z1, z2, z3, z4, beq_self_eq_true, cond_true, cond_false, rng]), ?_⟩
  simp only [Bool.and_eq_true, decide_eq_true_eq, beq_iff_eq, chOk, itm0]
  grind
 have z5 : (kd == 5) = false := by simpa using k5
 by_cases k6 : kd = 6
 ·subst k6
  refine ⟨_, fin _ (decide (0 ≤ n ∧ n ≤ 2147483647)) rfl (by simp only [z1, z2, z3, z4, z5, beq_self_eq_true, cond_true, cond_false, rng]), ?_⟩
  simp only [Bool.and_eq_true, decide_eq_true_eq, beq_iff_eq, chOk, itm0]
  grind
 have z6 : (kd == 6) = false := by simpa using k6
 by_cases k7 : kd = 7
 ·subst k7
  refine ⟨_, fin _ (decide (0 ≤ n ∧ n ≤ 2147483647)) rfl (by simp only [z1, z2, z3, z4, z5, z6, beq_self_eq_true, cond_true, cond_false, rng]), ?_⟩
  simp only [Bool.and_eq_true, decide_eq_true_eq, beq_iff_eq, chOk, itm0]
  grind
 have z7 : (kd == 7) = false := by simpa using k7
 refine ⟨_, fin (kd, 0, [], [], 0, 0, 0, [], 0, 0, false) false (by simp only [J8.a, z1, z2, z3, z4, z5, z6, z7, cond_false]) (by simp only [z1, z2, z3, z4, z5, z6, z7, cond_false]), ?_⟩
 simp only [Bool.and_false, Bool.false_eq_true, false_iff]
 rintro ⟨_, h | h | h | h | h | h | h⟩
 ·exact k1 h.1
 ·exact k2 h.1
 ·exact k3 h.1
 ·exact k4 h.1
 ·exact k5 h.1
 ·exact k6 h.1
 ·exact k7 h.1
theorem QpD {c : Chg} (hc : chOk c) (hw : wfC c) :
  JK mx (c.1, c.2.1, c.2.2.1.1, c.2.2.1.2.1, c.2.2.1.2.2.1, c.2.2.1.2.2.2.1, c.2.2.1.2.2.2.2, c.2.2.2) = some (putB c) := by
 obtain ⟨kd, t, ⟨k, v, f, d, cs⟩, b, how, n, yes⟩ := c
 obtain ⟨⟨w1, w2⟩, w3, w4⟩ := hw
 obtain ⟨⟨t1, t2⟩, hc⟩ := hc
 dsimp only at w1 w2 w3 w4 t1 t2 hc
 have a1 := ZD t.toNat
 have a7 := Qad b
 have a8 := ZD n.toNat
 have ble : ∀ {x : Nat}, x ≤ 1000000 → Nat.ble x 140737488351232 = true := fun h => ZQ (by omega)
 have ht := Qhg t1 (show t ≤ 9223372036854775807 by omega)
 rcases hc with h | h | h | h | h | h | h
 ·obtain ⟨rfl, ⟨⟨h1, h2⟩, h3, h4, h5⟩, rfl, rfl, rfl, rfl⟩ := h
  have hi := QfS (x := (k, v, f, d, cs)) (show k.length ≤ 100000000 by omega) (show v.length ≤ 100000000 by omega) ⟨w1, w2⟩ ⟨h4, by dsimp only; omega⟩ ⟨w3, w4⟩
  have hil : (Qcm (k, v, f, d, cs)).length ≤ 1000 := by
   have a2 := Qad k
   have a3 := Qad v
   have a4 := ZD f.toNat
   have a5 := ZD d.toNat
   have a6 := ZD cs.toNat
   unfold Qcm; simp only [List.length_append]; omega
  simp only [JK, beq_self_eq_true, cond_true, ht, Option.bind_some, List.length_singleton, ble (show 1 + (sm t.toNat).length ≤ 1000000 by omega), hi,
   ble (show ([(1 : Int)] ++ sm t.toNat).length + (Qcm (k, v, f, d, cs)).length ≤ 1000000 by rw [List.length_append, List.length_singleton]; omega), putB, reduceIte]
  simp only [Qcm, List.append_assoc]
 ·obtain ⟨rfl, ⟨⟨h1, h2⟩, h3⟩, h4, rfl, rfl⟩ := h
  have e2 : ((2 : Int) == 1) = false := rfl
  simp only [JK, e2, cond_false, beq_self_eq_true, cond_true, ht, Option.bind_some, List.length_singleton, ble (show 1 + (sm t.toNat).length ≤ 1000000 by omega), Qh0 (s := b) (by omega),
   ble (show ([(2 : Int)] ++ sm t.toNat).length + (txt b).length ≤ 1000000 by rw [List.length_append, List.length_singleton]; omega), ble (show ([(2 : Int)] ++ sm t.toNat ++ txt b).length + 1 ≤ 1000000 by simp only [List.length_append, List.length_singleton]; omega), putB, reduceIte]
  rw [if_neg (by decide)]
 ·obtain ⟨rfl, _⟩ := h
  have e2 : ((3 : Int) == 1) = false := rfl
  have e3 : ((3 : Int) == 2) = false := rfl
  simp only [JK, e2, e3, cond_false, beq_self_eq_true, cond_true, ht, Option.bind_some, List.length_singleton, ble (show 1 + (sm t.toNat).length ≤ 1000000 by omega), putB, Int.reduceEq, reduceIte]
 ·obtain ⟨rfl, ⟨h1, h2⟩, _⟩ := h
  have e2 : ((4 : Int) == 1) = false := rfl
  have e3 : ((4 : Int) == 2) = false := rfl
  have e4 : ((4 : Int) == 3) = false := rfl
  simp only [JK, e2, e3, e4, cond_false, beq_self_eq_true, cond_true, Qhg h1 (show n ≤ 9223372036854775807 by omega), Option.bind_some, List.length_singleton, ble (show 1 + (sm n.toNat).length ≤ 1000000 by omega), putB, Int.reduceEq, reduceIte]
 ·obtain ⟨rfl, ⟨h1, h2⟩, _⟩ := h
  have e2 : ((5 : Int) == 1) = false := rfl
  have e3 : ((5 : Int) == 2) = false := rfl
  have e4 : ((5 : Int) == 3) = false := rfl
  have e5 : ((5 : Int) == 4) = false := rfl
  simp only [JK, e2, e3, e4, e5, cond_false, beq_self_eq_true, cond_true, Qqr t1 (show t ≤ 9223372036854775807 by omega) h1 (show n ≤ 9223372036854775807 by omega), Option.bind_some, List.length_singleton, List.length_append,
   ble (show 1 + ((sm t.toNat).length + (sm n.toNat).length) ≤ 1000000 by omega), putB, Int.reduceEq, reduceIte, List.append_assoc]
 ·obtain ⟨rfl, ⟨h1, h2⟩, _⟩ := h
  have e2 : ((6 : Int) == 1) = false := rfl
  have e3 : ((6 : Int) == 2) = false := rfl
  have e4 : ((6 : Int) == 3) = false := rfl
  have e5 : ((6 : Int) == 4) = false := rfl
  have e6 : ((6 : Int) == 5) = false := rfl
  have e7 : ((6 : Int) == 7) = false := rfl
  simp only [JK, e2, e3, e4, e5, e6, e7, cond_false, beq_self_eq_true, cond_true, Qhg h1 (show n ≤ 9223372036854775807 by omega), Option.bind_some, List.length_singleton, ble (show 1 + (sm n.toNat).length ≤ 1000000 by omega),
   ble (show ([(6 : Int)] ++ sm n.toNat).length + 1 ≤ 1000000 by rw [List.length_append, List.length_singleton]; omega), putB, Int.reduceEq, reduceIte]
  cases yes <;> rfl
 ·obtain ⟨rfl, ⟨h1, h2⟩, _⟩ := h
  have e2 : ((7 : Int) == 1) = false := rfl
  have e3 : ((7 : Int) == 2) = false := rfl
  have e4 : ((7 : Int) == 3) = false := rfl
  have e5 : ((7 : Int) == 4) = false := rfl
  have e6 : ((7 : Int) == 5) = false := rfl
  simp only [JK, e2, e3, e4, e5, e6, cond_false, beq_self_eq_true, cond_true, Qhg h1 (show n ≤ 9223372036854775807 by omega), Option.bind_some, List.length_singleton, ble (show 1 + (sm n.toNat).length ≤ 1000000 by omega), putB, Int.reduceEq, reduceIte]
theorem Qce {cs : List Chg} (hw : ∀ c ∈ cs, wfC c) : Ql mx cs = some (if VX cs = 0 then Ji cs else [], VX cs) := by
 simp only [Ql]
 by_cases h1 : 4096 < cs.length
 ·have : VX cs = 4 := by unfold VX; rw [if_pos h1]
  rw [decide_eq_true (show (4096 : Int) < (cs.length : Int) by omega), this]; rfl
 rw [decide_eq_false (show ¬ (4096 : Int) < (cs.length : Int) by omega)]
 have hn := Qhg (x := (cs.length : Int)) (by omega) (by omega)
 rw [Int.toNat_natCast] at hn
 simp only [cond_false, hn, Option.bind_some]
 have hstep : ∀ i, i < cs.length → Ql.a mx cs (i : Int) = some (bif decide (chOk (cs.getD i C0)) then .next ((i + 1 : Nat) : Int) else .fin (.inl 8)) := fun i hi => by
  simp only [Ql.a, ltd hi, lez, Bool.and_self, cond_true, Int.toNat_natCast, Ql2, Option.bind_some]
  rw [Z8 (by omega)]
  by_cases h : chOk (cs.getD i C0)
  ·rw [decide_eq_true h]; rfl
  ·rw [decide_eq_false h]; rfl
 rcases JF (f := Ql.a mx cs) (fun i => (i : Int)) cs.length (fun i => chOk (cs.getD i C0)) (Z7 (by omega)) (fun _ => .inl 8) (.inr ())
  (fun i hi hp _ => by rw [hstep i hi, decide_eq_true hp]; rfl)
  (fun i hi hp _ => by rw [hstep i hi, decide_eq_false hp]; rfl)
  (fun _ => by simp only [Ql.a, nltd, cond_false]) with ⟨h, e1⟩ | ⟨i, hi, hp, _, e1⟩
 ·have e1 : iter mx (Ql.a mx cs) (0 : Int) = _ := e1
  have hall : ∀ c ∈ cs, chOk c := fun k hk => by
   obtain ⟨j, hj, rfl⟩ := List.mem_iff_getElem.1 hk
   have := h j hj
   rwa [getD_some hj] at this
  rw [e1]
  simp only [Option.bind_some]
  have hs := ZD cs.length
  have hce : VX cs = if 65536 < (Ji cs).length then 3 else 0 := by unfold VX; rw [if_neg h1, if_pos hall]
  have hlen : ∀ i, i ≤ cs.length → (Z3 (cs.take i)).length ≤ 700 * i := fun i => by
   induction i with
   | zero => intro _; simp [Z3]
   | succ i ih =>
    intro hi
    rw [QH (l := cs) (k := i) (by omega) C0, QbU, Qd4, List.length_append]
    have := ih (by omega)
    have := Qh5 (hall _ (Zt (d := C0) (show i < cs.length by omega)))
    omega
  have hmono : ∀ i, i ≤ cs.length → (Z3 (cs.take i)).length ≤ (Z3 cs).length := fun i hi => by
   conv => rhs; rw [← List.take_append_drop i cs, QbU, List.length_append]
   omega
  have hst2 : ∀ i, i < cs.length → Ql.c mx cs (sm cs.length ++ Z3 (cs.take i), (i : Int)) = some (bif decide ((sm cs.length ++ Z3 (cs.take i)).length ≤ 65536) then .next (sm cs.length ++ Z3 (cs.take (i + 1)), ((i + 1 : Nat) : Int)) else .fin (sm cs.length ++ Z3 (cs.take i))) := fun i hi => by
   have hl := hlen i (by omega)
   have hp := QpD (hall _ (Zt (d := C0) hi)) (hw _ (Zt (d := C0) hi))
   have hpl := Qh5 (hall _ (Zt (d := C0) hi))
   have e3 : sm cs.length ++ Z3 (cs.take i) ++ putB (cs.getD i C0) = sm cs.length ++ Z3 (cs.take (i + 1)) := by
    rw [QH hi C0, QbU, Qd4, List.append_assoc]
   have c1 : Nat.ble ((sm cs.length ++ Z3 (cs.take i)).length + (putB (cs.getD i C0)).length) 140737488351232 = true := ZQ (by rw [List.length_append]; omega)
   have es : Ql.b mx cs (sm cs.length ++ Z3 (cs.take i), (i : Int)) = some (bif decide ((sm cs.length ++ Z3 (cs.take i)).length ≤ 65536) then .inl () else .inr ()) := by
    simp only [Ql.b, ltd hi, cond_true]
    by_cases h : (sm cs.length ++ Z3 (cs.take i)).length ≤ 65536
    ·rw [decide_eq_true h, decide_eq_true (show (((sm cs.length ++ Z3 (cs.take i)).length : Nat) : Int) ≤ 65536 by omega)]; rfl
    ·rw [decide_eq_false h, decide_eq_false (show ¬ (((sm cs.length ++ Z3 (cs.take i)).length : Nat) : Int) ≤ 65536 by omega)]; rfl
   simp only [Ql.c, es, Option.bind_some]
   cases decide ((sm cs.length ++ Z3 (cs.take i)).length ≤ 65536) with
   | false => rfl
   | true =>
    simp only [cond_true, ltd hi, lez, Bool.and_self, Int.toNat_natCast, hp, Option.bind_some, c1, e3]
    rw [Z8 (by omega)]
  have big : ∀ x : List Int, 65536 < x.length → 65536 < (Ji cs).length → (bif decide ((65536 : Int) < (x.length : Int)) then some (([] : List Int), (3 : Int)) else some (x, 0)) = some (if VX cs = 0 then Ji cs else [], VX cs) := fun x hx hc => by
   rw [decide_eq_true (show (65536 : Int) < (x.length : Int) by omega), hce, if_pos hc]; rfl
  rcases JF (f := Ql.c mx cs) (fun i => (sm cs.length ++ Z3 (cs.take i), (i : Int))) cs.length (fun i => (sm cs.length ++ Z3 (cs.take i)).length ≤ 65536) (Z7 (by omega)) (fun i => sm cs.length ++ Z3 (cs.take i)) (Ji cs)
   (fun i hi hp _ => by rw [hst2 i hi, decide_eq_true hp]; rfl)
   (fun i hi hp _ => by rw [hst2 i hi, decide_eq_false hp]; rfl)
   (fun _ => by simp only [Ql.c, Ql.b, nltd, cond_false, List.take_length, Option.bind_some]; rfl) with ⟨h2, e2⟩ | ⟨i, hi, hp, _, e2⟩
  ·have e2 : iter mx (Ql.c mx cs) (sm cs.length ++ Z3 (cs.take 0), (0 : Int)) = _ := e2
   have e0 : sm cs.length ++ Z3 (cs.take 0) = sm cs.length := by simp [Z3]
   rw [e0] at e2
   rw [e2]
   simp only [Option.bind_some]
   by_cases h3 : 65536 < (Ji cs).length
   ·exact big _ h3 h3
   ·rw [decide_eq_false (show ¬ (65536 : Int) < ((Ji cs).length : Int) by omega), hce, if_neg h3]; rfl
  ·have e2 : iter mx (Ql.c mx cs) (sm cs.length ++ Z3 (cs.take 0), (0 : Int)) = _ := e2
   have e0 : sm cs.length ++ Z3 (cs.take 0) = sm cs.length := by simp [Z3]
   rw [e0] at e2
   rw [e2]
   have hm := hmono i (by omega)
   refine big _ (by omega) ?_
   unfold Ji
   simp only [List.length_append] at hp ⊢
   omega
 ·have e1 : iter mx (Ql.a mx cs) (0 : Int) = _ := e1
  have : VX cs = 8 := by unfold VX; rw [if_neg h1, if_neg (fun h => hp (h _ (Zt hi)))]
  rw [e1, this]; rfl
end Go.Proofs.YtpfjjbpoikgocaaGreat
namespace Go.Proofs.YtpfjjbpoikgocaaGreat
open Go.Abs
set_option maxRecDepth 100000
theorem Qn6 {a b : List Int} (ha : QV a) (hb : QV b) : QV (a ++ b) := fun x hx => (List.mem_append.1 hx).elim (ha x) (hb x)
def vl : List Int → Nat
 | [] => 0
 | x :: l => x.toNat % 128 + 128 * vl l
theorem Qpw : ∀ (f n : Nat), n < 128 ^ (f + 1) → vl (smF f n) = n
 | 0, n, h => by simp at h; simp [smF, vl]; omega
 | f + 1, n, h => by
  rw [smF]
  split
  ·simp [vl]; omega
  ·rw [vl, Qpw f (n / 128) (by rw [Nat.pow_succ] at h; exact Nat.div_lt_of_lt_mul (by omega)), Int.toNat_natCast]; omega
theorem Qk3 : ∀ (f n : Nat), n < 128 ^ (f + 1) → (∀ j, j + 1 < (smF f n).length → 128 ≤ (smF f n).getD j 0) ∧ (smF f n).getD ((smF f n).length - 1) 0 < 128 ∧
    (1 < (smF f n).length → (smF f n).getD ((smF f n).length - 1) 0 ≠ 0) ∧ ∀ m, 128 ^ m ≤ n → m < (smF f n).length
  | 0, n, h => by
    simp at h
    refine ⟨fun j hj => by simp [smF] at hj, by simp [smF]; omega, fun hh => by simp [smF] at hh, fun m hm => ?_⟩
    cases m with
    | zero => simp [smF]
    | succ m => have := Nat.one_le_two_pow (n := 0); have : 128 ≤ 128 ^ (m + 1) := by rw [Nat.pow_succ]; have := Nat.pow_pos (n := m) (show 0 < 128 by decide); omega
                omega
  | f + 1, n, h => by
    by_cases hn : n < 128
    · have e : smF (f + 1) n = [((n : Nat) : Int)] := by rw [smF, if_pos hn]
      rw [e]
      refine ⟨fun j hj => by simp at hj, by simp; omega, fun hh => by simp at hh, fun m hm => ?_⟩
      cases m with
      | zero => simp
      | succ m => have : 128 ≤ 128 ^ (m + 1) := by rw [Nat.pow_succ]; have := Nat.pow_pos (n := m) (show 0 < 128 by decide); omega
                  omega
    · have e : smF (f + 1) n = ((n % 128 + 128 : Nat) : Int) :: smF f (n / 128) := by rw [smF, if_neg hn]
      obtain ⟨h1, h2, h3, h4⟩ := Qk3 f (n / 128) (by rw [Nat.pow_succ] at h; exact Nat.div_lt_of_lt_mul (by omega))
      have hl := (QhX f (n / 128)).1
      rw [e]
      have hg : ∀ j, (((n % 128 + 128 : Nat) : Int) :: smF f (n / 128)).getD (j + 1) 0 = (smF f (n / 128)).getD j 0 := fun j => by simp
      have hlast : (((n % 128 + 128 : Nat) : Int) :: smF f (n / 128)).length - 1 = ((smF f (n / 128)).length - 1) + 1 := by rw [List.length_cons]; omega
      refine ⟨fun j hj => ?_, ?_, fun _ => ?_, fun m hm => ?_⟩
      · cases j with
        | zero => simp; omega
        | succ j => rw [hg]; exact h1 j (by rw [List.length_cons] at hj; omega)
      · rw [hlast, hg]; exact h2
      · rw [hlast, hg]
        by_cases hl1 : 1 < (smF f (n / 128)).length
        · exact h3 hl1
        ·
          have hlt : n / 128 < 128 := by
            rcases Nat.lt_or_ge (n / 128) 128 with h | h
            · exact h
            · have := h4 1 (by simpa using h); omega
          have : smF f (n / 128) = [((n / 128 : Nat) : Int)] := by
            cases f with
            | zero => rfl
            | succ f => rw [smF, if_pos hlt]
          rw [this]; simp; omega
      · cases m with
        | zero => simp
        | succ m =>
          have := h4 m (by rw [Nat.pow_succ] at hm; exact (Nat.le_div_iff_mul_le (by decide)).2 hm)
          rw [List.length_cons]; omega
theorem QiV {a : List Int} (hl : a.length ≤ 1000000) : ∃ i : Nat, iter mx (Qr.b mx a) (0 : Int) = some (i : Int) ∧ i ≤ a.length ∧ i ≤ 10 ∧ (∀ j, j < i → 128 ≤ a.getD j 0) ∧ (i < a.length → i < 10 → a.getD i 0 < 128) := by
 have hs : ∀ i, i ≤ a.length → Qr.a mx a (i : Int) = some (if i < a.length ∧ i < 10 ∧ 128 ≤ a.getD i 0 then .inl () else .inr ()) := fun i hi => by
  simp only [Qr.a]
  by_cases h1 : i < a.length
  case neg => rw [decide_eq_false (show ¬ (i : Int) < (a.length : Int) by omega), if_neg (fun hh => h1 hh.1)]; rfl
  rw [ltd h1]
  by_cases h2 : i < 10
  case neg => rw [decide_eq_false (show ¬ (i : Int) < 10 by omega), if_neg (fun hh => h2 hh.2.1)]; rfl
  rw [decide_eq_true (show (i : Int) < 10 by omega)]
  simp only [cond_true, lez, Bool.and_self, Int.toNat_natCast]
  by_cases h3 : 128 ≤ a.getD i 0
  ·rw [decide_eq_true h3, if_pos ⟨h1, h2, h3⟩]; rfl
  ·rw [decide_eq_false h3, if_neg (fun hh => h3 hh.2.2)]; rfl
 rcases JF (f := Qr.b mx a) (fun i => (i : Int)) (min a.length 10) (fun i => 128 ≤ a.getD i 0) (Z7 (by omega)) (fun i => (i : Int)) ((min a.length 10 : Nat) : Int)
  (fun i hi hp _ => by
   simp only [Qr.b, hs i (by omega), if_pos (show i < a.length ∧ i < 10 ∧ 128 ≤ a.getD i 0 from ⟨by omega, by omega, hp⟩), Option.bind_some]
   rw [Z8 (by omega)])
  (fun i hi hp _ => by
   simp only [Qr.b, hs i (by omega), if_neg (show ¬ (i < a.length ∧ i < 10 ∧ 128 ≤ a.getD i 0) from fun hh => hp hh.2.2), Option.bind_some])
  (fun _ => by
   simp only [Qr.b, hs (min a.length 10) (by omega), if_neg (show ¬ (min a.length 10 < a.length ∧ min a.length 10 < 10 ∧ 128 ≤ a.getD (min a.length 10) 0) from fun hh => by omega), Option.bind_some]) with ⟨h, e⟩ | ⟨i, hi, hp, hb, e⟩
 ·exact ⟨_, e, by omega, by omega, h, fun h1 h2 => by omega⟩
 ·exact ⟨i, e, by omega, by omega, hb, fun _ _ => by omega⟩
theorem QiT {a : List Int} (hb : QV a) {i : Nat} (hi : i < a.length) (hl : a.length ≤ 1000000) : ∃ v : Int, iter mx (Qr.d mx a) ((0 : Int), (i : Int)) = some v ∧ (0 ≤ v ∧ v ≤ 18446744073709551615) ∧
    (vl (a.take (i + 1)) < 18446744073709551616 → v = ((vl (a.take (i + 1)) : Nat) : Int)) := by
  have key : ∀ (j : Nat) (acc : Nat) (k : Nat), j ≤ i → acc < 18446744073709551616 → j + 1 < k → ∃ v : Int, QaG (Qr.d mx a) k ((acc : Int), (j : Int)) = some v ∧ (0 ≤ v ∧ v ≤ 18446744073709551615) ∧
      (vl (a.take (j + 1)) + 128 ^ (j + 1) * acc < 18446744073709551616 → v = ((vl (a.take (j + 1)) + 128 ^ (j + 1) * acc : Nat) : Int)) := fun j => by
    induction j with
    | zero =>
      intro acc k hj ha hk
      obtain ⟨k, rfl⟩ : ∃ m, k = m + 2 := ⟨k - 2, by omega⟩
      obtain ⟨b1, b2⟩ := QdO hb 0
      have hm : (a.getD 0 0).tmod 128 = (((a.getD 0 0).toNat % 128 : Nat) : Int) := by
        conv => lhs; rw [← Int.toNat_of_nonneg b1]
        exact QbD _ 128
      have st : Qr.d mx a ((acc : Int), ((0 : Nat) : Int)) = some (.next (IntKind.u64.wrap (IntKind.u64.wrap ((acc : Int) * 128) + (((a.getD 0 0).toNat % 128 : Nat) : Int)), (-1 : Int))) := by
        have e0 : decide ((0 : Int) ≤ ((0 : Nat) : Int)) = true := rfl
        have e1 : IntKind.i64.wrap (((0 : Nat) : Int) - 1) = -1 := rfl
        simp only [Qr.d, e0, ltd (show 0 < a.length by omega), Bool.and_self, cond_true, Int.toNat_natCast, hm, e1]
        rw [wu64 (n := (((a.getD 0 0).toNat % 128 : Nat) : Int)) (by omega) (by omega)]
      have st2 : ∀ x : Int, Qr.d mx a (x, (-1 : Int)) = some (.fin x) := fun x => by
        simp only [Qr.d, decide_eq_false (show ¬ (0 : Int) ≤ -1 by decide), cond_false]
      have hx : vl (a.take (0 + 1)) = (a.getD 0 0).toNat % 128 := by
        rw [QH (show 0 < a.length by omega) 0]; simp [vl]
      rw [Jl st, Jr (st2 _)]
      refine ⟨_, rfl, Qj9 _, fun hh => ?_⟩
      rw [hx] at hh ⊢
      rw [wu64 (n := (acc : Int) * 128) (by omega) (by omega), wu64 (by omega) (by omega)]
      omega
    | succ j ih =>
      intro acc k hj ha hk
      obtain ⟨k, rfl⟩ : ∃ m, k = m + 1 := ⟨k - 1, by omega⟩
      obtain ⟨b1, b2⟩ := QdO hb (j + 1)
      have hm : (a.getD (j + 1) 0).tmod 128 = (((a.getD (j + 1) 0).toNat % 128 : Nat) : Int) := by
        conv => lhs; rw [← Int.toNat_of_nonneg b1]
        exact QbD _ 128
      have st : Qr.d mx a ((acc : Int), ((j + 1 : Nat) : Int)) = some (.next (IntKind.u64.wrap (IntKind.u64.wrap ((acc : Int) * 128) + (((a.getD (j + 1) 0).toNat % 128 : Nat) : Int)), (j : Int))) := by
        have e1 : IntKind.i64.wrap (((j + 1 : Nat) : Int) - 1) = (j : Int) := by rw [w64 (by omega) (by omega)]; omega
        simp only [Qr.d, lez, ltd (show j + 1 < a.length by omega), Bool.and_self, cond_true, Int.toNat_natCast, hm, e1]
        rw [wu64 (n := (((a.getD (j + 1) 0).toNat % 128 : Nat) : Int)) (by omega) (by omega)]
      have hr := Qj9 (IntKind.u64.wrap ((acc : Int) * 128) + (((a.getD (j + 1) 0).toNat % 128 : Nat) : Int))
      obtain ⟨acc', ha'⟩ := Int.eq_ofNat_of_zero_le hr.1
      rw [Jl st, ha']
      rw [ha'] at hr
      obtain ⟨v, g1, g2, g3⟩ := ih acc' k (by omega) (by omega) (by omega)
      refine ⟨v, g1, g2, fun hh => ?_⟩
      have hvl : ∀ (l : List Int) (x : Int), vl (l ++ [x]) = vl l + 128 ^ l.length * (x.toNat % 128) := fun l x => by
        induction l with
        | nil => simp [vl]
        | cons y l ih => rw [List.cons_append, vl, vl, ih, List.length_cons, Nat.pow_succ, Nat.mul_add, Nat.add_assoc]
                         congr 2
                         rw [Nat.mul_comm (128 ^ l.length) 128, Nat.mul_assoc]
      have ht : vl (a.take (j + 1 + 1)) = vl (a.take (j + 1)) + 128 ^ (j + 1) * ((a.getD (j + 1) 0).toNat % 128) := by
        rw [QH (show j + 1 < a.length by omega) 0, hvl, List.length_take, Nat.min_eq_left (by omega)]
      rw [ht] at hh
      have hpow : 128 ^ (j + 1 + 1) * acc = 128 ^ (j + 1) * (128 * acc) := by rw [Nat.pow_succ, Nat.mul_assoc]
      have hsum : 128 ^ (j + 1) * ((a.getD (j + 1) 0).toNat % 128) + 128 ^ (j + 1 + 1) * acc = 128 ^ (j + 1) * ((a.getD (j + 1) 0).toNat % 128 + 128 * acc) := by rw [hpow, ← Nat.mul_add]
      have hp1 : 1 ≤ 128 ^ (j + 1) := Nat.pow_pos (by decide)
      have hle : (a.getD (j + 1) 0).toNat % 128 + 128 * acc ≤ 128 ^ (j + 1) * ((a.getD (j + 1) 0).toNat % 128 + 128 * acc) := Nat.le_mul_of_pos_left _ hp1
      have hacc : acc' = (a.getD (j + 1) 0).toNat % 128 + 128 * acc := by
        have hw : IntKind.u64.wrap ((acc : Int) * 128) = (acc : Int) * 128 := wu64 (by omega) (by omega)
        rw [hw, wu64 (by omega) (by omega)] at ha'
        omega
      rw [ht, Nat.add_assoc, hsum, ← hacc]
      exact g3 (by rw [hacc]; omega)
  obtain ⟨v, g1, g2, g3⟩ := key i 0 N0 (Nat.le_refl _) (by decide) (by unfold N0; omega)
  exact ⟨v, g1, g2, fun h => by have := g3 (by simpa using h); simpa using this⟩
theorem QmR {a : List Int} (hl : a.length ≤ 1000000) (i : Nat) : Qr.c mx a (i : Int) = some (if i < a.length ∧ i < 10 ∧ ¬ (i = 9 ∧ 1 < a.getD i 0) ∧ ¬ (0 < i ∧ a.getD i 0 = 0) then .inr () else .inl (0, 0, 8)) := by
 simp only [Qr.c]
 by_cases h1 : i < a.length
 case neg => rw [decide_eq_true (show (a.length : Int) ≤ (i : Int) by omega), if_neg (fun hh => h1 hh.1)]; rfl
 rw [decide_eq_false (show ¬ (a.length : Int) ≤ (i : Int) by omega)]
 by_cases h2 : i < 10
 case neg => rw [decide_eq_true (show (10 : Int) ≤ (i : Int) by omega), if_neg (fun hh => h2 hh.2.1)]; rfl
 rw [decide_eq_false (show ¬ (10 : Int) ≤ (i : Int) by omega)]
 simp only [cond_false, ieq]
 have tail : (bif decide ((0 : Int) < (i : Int)) then (bif decide ((0 : Int) ≤ (i : Int)) && decide ((i : Int) < (a.length : Int)) then (bif decide (a.getD (i : Int).toNat 0 = 0) then some (.inl (0, 0, 8)) else some (.inr ())) else none) else some (.inr ())) = (some (if 0 < i ∧ a.getD i 0 = 0 then .inl (0, 0, 8) else .inr ()) : Option ((Int × Int × Int) ⊕ Unit)) := by
  simp only [lez, ltd h1, Bool.and_self, cond_true, Int.toNat_natCast]
  by_cases h3 : 0 < i
  ·rw [decide_eq_true (show (0 : Int) < (i : Int) by omega)]
   by_cases h4 : a.getD i 0 = 0
   ·rw [decide_eq_true h4, if_pos ⟨h3, h4⟩]; rfl
   ·rw [decide_eq_false h4, if_neg (fun hh => h4 hh.2)]; rfl
  ·rw [decide_eq_false (show ¬ (0 : Int) < (i : Int) by omega), if_neg (fun hh => h3 hh.1)]; rfl
 by_cases h9 : i = 9
 ·have e9 : a.getD 9 0 = a.getD i 0 := by rw [h9]
  rw [decide_eq_true (show (i : Int) = 9 by omega), decide_eq_true (show (9 : Int) < (a.length : Int) by omega), e9]
  by_cases h5 : 1 < a.getD i 0
  ·rw [decide_eq_true h5, if_neg (fun hh => hh.2.2.1 ⟨h9, h5⟩)]; rfl
  ·rw [decide_eq_false h5]
   simp only [cond_true, cond_false, tail]
   by_cases h6 : 0 < i ∧ a.getD i 0 = 0
   ·rw [if_pos h6, if_neg (fun hh => hh.2.2.2 h6)]
   ·rw [if_neg h6, if_pos ⟨h1, h2, fun hh => h5 hh.2, h6⟩]
 ·rw [decide_eq_false (show ¬ (i : Int) = 9 by omega)]
  simp only [cond_false, tail]
  by_cases h6 : 0 < i ∧ a.getD i 0 = 0
  ·rw [if_pos h6, if_neg (fun hh => hh.2.2.2 h6)]
  ·rw [if_neg h6, if_pos ⟨h1, h2, fun hh => h9 hh.1, h6⟩]
theorem QiU {a : List Int} (hb : QV a) (hl : a.length ≤ 1000000) : ∃ (v : Int) (n : Nat) (e : Int), Qr mx a = some (v, (n : Int), e) ∧ (0 ≤ v ∧ v ≤ 18446744073709551615) ∧ n ≤ a.length := by
 obtain ⟨i, h1, h2, h3, h4, h5⟩ := QiV hl
 simp only [Qr, h1, Option.bind_some, QmR hl]
 by_cases h : i < a.length ∧ i < 10 ∧ ¬ (i = 9 ∧ 1 < a.getD i 0) ∧ ¬ (0 < i ∧ a.getD i 0 = 0)
 ·obtain ⟨v, g1, g2, g3⟩ := QiT hb h.1 hl
  rw [if_pos h]
  simp only [g1, Option.bind_some]
  rw [Z8 (by omega)]
  exact ⟨v, i + 1, 0, rfl, g2, h.1⟩
 ·rw [if_neg h]; exact ⟨0, 0, 8, rfl, ⟨by decide, by decide⟩, Nat.zero_le _⟩
end Go.Proofs.YtpfjjbpoikgocaaGreat
end
