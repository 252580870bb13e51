/- A record more on a disk: bounds. -/
import Derived.Test.YtpfjjbpoikgocaaKJc
namespace Go.Proofs.Ytpfjjbpoikgocaa
open Go.Abs
set_option maxRecDepth 100000
/-- What a log is bounded by. -/
theorem log_bd {g : Int} {l : List Blk} (hl : okBlks l) (hlen : l.length ≤ 4096) : ∃ B : Nat, (logOf g l).2.1 = (B : Int) ∧ B ≤ l.length ∧ (logOf g l).1.length ≤ 4096 ∧ isU32 (logOf g l).2.2.1 ∧ isU32 (logOf g l).2.2.2 := by
  obtain ⟨P, l', rs', la', q1, q2, q3, q4, q5, q6⟩ := ch_of_rd (g := g) (l.length + 1) l [] 0 0 hl (by omega)
  unfold logOf
  rw [q1]
  have h := congrArg List.length q2
  rw [List.length_append] at h
  exact ⟨0 + P.length, rfl, by omega, by simp at q6 ⊢; omega, q5 ⟨by decide, by decide⟩, grOf_u32 fun b hb => hl b (by rw [q2]; simp [hb])⟩
theorem Ch.recsB {g : Int} {rs rs' : List (List Int)} {la la' : Int} {P : List Blk} (h : Ch g rs la P rs' la') : (∀ r ∈ rs, bytesL r ∧ r.length ≤ 65536) → ∀ r ∈ rs', bytesL r ∧ r.length ≤ 65536 := by
  induction h with
  | nil rs la => exact id
  | cons rs la r s P rs' la' h1 h2 h3 h4 h ih =>
    intro hr
    exact ih fun x hx => (List.mem_append.1 hx).elim (hr x) fun hx => by rw [List.mem_singleton] at hx; subst hx; exact ⟨h4, h2⟩
/-- Its records are bytes. -/
theorem log_bytes {g : Int} {l : List Blk} (hl : okBlks l) : ∀ r ∈ (logOf g l).1, bytesL r ∧ r.length ≤ 65536 := by
  obtain ⟨P, l', rs', la', q1, q2, q3, q4, q5, q6⟩ := ch_of_rd (g := g) (l.length + 1) l [] 0 0 hl (by omega)
  unfold logOf
  rw [q1]
  exact q3.recsB (fun r hr => by cases hr)
theorem next_blks {rs : List (List Int)} {la gr g : Int} {r : List Int} (hr : bytesL r) {fr : List Blk} (h : nextS rs la gr g r = (fr, 0)) : okBlks fr ∧ g ≠ 0 ∧ fr.length ≤ 1525 := by
  unfold nextS at h
  by_cases h0 : g = 0
  · rw [if_pos h0] at h; cases h
  rw [if_neg h0] at h
  by_cases h1 : 65536 < r.length
  · rw [if_pos h1] at h; cases h
  rw [if_neg h1] at h
  by_cases h2 : 1048576 ≤ rs.length
  · rw [if_pos h2] at h; cases h
  rw [if_neg h2] at h
  by_cases h3 : mxI la gr = 4294967295
  · rw [if_pos h3] at h; cases h
  rw [if_neg h3] at h
  cases h
  exact ⟨frame_okB hr, h0, by rw [frame_len]; exact parts_le (by omega)⟩
theorem okD_len {d e : List Int} (h : e.length = d.length) (hd : okD d) : okD e := by unfold okD at *; omega
/-- What is written to one disk. -/
theorem wr_bytes' : ∀ {l : List Put} {d : List Int}, bytesL d → (∀ p ∈ l, bytesL p.2) → bytesL (wr d l)
  | [], _, hd, _ => hd
  | p :: l, d, hd, h => by
    show bytesL (wr (wr1 d p) l)
    refine wr_bytes' (l := l) ?_ (fun q hq => h q (by simp [hq]))
    exact bytes_app (bytes_app (bytes_take hd _) (h p (by simp))) (bytes_drop hd _)
/-- A log behind which other blocks stand that no record of its begins. -/
theorem log_one {g : Int} {r : List Int} {l : List Blk} (hl : okBlks l) (hg : g ≠ 0) (hg2 : isU32 g) (hr : bytesL r) (hrl : r.length ≤ 65536) (hn : ∀ b ∈ l, genOf b ≠ g) :
    ∃ G, logOf g (frame g 1 1 0 r ++ l) = ([r], ((partsOf r : Nat) : Int), 1, G) := by
  have hch : Ch g [] 0 (frame g ((([] : List (List Int)).length + 1 : Nat) : Int) 1 0 r ++ []) ([] ++ [r]) 1 := .cons [] 0 r 1 [] [r] 1 hg hrl ⟨by decide, by decide⟩ hr (.nil _ _)
  rw [List.append_nil] at hch
  have hend : opn g ((([] ++ [r] : List (List Int)).length + 1 : Nat) : Int) 1 l = none := by
    cases ho : opn g ((([] ++ [r] : List (List Int)).length + 1 : Nat) : Int) 1 l with
    | none => rfl
    | some x =>
      exfalso
      obtain ⟨r', s', k'⟩ := x
      obtain ⟨h1, h2, h3, h4, h5, h6, h7, h8⟩ := (opn_iff hl).1 ho
      have hk := parts_pos r'
      have hln : 0 < l.length := by omega
      have e1 : l.getD 0 [] = (frame g ((([] ++ [r] : List (List Int)).length + 1 : Nat) : Int) s' 1 r').getD 0 [] := by
        rw [← h8, getD_some hln, getD_some (by rw [List.length_take]; omega)]; simp
      have e2 : (frame g ((([] ++ [r] : List (List Int)).length + 1 : Nat) : Int) s' 1 r').getD 0 [] = blk g ((([] ++ [r] : List (List Int)).length + 1 : Nat) : Int) s' 1 (partsOf r') 0 (piece r' 0) := by
        have : 0 < (frame g ((([] ++ [r] : List (List Int)).length + 1 : Nat) : Int) s' 1 r').length := by rw [frame_len]; omega
        rw [getD_some this]; unfold frame; simp
      exact hn _ (getD_lt hln) (by rw [e1, e2, blk_gen hg2])
  have hlf := frame_len g 1 1 0 r
  have hrd := rd_of_ch hl hch hend ((frame g 1 1 0 r ++ l).length + 1) 0 (by rw [List.length_append]; show (frame g 1 1 0 r).length < _; omega)
  have hrd : rd g ((frame g 1 1 0 r ++ l).length + 1) (frame g 1 1 0 r ++ l) [] 0 0 = (l, [] ++ [r], 0 + (frame g 1 1 0 r).length, 1) := hrd
  unfold logOf
  rw [hrd]
  exact ⟨_, by rw [hlf, Nat.zero_add]; rfl⟩
end Go.Proofs.Ytpfjjbpoikgocaa
