/- The plain law of DiskParts. -/
import Derived.Test.YtneknjhofegolaaKL
namespace Go.Proofs.Ytneknjhofegolaa.diskParts
open Go.Abs
set_option maxRecDepth 100000

theorem main (d : List Int) (l : List Put) (m : Int) (hl : l.length ≤ 140737488351232) (hb : ∀ p ∈ l, p.2.length ≤ 140737488351232) (hm : -9223372036854775808 ≤ m ∧ m ≤ 9223372036854775807) : F_law02_DiskParts mx (d, l, m) = some true := by
  simp only [F_law02_DiskParts, alive_ok, Option.bind_some, F_law02_large, Bool.not_true, cond_false]
  by_cases h1 : 300000 < d.length
  · have : decide ((300000 : Int) < (d.length : Int)) = true := by simp; omega
    rw [this]; rfl
  · have h1' : decide ((300000 : Int) < (d.length : Int)) = false := by simp; omega
    rw [h1', cond_false]
    obtain ⟨b, hb', hb2⟩ := heavy_some l (by omega)
    rw [hb', Option.bind_some]
    cases b with
    | true => rfl
    | false =>
      have hl5 := hb2 rfl
      rw [cond_false, do_disk (by omega), Option.bind_some, do_disk (by omega), Option.bind_some, left_disk (by omega) hb, Option.bind_some]
      by_cases hd : okD d
      · by_cases hp : putsErr d l = 0
        · have e1 : doS d l (l.length : Int) = (wr d l, 0) := by
            simp only [doS, if_pos hd, if_pos hp, if_pos (show (0 : Int) ≤ (l.length : Int) ∧ (l.length : Int) ≤ (l.length : Int) by omega), Int.toNat_natCast, List.take_length]
          rw [e1]
          by_cases h3 : 0 ≤ m ∧ m ≤ (l.length : Int)
          · have e2 : doS d l m = (wr d (l.take m.toNat), 0) := by simp only [doS, if_pos hd, if_pos hp, if_pos h3]
            have e3 : leftS l m = (l.drop m.toNat, 0) := by simp only [leftS, if_pos h3]
            have hall := putsErr_ok.1 hp
            have hw : (wr d (l.take m.toNat)).length = d.length := wr_len fun p hp => hall p (List.mem_of_mem_take hp)
            have hd2 : okD (wr d (l.take m.toNat)) := by unfold okD; rw [hw]; exact hd
            have hp2 : putsErr (wr d (l.take m.toNat)) (l.drop m.toNat) = 0 := by
              rw [putsErr_len hw]; exact putsErr_ok.2 fun p hp => hall p (List.mem_of_mem_drop hp)
            have e4 : doS (wr d (l.take m.toNat)) (l.drop m.toNat) ((l.drop m.toNat).length : Int) = (wr d l, 0) := by
              simp only [doS, if_pos hd2, if_pos hp2, if_pos (show (0 : Int) ≤ ((l.drop m.toNat).length : Int) ∧ ((l.drop m.toNat).length : Int) ≤ ((l.drop m.toNat).length : Int) by omega), Int.toNat_natCast, List.take_length]
              congr 1
              rw [wr, wr, ← List.foldl_append, List.take_append_drop]
              rfl
            rw [e2, e3]
            have e5 : F_law02_DiskParts.s1020 mx (wr d l, 0) (wr d (l.take m.toNat), 0) = some false := rfl
            rw [e5, Option.bind_some, cond_false, do_disk (by rw [List.length_drop]; omega), e4]
            have e6 : (((l.drop m.toNat).length : Int) == IntKind.i64.wrap ((l.length : Int) - m)) = true := by
              rw [w64 (by omega) (by omega), List.length_drop]
              simp; omega
            simp only [Option.bind_some, F_disk_Same, F_bytes_Equal, beq_self_eq_true, cond_true, e6]
          · have e2 : doS d l m = ([], 2) := by simp only [doS, if_pos hd, if_pos hp, if_neg h3]
            have e3 : leftS l m = ([], 2) := by simp only [leftS, if_neg h3]
            rw [e2, e3]; rfl
        · have e1 : ∀ k, doS d l k = ([], putsErr d l) := fun k => by simp only [doS, if_pos hd, if_neg hp]
          rw [e1, e1]
          have : F_law02_DiskParts.s1020 mx ([], putsErr d l) ([], putsErr d l) = some true := by
            have : (putsErr d l != 0) = true := by simpa using hp
            simp only [F_law02_DiskParts.s1020, this, cond_true]
          rw [this]
          simp only [Option.bind_some, cond_true, beq_self_eq_true]
      · have e1 : ∀ k, doS d l k = ([], 20) := fun k => by simp only [doS, if_neg hd]
        rw [e1, e1]; rfl
theorem pure (p : (List Int) × (List (Int × (List Int))) × Int) (h : wfIns F_law02_DiskParts.sig.pars p) : F_law02_DiskParts mx p = some true := by
  obtain ⟨d, l, m⟩ := p
  exact main d l m h.2.1.1.2 (fun p hp => (h.2.1.1.1 p hp).2.2) (wf64 h.2.2.1.1)
end Go.Proofs.Ytneknjhofegolaa.diskParts
