/- A part of a framework that reads Go code as functions of plain data; or a law about such functions. -/
import Derived.Test.YtbkkahkikjifkaaDoorLawEnd
import Derived.Test.YtbkkahkikjifkaaDoorFnBodyWrites0
namespace Go.Bx
open Go
set_option linter.unusedSimpArgs false
set_option linter.unusedVariables false
set_option maxRecDepth 100000
def kec (b : List Int) : List Int := sumL (blkT (ab (List.replicate 25 0) b).1 (padB (ab (List.replicate 25 0) b).2))
theorem kec_len (b : List Int) : (kec b).length = 32 := sumL_len _
theorem kec_oct (b : List Int) : Oct (kec b) := sumL_oct _
theorem badS_sp {r : List Int × List Int} (h : r.2.length < 136) : badS (r.2 ++ List.replicate (136 - r.2.length) 0) (r.2.length : Int) = false := by
 unfold badS
 rw [toNat_nat, List.drop_append_of_le_length (Nat.le_refl _), List.drop_length, List.nil_append]
 have : (List.replicate (136 - r.2.length) (0 : Int)).all (fun x => x == 0) = true := by
  rw [List.all_eq_true]; intro x hx; rw [List.eq_of_mem_replicate hx]; rfl
 rw [this]
 simp only [Bool.and_true, Bool.not_eq_false', Bool.and_eq_true, decide_eq_true_eq]
 omega
theorem sum_both {b : List Int} (ho : Oct b) (hb : b.length <= 4611686018427387904) : keccak_Sum.run b = some (kec b) /\ basculeref_Hash.run b = some (kec b) := by
 obtain ⟨_, k2⟩ := added (a := List.replicate 25 0) (h := List.replicate 136 0) (N := 0) (by simp) (by simp) (Oct.zeros _) ho hb
 obtain ⟨m1, m2⟩ := k2 [] (by simp) rfl rfl (badS_sp (r := ([], [])) (by simp))
 rw [List.nil_append] at m1 m2
 obtain ⟨z1, z2, z3⟩ := ab_ok _ (List.replicate 25 0) b (Nat.le_refl _) (by simp) ho
 obtain ⟨_, n2⟩ := ended (a := (ab (List.replicate 25 0) b).1) (h := (ab (List.replicate 25 0) b).2 ++ List.replicate (136 - (ab (List.replicate 25 0) b).2.length) 0) (N := ((ab (List.replicate 25 0) b).2.length : Int)) z1 (by rw [List.length_append, List.length_replicate]; omega) (z3.append (Oct.zeros _))
 obtain ⟨q1, q2⟩ := n2 _ z2 rfl rfl (badS_sp z2)
 constructor
 ·unfold keccak_Sum.run keccak_Sum.top keccak_Begin.run keccak_Begin.top
  rw [Option.bind_some, m1, Option.bind_some]
  unfold sp
  simp only []
  rw [q1]; rfl
 ·unfold basculeref_Hash.run basculeref_Hash.top
  rw [m2, Option.bind_some]
  unfold sp
  simp only []
  rw [q2]; rfl
end Go.Bx
