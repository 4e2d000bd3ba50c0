/- A part of a framework that reads Go code as functions of plain data; or a law about such functions. -/
import Derived.Test.YtbkkahkikjifkaaDoorLawKeccak
import Derived.Test.YtbkkahkikjifkaaDoorLawXor
import Derived.Test.YtbkkahkikjifkaaDoorFnBodyWrites0
namespace Go.Bx
open Go
set_option linter.unusedSimpArgs false
set_option linter.unusedVariables false
def Oct (l : List Int) : Prop := ∀ b ∈ l, 0 <= b /\ b < 256
theorem Oct.getD {l : List Int} (h : Oct l) (i : Nat) : 0 <= l.getD i 0 /\ l.getD i 0 < 256 := by
 by_cases hi : i < l.length
 ·rw [List.getD_eq_getElem?_getD, List.getElem?_eq_getElem hi]; exact h _ (List.getElem_mem hi)
 ·rw [List.getD_eq_getElem?_getD, List.getElem?_eq_none (by omega)]; simp
def oct8 (b : List Int) (k : Nat) : List Nat := ((b.drop (8 * k)).take 8).map Int.toNat
def lUp (b : List Int) (a : List Int) (k : Nat) : List Int := a.set k (bxor .u64 (a.getD k 0) ((leW (oct8 b k) : Nat) : Int))
def soakN (b : List Int) : Nat -> Nat -> List Int -> List Int
 | 0, _, a => a
 | m + 1, k, a => soakN b m (k + 1) (lUp b a k)
theorem lUp_len (b a : List Int) (k : Nat) : (lUp b a k).length = a.length := by simp [lUp]
theorem soakN_len (b : List Int) : ∀ m k a, (soakN b m k a).length = a.length
 | 0, _, a => rfl
 | m + 1, k, a => (soakN_len b m (k + 1) _).trans (lUp_len _ _ _)
theorem oct8_rng {b : List Int} (h : Oct b) (k : Nat) : ∀ c ∈ oct8 b k, c < 256 := by
 intro c hc
 simp only [oct8, List.mem_map] at hc
 obtain ⟨x, hx, rfl⟩ := hc
 have := h x (List.mem_of_mem_drop (List.mem_of_mem_take hx))
 omega
theorem oct8_len {b : List Int} (hb : b.length = 136) {k : Nat} (hk : k < 17) : (oct8 b k).length = 8 := by
 simp [oct8, hb]; omega
theorem drop_at {α : Type} {l : List α} {i : Nat} (h : i < l.length) (d : α) : l.drop i = l.getD i d :: l.drop (i + 1) := by
 rw [List.drop_eq_getElem_cons h, List.getD_eq_getElem?_getD, List.getElem?_eq_getElem h]; rfl
theorem soak_in {α : Type} (Xt : (List Int × List Int × Int × Unit) -> (List Int × List Int × Int × Unit) -> Option α) (K : Nat) (b : List Int) (hb : b.length = 136) (ho : Oct b) (r : List Int × Int × Unit) (c2 : List Int × List Int × Int × Unit) (k : Nat) (hk : k < 17) : ∀ (m j n : Nat) (a : List Int), m + j = 8 -> a.length = 25 ->
  keccak_soak.l0 K Xt (n + m) b ((8 * k + j : Nat) : Int) (a, r) c2 = keccak_soak.l0 K Xt n b ((8 * k + 8 : Nat) : Int) (a.set k (xorI (a.getD k 0) (((b.drop (8 * k + j)).take m).map Int.toNat) j), r) c2
 | 0, j, n, a, hj, ha => by
  obtain rfl : j = 8 := by omega
  simp only [List.take_zero, List.map_nil, xorI]
  have : a.set k (a.getD k 0) = a := by
   rw [List.getD_eq_getElem?_getD, List.getElem?_eq_getElem (by omega)]; simp
  rw [this]; rfl
 | m + 1, j, n, a, hj, ha => by
  have hg := ho.getD (8 * k + j)
  rw [show n + (m + 1) = (n + m) + 1 by omega]
  simp only [keccak_soak.l0, keccak_soak.l0s]
  have e1 : IntKind.i64.wrap (Int.tdiv ((8 * k + j : Nat) : Int) 8) = (k : Int) := by
   have := i64_tdiv (x := 8 * k + j) (c := 8) (by omega)
   rw [show (8 * k + j) / 8 = k by omega] at this; exact this
  have e2 : Int.tmod ((8 * k + j : Nat) : Int) 8 = (j : Int) := by
   have := tmod_nat (8 * k + j) 8
   rw [show (8 * k + j) % 8 = j by omega] at this; exact this
  have e3 : IntKind.i64.wrap (8 * (j : Int)) = ((8 * j : Nat) : Int) := by
   rw [wrap_i64 (by omega) (by omega)]; omega
  rw [if_pos (by rw [decide_eq_true_eq]; omega), if_pos (by omega), e1, e2, e3, if_pos (by omega), if_pos (by omega), if_pos (by omega), i64_succ (by omega), toNat_nat, toNat_nat]
  rw [wrap_u64 (x := b.getD (8 * k + j) 0) (by omega) (by omega)]
  refine (soak_in Xt K b hb ho r c2 k hk m (j + 1) n _ (by omega) (by simp [ha])).trans ?_
  congr 1
  rw [List.set_set, drop_at (l := b) (i := 8 * k + j) (by omega) 0, List.take_succ_cons, List.map_cons]
  have e4 : (a.set k (bxor .u64 (a.getD k 0) (shlI .u64 (b.getD (8 * k + j) 0) ((8 * j : Nat) : Int)))).getD k 0 = bxor .u64 (a.getD k 0) (shlI .u64 (b.getD (8 * k + j) 0) ((8 * j : Nat) : Int)) := by
   rw [List.getD_eq_getElem?_getD, List.getElem?_set_self (by omega)]; rfl
  rw [e4]
  have e5 : ((Int.toNat (b.getD (8 * k + j) 0) : Nat) : Int) = b.getD (8 * k + j) 0 := by omega
  simp only [xorI]
  rw [e5]
  rfl
theorem soak_loop {α : Type} (Xt : (List Int × List Int × Int × Unit) -> (List Int × List Int × Int × Unit) -> Option α) (K : Nat) (b : List Int) (hb : b.length = 136) (ho : Oct b) (r : List Int × Int × Unit) (c2 : List Int × List Int × Int × Unit) : ∀ (m k n : Nat) (a : List Int), m + k = 17 -> a.length = 25 ->
  keccak_soak.l0 K Xt (n + 1 + 8 * m) b ((8 * k : Nat) : Int) (a, r) c2 = Xt (soakN b m k a, r) c2
 | 0, k, n, a, hk, ha => by
  obtain rfl : k = 17 := by omega
  simp only [Nat.mul_zero, Nat.add_zero, keccak_soak.l0, keccak_soak.l0s]
  rw [if_neg (by decide)]; rfl
 | m + 1, k, n, a, hk, ha => by
  rw [show n + 1 + 8 * (m + 1) = (n + 1 + 8 * m) + 8 by omega]
  have h := soak_in Xt K b hb ho r c2 k (by omega) 8 0 (n + 1 + 8 * m) a rfl ha
  simp only [Nat.add_zero] at h
  rw [h]
  have h8 := oct8_len hb (k := k) (by omega)
  have hx : xorI (a.getD k 0) (((b.drop (8 * k)).take 8).map Int.toNat) 0 = bxor .u64 (a.getD k 0) ((leW (oct8 b k) : Nat) : Int) := by
   show xorI (a.getD k 0) (oct8 b k) 0 = _
   cases hc : oct8 b k with
   | nil => rw [hc] at h8; simp at h8
   | cons c l =>
    rw [xorI_nat bxor_assoc c l 0 _ (by rw [<- hc]; exact oct8_rng ho k) (by rw [<- hc]; omega)]
    simp
  rw [hx]
  exact soak_loop Xt K b hb ho r c2 m (k + 1) n (lUp b a k) (by omega) (by rw [lUp_len]; exact ha)
theorem word_in {α : Type} (Xt : List Int -> Int -> Int -> List Int -> List Int -> Option α) (K : Nat) (b : List Int) (hb : b.length = 136) (ho : Oct b) (c2 c4 : List Int) (k : Nat) (hk : k < 17) : ∀ (m n : Nat), m < n -> m <= 8 ->
  basculeref_soaked.l1 K Xt n b ((8 * k : Nat) : Int) ((leW ((oct8 b k).drop m) : Nat) : Int) ((m : Int) - 1) c2 c4 = Xt b ((8 * k : Nat) : Int) ((leW (oct8 b k) : Nat) : Int) c2 c4
 | m, 0, h, _ => by omega
 | 0, n + 1, h, hm => by
  simp only [basculeref_soaked.l1, basculeref_soaked.l1s]
  rw [if_neg (by rw [decide_eq_true_eq]; omega)]; rfl
 | m + 1, n + 1, h, hm => by
  have h8 := oct8_len hb hk
  have hg := ho.getD (8 * k + m)
  simp only [basculeref_soaked.l1, basculeref_soaked.l1s]
  have e0 : ((m + 1 : Nat) : Int) - 1 = (m : Int) := by omega
  have e1 : IntKind.i64.wrap (((8 * k : Nat) : Int) + (m : Int)) = ((8 * k + m : Nat) : Int) := by
   rw [wrap_i64 (by omega) (by omega)]; omega
  rw [e0, if_pos (by rw [decide_eq_true_eq]; omega), e1, if_pos (by omega), wrap_i64 (x := (m : Int) - 1) (by omega) (by omega), toNat_nat]
  have hl := leW_lt ((oct8 b k).drop (m + 1)) (fun c hc => oct8_rng ho k c (List.mem_of_mem_drop hc))
  rw [List.length_drop, h8] at hl
  have hp : (256 : Nat) ^ (8 - (m + 1)) <= 256 ^ 7 := Nat.pow_le_pow_right (by omega) (by omega)
  have hp7 : (256 : Nat) ^ 7 = 72057594037927936 := by decide
  generalize hW : leW ((oct8 b k).drop (m + 1)) = W at *
  rw [wrap_u64 (x := (W : Int) * 256) (by omega) (by omega), wrap_u64 (x := b.getD (8 * k + m) 0) (by omega) (by omega), wrap_u64 (by omega) (by omega)]
  have e2 : ((W : Int) * 256 + b.getD (8 * k + m) 0) = ((leW ((oct8 b k).drop m) : Nat) : Int) := by
   rw [drop_at (l := oct8 b k) (i := m) (by omega) 0]
   simp only [leW]
   rw [hW]
   have : (oct8 b k).getD m 0 = (b.getD (8 * k + m) 0).toNat := by
    unfold oct8
    rw [List.getD_eq_getElem?_getD, List.getElem?_map, List.getElem?_take_of_lt (by omega), List.getElem?_drop, List.getD_eq_getElem?_getD]
    cases b[8 * k + m]? <;> rfl
   rw [this]; omega
  rw [e2]
  exact word_in Xt K b hb ho c2 c4 k hk m n (by omega) (by omega)
theorem soaked_loop {α : Type} (Xt : List Int -> List Int -> Option α) (K : Nat) (hK : 8 < K) (b : List Int) (hb : b.length = 136) (ho : Oct b) (c4 : List Int) : ∀ (m k n : Nat) (a : List Int), m < n -> m + k = 17 -> a.length = 25 ->
  basculeref_soaked.l0 K Xt n b ((8 * k : Nat) : Int) a c4 = Xt (soakN b m k a) c4
 | m, k, 0, a, h, _, _ => by omega
 | 0, k, n + 1, a, h, hk, ha => by
  obtain rfl : k = 17 := by omega
  simp only [basculeref_soaked.l0, basculeref_soaked.l0s]
  rw [if_neg (by decide)]; rfl
 | m + 1, k, n + 1, a, h, hk, ha => by
  simp only [basculeref_soaked.l0, basculeref_soaked.l0s]
  rw [if_pos (by rw [decide_eq_true_eq]; omega)]
  have h8 := oct8_len hb (k := k) (by omega)
  have hw := word_in (fun x1 x5 x6 c2 c4 => basculeref_soaked.j0 (basculeref_soaked.l0 K Xt n) x1 x5 x6 c2 c4) K b hb ho a c4 k (by omega) 8 K hK (by omega)
  have hz : leW ((oct8 b k).drop 8) = 0 := by rw [List.drop_eq_nil_of_le (by omega)]; rfl
  rw [hz, show ((8 : Nat) : Int) - 1 = 7 from rfl, show ((0 : Nat) : Int) = 0 from rfl] at hw
  rw [hw]
  unfold basculeref_soaked.j0 basculeref_soaked.j1
  have e1 : IntKind.i64.wrap (Int.tdiv ((8 * k : Nat) : Int) 8) = (k : Int) := by
   have := i64_tdiv (x := 8 * k) (c := 8) (by omega)
   rw [show (8 * k) / 8 = k by omega] at this; exact this
  rw [e1, if_pos (by omega), if_pos (by omega), toNat_nat, wrap_i64 (x := ((8 * k : Nat) : Int) + 8) (by omega) (by omega), show ((8 * k : Nat) : Int) + 8 = ((8 * (k + 1) : Nat) : Int) by omega]
  exact soaked_loop Xt K hK b hb ho c4 m (k + 1) n (lUp b a k) (by omega) (by omega) (by rw [lUp_len]; exact ha)
theorem soak_both {a b : List Int} (ha : a.length = 25) (hb : b.length = 136) (ho : Oct b) : ∃ r : List Int, r.length = 25 /\ (∀ N : Int, keccak_soak.run (a, b, N, ()) = some (r, List.replicate 136 0, 0, ())) /\ basculeref_soaked.run a b = some r := by
 obtain ⟨r, h1, h2, h3⟩ := turn_both (l := soakN b 17 0 a) (by rw [soakN_len]; exact ha)
 refine ⟨r, h1, fun N => ?_, ?_⟩
 ·unfold keccak_soak.run keccak_soak.top
  obtain ⟨n, hn⟩ : ∃ n, fuel = n + 1 + 8 * 17 := ⟨fuel - 137, by rw [fuel_big]⟩
  rw [hn]
  have := soak_loop (fun c1 c2 => keccak_soak.j0 (fun c2 => some c2) c1 c2) (n + 1 + 8 * 17) b hb ho (b, N, ()) (List.replicate 25 0, List.replicate 136 0, 0, ()) 17 0 n a rfl ha
  refine Eq.trans this ?_
  unfold keccak_soak.j0
  simp only []
  rw [h2]; rfl
 ·unfold basculeref_soaked.run basculeref_soaked.top
  have := soaked_loop (fun c2 c4 => basculeref_soaked.j2 (fun c4 => some c4) c2 c4) fuel (by rw [fuel_big]; omega) b hb ho (List.replicate 25 0) 17 0 fuel a (by rw [fuel_big]; omega) rfl ha
  refine Eq.trans this ?_
  unfold basculeref_soaked.j2
  rw [h3]; rfl
end Go.Bx
