/- A part of a framework that reads Go code as functions of plain data; or a law about such functions. -/
import Derived.Test.YtbkkahkikjifkaaLawMult
import Derived.Test.YtbkkahkikjifkaaFnSignRecovers1
namespace Go.Bx
open Go Go.Bx.Rg
set_option linter.unusedSimpArgs false
set_option linter.unusedVariables false
theorem onV_num {P A B X Y : Int} {F : Bool} (hX : 0 <= X /\ X < M256) (hY : 0 <= Y /\ Y < M256) (h : OnV P A B ((mk X, mk Y, F, ()) : PtD)) : onB P A B X Y F = true := by
 unfold OnV at h
 simp only [] at h
 rw [mk_val hX, mk_val hY] at h
 exact h
section
variable {P A B N x y : Int} {f : Bool} (b1 : 0 <= P /\ P < M256) (b2 : 0 <= A /\ A < M256) (b3 : 0 <= B /\ B < M256) (b4 : 0 <= N /\ N < M256) (b5 : 0 <= x /\ x < M256) (b6 : 0 <= y /\ y < M256) (h0 : curveE P A B N x y f = 0)
include b1 b2 b3 b4 b5 b6 h0
theorem add_full {p q : PtD} (hp : PtOk P p) (hq : PtOk P q) (vp : OnV P A B p) (vq : OnV P A B q) :
  ∃ (s t : PtD) (e : Int) (ok : Bool), curve_Add.run (mk P, mk A, mk B, mk N, (mk x, mk y, f, ()), ()) p q = some (s, e, ()) /\ basculeref_together.run (mk P, mk A, mk B, mk N, (mk x, mk y, f, ()), ()) p q = some (t, ok, ()) /\
   (ok = true -> e = 0 /\ t = s /\ PtOk P s /\ OnV P A B s) /\ (ok = false -> e = 16) := by
 obtain ⟨e1, e2⟩ := curve_both f b1 b2 b3 b4 b5 b6
 obtain ⟨g1, g2, g3, g4⟩ := curveE_ok h0
 have hM : 1 < P /\ P < M256 := ⟨by omega, b1.2⟩
 obtain ⟨s, ok, t1, t2, t3, t4⟩ := add_both hM ⟨b2.1, g3⟩ (B := B) (mk N) (mk x, mk y, f, ()) hp hq
 obtain ⟨px, py, pf, rfl, p1, p2⟩ := hp
 obtain ⟨qx, qy, qf, rfl, q1, q2⟩ := hq
 have p1' : 0 <= px /\ px < M256 := ⟨p1.1, by omega⟩
 have p2' : 0 <= py /\ py < M256 := ⟨p2.1, by omega⟩
 have q1' : 0 <= qx /\ qx < M256 := ⟨q1.1, by omega⟩
 have q2' : 0 <= qy /\ qy < M256 := ⟨q2.1, by omega⟩
 obtain ⟨o1, _⟩ := on_both hM ⟨b2.1, g3⟩ ⟨b3.1, g4⟩ (mk N) (mk x, mk y, f, ()) pf p1' p2'
 obtain ⟨o3, _⟩ := on_both hM ⟨b2.1, g3⟩ ⟨b3.1, g4⟩ (mk N) (mk x, mk y, f, ()) qf q1' q2'
 unfold curve_Add.run curve_Add.top curve_fault.run curve_fault.top
 rw [e1]
 simp only [Option.bind_some]
 obtain ⟨k, hk⟩ : ∃ k, fuel = k + 3 := ⟨fuel - 3, by rw [fuel_big]⟩
 rw [h0, hk]
 simp only [curve_fault.l0, curve_fault.l0s, curve_fault.j0]
 have s1 : (decide ((0 : Int) < (([(mk px, mk py, pf, ()), (mk qx, mk qy, qf, ())] : List PtD).length : Int))) = true := rfl
 have s2 : (decide ((1 : Int) < (([(mk px, mk py, pf, ()), (mk qx, mk qy, qf, ())] : List PtD).length : Int))) = true := rfl
 have s3 : (decide ((2 : Int) < (([(mk px, mk py, pf, ()), (mk qx, mk qy, qf, ())] : List PtD).length : Int))) = false := rfl
 have r1 : (0 : Int) <= 0 /\ (0 : Int) < (([(mk px, mk py, pf, ()), (mk qx, mk qy, qf, ())] : List PtD).length : Int) := by simp
 have r2 : (0 : Int) <= 1 /\ (1 : Int) < (([(mk px, mk py, pf, ()), (mk qx, mk qy, qf, ())] : List PtD).length : Int) := by simp
 have w1 : IntKind.i64.wrap (0 + 1) = 1 := rfl
 have w2 : IntKind.i64.wrap (1 + 1) = 2 := rfl
 have d1 : ([(mk px, mk py, pf, ()), (mk qx, mk qy, qf, ())] : List PtD).getD (Int.toNat 0) ([0, 0, 0, 0], [0, 0, 0, 0], false, ()) = (mk px, mk py, pf, ()) := rfl
 have d2 : ([(mk px, mk py, pf, ()), (mk qx, mk qy, qf, ())] : List PtD).getD (Int.toNat 1) ([0, 0, 0, 0], [0, 0, 0, 0], false, ()) = (mk qx, mk qy, qf, ()) := rfl
 rw [w1, w2, s1, s2, s3, d1, d2, if_pos r1, if_pos r2, o1, o3, onV_num p1' p2' vp, onV_num q1' q2' vq]
 simp only [show ((0 : Int) != 0) = false from rfl, BEq.rfl, if_true, if_false, Bool.false_eq_true, Option.bind_some, Bool.not_true]
 rw [t1, t2]
 cases ok with
 | false => exact ⟨_, _, _, _, rfl, rfl, fun h => absurd h (by decide), fun _ => rfl⟩
 | true => exact ⟨_, _, _, _, rfl, rfl, fun _ => ⟨rfl, rfl, t3, t4 vp vq rfl⟩, fun h => absurd h (by decide)⟩
theorem sum2_full {u v : Int} {p q : PtD} (hp : PtOk P p) (hq : PtOk P q) (vp : OnV P A B p) (vq : OnV P A B q) :
  ∃ (s t : PtD) (e : Int) (ok : Bool), sign_sum2.run (mk P, mk A, mk B, mk N, (mk x, mk y, f, ()), ()) (mk u) p (mk v) q = some (s, e, ()) /\ basculeref_both.run (mk P, mk A, mk B, mk N, (mk x, mk y, f, ()), ()) (mk u) p (mk v) q = some (t, ok, ()) /\
   (ok = true -> e = 0 /\ t = s /\ PtOk P s /\ OnV P A B s) /\ (ok = false -> e = 16) := by
 have hp' := hp
 have hq' := hq
 obtain ⟨px, py, pf, rfl, p1, p2⟩ := hp'
 obtain ⟨qx, qy, qf, rfl, q1, q2⟩ := hq'
 have p1' : 0 <= px /\ px < M256 := ⟨p1.1, by omega⟩
 have p2' : 0 <= py /\ py < M256 := ⟨p2.1, by omega⟩
 have q1' : 0 <= qx /\ qx < M256 := ⟨q1.1, by omega⟩
 have q2' : 0 <= qy /\ qy < M256 := ⟨q2.1, by omega⟩
 obtain ⟨s1, t1, e1, k1, m1, m2, m3, m4⟩ := mult_full b1 b2 b3 b4 b5 b6 h0 (mk_w u) p1' p2' (onV_num p1' p2' vp)
 obtain ⟨s2, t2, e2, k2, n1, n2, n3, n4⟩ := mult_full b1 b2 b3 b4 b5 b6 h0 (mk_w v) q1' q2' (onV_num q1' q2' vq)
 unfold sign_sum2.run sign_sum2.top basculeref_both.run basculeref_both.top
 rw [m1, m2, n1, n2]
 simp only [Option.bind_some]
 cases k1 with
 | false =>
  rw [(m4 rfl).1]
  exact ⟨_, _, _, _, rfl, rfl, fun h => absurd h (by decide), fun _ => rfl⟩
 | true =>
  obtain ⟨rfl, rfl, o1, v1⟩ := m3 rfl
  cases k2 with
  | false =>
   rw [(n4 rfl).1]
   exact ⟨_, _, _, _, rfl, rfl, fun h => absurd h (by decide), fun _ => rfl⟩
  | true =>
   obtain ⟨rfl, rfl, o2, v2⟩ := n3 rfl
   obtain ⟨s, t, e, ok, a1, a2, a3, a4⟩ := add_full b1 b2 b3 b4 b5 b6 h0 o1 o2 v1 v2
   simp only [bne_self_eq_false, Bool.false_eq_true, if_false, Bool.not_true, cond_false]
   rw [a1, a2]
   exact ⟨_, _, _, _, rfl, rfl, a3, a4⟩
end
end Go.Bx
