/- A part of a framework that reads Go code as functions of plain data; or a law about such functions. -/
import Derived.Test.YtebnjboimekljaaCxO
namespace Go.Bx
set_option linter.unusedVariables false
set_option linter.unusedSimpArgs false
open Go Go.RowKit

section
variable {P : Program} {C : Ctx} {G : GE} {fr : List V} {ρ : Operand → Value} {tm : Array Value}

theorem fitB_le {n b : Nat} (h : fitB n b = true) : n * b ≤ 140737488355328 ∧ n ≤ 35184372088832 := by
  simp only [fitB, Bool.and_eq_true] at h
  exact ⟨Nat.le_of_ble_eq_true h.1, Nat.le_of_ble_eq_true h.2⟩

theorem size_zcOk {τ : Ty} {z : Value} (h : zcOk τ z.cells.toList) (hc : τ.chained = true) : z.cells.size = τ.size := by
  have := (zeroV_flat (G := ⟨default, fun _ => none, fun _ => undef, [], 0, fun _ => False, fun _ _ => False⟩) τ _ hc h).length
  simpa using this

/-- nothing is added -/
theorem run_append_none (w : World) {t ty e : TypeId} (i : TypeInfo) (ht : P.underlying t = some (.slice e)) (hi : P.info? e = some i) {a : Option Addr} {n cap : Nat} (hn : n ≤ cap) {b : Option Addr} {c : Nat} :
    (Builtin.append_ #[t, t] ty #[.slice a n cap, .slice b 0 c]).run P w = .ok (.slice a n cap) w := by
  have hf : (Builtin.firstCells i.size 0 (.slice b 0 c)).run P w = .ok #[] w := by
    cases b with
    | none => simp [Builtin.firstCells]
    | some b =>
      have := run_firstCells_some (P := P) w i.size 0 b 0 c [] (by simp) (by simp)
      simpa using this
  cases a with
  | none => simp [Builtin.append_, run_underlying ht, sizeOf, typeInfo, hi, Builtin.lenOf, hn, hf]
  | some a => simp [Builtin.append_, run_underlying ht, sizeOf, typeInfo, hi, Builtin.lenOf, hn, hf, storeCells]

theorem run_append_room' (w : World) (t ty e te : TypeId) (i : TypeInfo) (ht : P.underlying t = some (.slice e)) (hi : P.info? e = some i)
    (g sLen sCap : Nat) (cur : Array Value) (hg : w.heap[g]? = some (.cells cur te (0, 0)))
    (a : Addr) (m c : Nat) (news : List Value) (hl : news.length = m * i.size) (hnews : ∀ j u, news[j]? = some u → w.cell? (a.add j) = some u) (h1 : ∀ u ∈ news, u.oneCell' = true)
    (hroom : sLen + m ≤ sCap) (hfit : sLen * i.size + news.length ≤ cur.size) :
    (Builtin.append_ #[t, t] ty #[.slice (some ⟨g, 0, none⟩) sLen sCap, .slice (some a) m c]).run P w =
      .ok (.slice (some ⟨g, 0, none⟩) (sLen + m) sCap) (w.setRow g (cur.toList.take (sLen * i.size) ++ news ++ cur.toList.drop (sLen * i.size + news.length)).toArray) := by
  have hf := run_firstCells_some (P := P) w i.size m a m c news hl hnews
  have hst := run_storeCells_at P g (sLen * i.size) te news 0 cur w hg (by simpa using hfit) h1
  simp only [Nat.add_zero] at hst
  simp [Builtin.append_, run_underlying ht, sizeOf, typeInfo, hi, Builtin.lenOf, hroom, hf, Addr.add_lit, hst]

theorem all2_append {α β : Type} {R : α → β → Prop} : ∀ {l : List α} {m : List β} {l' : List α} {m' : List β}, All2 R l m → All2 R l' m' → All2 R (l ++ l') (m ++ m')
  | [], [], _, _, _, h => h
  | _ :: _, _ :: _, _, _, ⟨h1, h2⟩, h => ⟨h1, all2_append h2 h⟩

/-- something is added to a slice without room -/
theorem run_append_new (w : World) {E : Env} {τ : Ty} {t ty e : TypeId} (ht : P.underlying t = some (.slice e)) (hte : TyOk P τ e) {l m : List τ.den} {a : Option Addr} {cssL cssM : List (List Value)}
    (hL : All2 (FlatD E τ) l cssL) (hM : All2 (FlatD E τ) m cssM) {b : Addr} {c cap : Nat} (hnil : a = none → l = [] ∧ cap = 0)
    (holds : ∀ ad, a = some ad → ∀ j v, cssL.flatten[j]? = some v → w.cell? (ad.add j) = some v) (hnews : ∀ j v, cssM.flatten[j]? = some v → w.cell? (b.add j) = some v)
    (hcap : cap < l.length + m.length) (hfit : fitB (l.length + m.length) τ.bytes = true) :
    ∃ (arr : Array Value) (cap' : Nat) (rest : List Value), (Builtin.append_ #[t, t] ty #[.slice a l.length cap, .slice (some b) m.length c]).run P w = .ok (.slice (some ⟨w.heap.size, 0, none⟩) (l ++ m).length cap') (w.drew.alloc (.cells arr e)) ∧
      arr.toList = (cssL ++ cssM).flatten ++ rest ∧ arr.size = cap' * τ.size ∧ (l ++ m).length ≤ cap' ∧ cap' ≤ maxLen := by
  obtain ⟨inf, z, hi, hsz, hz, hzc, _, _, hby⟩ := hte.info
  obtain ⟨hf1, hf2⟩ := fitB_le hfit
  have hzs := size_zcOk hzc hte.chained
  have lL := All2.flat_length (fun a cs h => FlatD.length τ a cs h) hL
  have lM := All2.flat_length (fun a cs h => FlatD.length τ a cs h) hM
  have hmax : l.length + m.length ≤ maxLen := by unfold maxLen; omega
  have hge := grownCap_ge w (l.length + m.length) cap e
  have hle := grownCap_le_maxLen w (l.length + m.length) cap e hmax
  have hzl : ∀ n, (Builtin.zeroCells z.cells n).size = n * τ.size := fun n => by rw [size_zeroCells, hzs]
  cases a with
  | none =>
    obtain ⟨rfl, rfl⟩ := hnil rfl
    cases cssL with
    | cons _ _ => exact hL.elim
    | nil =>
      have hm : 0 < m.length := by simpa using hcap
      have e0 : List.length ([] : List τ.den) + List.length m = List.length m := by simp
      rw [e0] at hge hle hf1 hf2
      refine ⟨cssM.flatten.toArray ++ Builtin.zeroCells z.cells (grownCap w m.length 0 e - m.length), grownCap w m.length 0 e, (Builtin.zeroCells z.cells (grownCap w m.length 0 e - m.length)).toList, ?_, ?_, ?_, by simpa using hge, hle⟩
      · have := run_append_nil (P := P) w t ty e inf z ht hi hz b m.length c cssM.flatten (by rw [lM, hsz]) hnews hm (by omega) (by rw [hby]; omega)
        simpa using this
      · simp
      · rw [Array.size_append, hzl, List.size_toArray, lM, Nat.sub_mul]
        have := Nat.mul_le_mul_right τ.size hge
        omega
  | some ad =>
    refine ⟨cssL.flatten.toArray ++ cssM.flatten.toArray ++ Builtin.zeroCells z.cells (grownCap w (l.length + m.length) cap e - (l.length + m.length)), grownCap w (l.length + m.length) cap e, (Builtin.zeroCells z.cells (grownCap w (l.length + m.length) cap e - (l.length + m.length))).toList, ?_, ?_, ?_, by simpa using hge, hle⟩
    · have := run_append_grow (P := P) w t ty e inf z ht hi hz ad l.length cap cssL.flatten (by rw [lL, hsz]) (holds ad rfl) b m.length c cssM.flatten (by rw [lM, hsz]) hnews (by omega) (by omega) (growslice_fits (by omega) (by rw [hby]; exact hf1))
      rw [this, List.length_append]
    · simp
    · rw [Array.size_append, Array.size_append, hzl, List.size_toArray, List.size_toArray, lL, lM, Nat.sub_mul]
      have := Nat.mul_le_mul_right τ.size hge
      rw [Nat.add_mul] at this ⊢
      omega

theorem buf_keep {id : Nat} {τ : Ty} {l : List τ.den} {ver : Nat} {z : Bool} {G2 : GE} (hv : ∀ blk, nthB G.hp id = some blk → ∃ t l' ver' z', blk = .buf t l' ver' z' ∧ ver' < ver) {blk : Blk} (hb : nthB G.hp id = some blk) (v : Nat) :
    SameB G G2 id id v v blk (.buf τ l ver z) := by
  obtain ⟨t, l', ver', z', rfl, hlt⟩ := hv _ hb
  simp only [SameB]
  exact ⟨fun h => by omega, fun h e => by omega⟩

/-- where something new has been laid down for a growing slice -/
theorem HRel.newBuf (h : HRel G) {id : Nat} {τ : Ty} {l : List τ.den} {ver : Nat} (hv : ∀ blk, nthB G.hp id = some blk → ∃ t l' ver' z', blk = .buf t l' ver' z' ∧ ver' < ver) {arr : Array Value} {cap : Nat} {css : List (List Value)} {rest : List Value} {w1 : World} (hb : Below G.w.heap.size G.w w1) (hs1 : w1.heap.size = G.w.heap.size) (ha : All2 (FlatD G.env τ) l css)
    (h1 : arr.toList = css.flatten ++ rest) (h2 : arr.size = cap * τ.size) (h3 : l.length ≤ cap) (h4 : cap ≤ maxLen) (ty : TypeId) (z : Bool) :
    Tr G (G.upd (w1.alloc (.cells arr ty)) id (some G.w.heap.size) (.slice (some ⟨G.w.heap.size, 0, none⟩) l.length cap) (.buf τ l ver z)) ∧ HRel (G.upd (w1.alloc (.cells arr ty)) id (some G.w.heap.size) (.slice (some ⟨G.w.heap.size, 0, none⟩) l.length cap) (.buf τ l ver z)) ∧
      AppAt (G.upd (w1.alloc (.cells arr ty)) id (some G.w.heap.size) (.slice (some ⟨G.w.heap.size, 0, none⟩) l.length cap) (.buf τ l ver z)) id ver (.slice (some ⟨G.w.heap.size, 0, none⟩) l.length cap) := by
  have hb2 : Below G.w.heap.size G.w (w1.alloc (.cells arr ty)) := hb.alloc (by omega) _
  obtain ⟨t1, t2⟩ := h.upd (id := id) (blk' := .buf τ l ver z) (w' := w1.alloc (.cells arr ty)) (ob := some G.w.heap.size) (sv := .slice (some ⟨G.w.heap.size, 0, none⟩) l.length cap) hb2.size hb2.os hb2.tape hb2.output
    (fun b hb' _ => hb2.block b hb') (fun b e => by cases e; exact ⟨by simp [hs1], .inl (Nat.le_refl _)⟩)
    (fun blk hb' => ⟨fun b hβ m hm => ⟨fun j hj => World.cell?_of_block (w := G.w) (a := ⟨b, j, none⟩) (hb2.block b (h.lt hb' hβ)), fun e => by cases e; exact absurd (h.lt hb' hβ) (Nat.lt_irrefl _)⟩, fun v => buf_keep hv hb' v⟩)
    fun hE hK => .inl ⟨G.w.heap.size, arr, ty, css, cap, rest, upd_same _ _ _, upd_same _ _ _, by rw [← hs1]; exact heap_alloc_new w1 _, ha.mono fun _ _ h => h.ext hE, h1, h2, h3, h4⟩
  refine ⟨t1, t2, ?_⟩
  unfold AppAt
  have : nthB (G.upd (w1.alloc (.cells arr ty)) id (some G.w.heap.size) (.slice (some ⟨G.w.heap.size, 0, none⟩) l.length cap) (.buf τ l ver z)).hp id = some (.buf τ l ver z) := by rw [look_set, if_pos rfl]
  rw [this]
  exact ⟨Nat.le_refl _, ⟨_, _, _, rfl⟩, fun _ => (upd_same _ _ _).symm⟩

/-- a slice without room goes on as a growing one -/
theorem HRel.sameBuf (h : HRel G) {id : Nat} {τ : Ty} {l : List τ.den} {ver : Nat} (hv : ∀ blk, nthB G.hp id = some blk → G.β id = none ∧ ∃ t l' ver' z', blk = .buf t l' ver' z' ∧ ver' < ver) {x : Value} (hx : FlatD G.env (.sl τ) l [x]) (hfull : ∃ a n, x = .slice a n n) {z : Bool} (hz : z = true ∨ l = []) :
    Tr G (G.upd G.w id none x (.buf τ l ver z)) ∧ HRel (G.upd G.w id none x (.buf τ l ver z)) ∧ AppAt (G.upd G.w id none x (.buf τ l ver z)) id ver x := by
  obtain ⟨t1, t2⟩ := h.upd (id := id) (blk' := .buf τ l ver z) (w' := G.w) (ob := none) (sv := x) (Nat.le_refl _) rfl rfl rfl
    (fun b hb' _ => rfl) (fun b e => by cases e) (fun blk hb' => ⟨(fun b hβ m hm => by rw [(hv _ hb').1] at hβ; cases hβ), fun v => buf_keep (fun blk hb => (hv blk hb).2) hb' v⟩)
    fun hE hK => .inr ⟨upd_same _ _ _, hz, by rw [show (G.upd G.w id none x (.buf τ l ver z)).σ id = x from upd_same _ _ _]; exact hx.ext hE, by rw [show (G.upd G.w id none x (.buf τ l ver z)).σ id = x from upd_same _ _ _]; exact hfull⟩
  refine ⟨t1, t2, ?_⟩
  unfold AppAt
  have : nthB (G.upd G.w id none x (.buf τ l ver z)).hp id = some (.buf τ l ver z) := by rw [look_set, if_pos rfl]
  rw [this]
  obtain ⟨a, n, hs⟩ := hfull
  exact ⟨Nat.le_refl _, ⟨_, _, _, hs⟩, fun _ => (upd_same _ _ _).symm⟩

/-- a growing slice in its own room -/
theorem HRel.roomBuf (h : HRel G) {id : Nat} {τ : Ty} {l m : List τ.den} {ver : Nat} {z : Bool} (hb : nthB G.hp id = some (.buf τ l ver z)) {b : Nat} {arr arr' : Array Value} {ty : TypeId} {css css2 : List (List Value)} {cap : Nat} {rest rest' : List Value}
    (hβ : G.β id = some b) (hw : G.w.heap[b]? = some (.cells arr ty (0, 0))) (ha : All2 (FlatD G.env τ) l css) (hm : All2 (FlatD G.env τ) m css2) (h1 : arr.toList = css.flatten ++ rest) (h1' : arr'.toList = (css ++ css2).flatten ++ rest') (h2 : arr'.size = cap * τ.size) (h3 : (l ++ m).length ≤ cap) (h4 : cap ≤ maxLen) :
    Tr G (G.upd (G.w.setRow b arr') id (some b) (.slice (some ⟨b, 0, none⟩) (l ++ m).length cap) (.buf τ (l ++ m) (ver + 1) z)) ∧ HRel (G.upd (G.w.setRow b arr') id (some b) (.slice (some ⟨b, 0, none⟩) (l ++ m).length cap) (.buf τ (l ++ m) (ver + 1) z)) ∧
      AppAt (G.upd (G.w.setRow b arr') id (some b) (.slice (some ⟨b, 0, none⟩) (l ++ m).length cap) (.buf τ (l ++ m) (ver + 1) z)) id (ver + 1) (.slice (some ⟨b, 0, none⟩) (l ++ m).length cap) := by
  have hlen := All2.flat_length (fun a cs h => FlatD.length τ a cs h) ha
  obtain ⟨t1, t2⟩ := h.upd (id := id) (blk' := .buf τ (l ++ m) (ver + 1) z) (w' := G.w.setRow b arr') (ob := some b) (sv := .slice (some ⟨b, 0, none⟩) (l ++ m).length cap) (by simp) rfl rfl rfl
    (fun b' _ hne => setRow_other G.w b b' arr' (fun e => hne _ hb (by rw [e]; exact hβ))) (fun b' e => by cases e; exact ⟨by simpa using h.lt hb hβ, .inr ⟨_, hb, hβ⟩⟩)
    (fun blk hb' => by
      rw [hb] at hb'; cases hb'
      refine ⟨fun b' hβ' k hk => ?_, fun v => buf_keep (fun blk hb' => by rw [hb] at hb'; cases hb'; exact ⟨_, _, _, _, rfl, Nat.lt_succ_self _⟩) hb v⟩
      rw [hβ] at hβ'; cases hβ'
      simp only [Blk.im] at hk ⊢
      refine ⟨fun j hj => ?_, fun _ => ⟨hk.1, Nat.le_trans hk.2 (Nat.mul_le_mul_right _ (by simp))⟩⟩
      rw [cell_arr hw, cell_arr (setRow_heap G.w b arr arr' ty _ hw), h1, h1']
      rw [List.flatten_append, List.append_assoc, List.getElem?_append_left (by omega), List.getElem?_append_left (by omega)])
    fun hE hK => .inl ⟨b, arr', ty, css ++ css2, cap, rest', upd_same _ _ _, upd_same _ _ _, setRow_heap G.w b arr arr' ty _ hw, (all2_append ha hm).mono fun _ _ h => h.ext hE, h1', h2, h3, h4⟩
  refine ⟨t1, t2, ?_⟩
  unfold AppAt
  have : nthB (G.upd (G.w.setRow b arr') id (some b) (.slice (some ⟨b, 0, none⟩) (l ++ m).length cap) (.buf τ (l ++ m) (ver + 1) z)).hp id = some (.buf τ (l ++ m) (ver + 1) z) := by rw [look_set, if_pos rfl]
  rw [this]
  exact ⟨Nat.le_refl _, ⟨_, _, _, rfl⟩, fun _ => (upd_same _ _ _).symm⟩

/-- a growing slice to which nothing comes -/
theorem HRel.nextBuf (h : HRel G) {id : Nat} {τ : Ty} {l : List τ.den} {ver : Nat} {z : Bool} (hb : nthB G.hp id = some (.buf τ l ver z)) :
    Tr G (G.upd G.w id (G.β id) (G.σ id) (.buf τ l (ver + 1) z)) ∧ HRel (G.upd G.w id (G.β id) (G.σ id) (.buf τ l (ver + 1) z)) ∧ AppAt (G.upd G.w id (G.β id) (G.σ id) (.buf τ l (ver + 1) z)) id (ver + 1) (G.σ id) := by
  obtain ⟨t1, t2⟩ := h.upd (id := id) (blk' := .buf τ l (ver + 1) z) (w' := G.w) (ob := G.β id) (sv := G.σ id) (Nat.le_refl _) rfl rfl rfl
    (fun _ _ _ => rfl) (fun b' e => ⟨h.lt hb e, .inr ⟨_, hb, e⟩⟩)
    (fun blk hb' => by
      rw [hb] at hb'; cases hb'
      exact ⟨fun b' hβ' k hk => ⟨fun _ _ => rfl, fun _ => hk⟩, fun v => buf_keep (fun blk hb' => by rw [hb] at hb'; cases hb'; exact ⟨_, _, _, _, rfl, Nat.lt_succ_self _⟩) hb v⟩)
    fun hE hK => by
      rcases h.blk _ _ hb with ⟨b, arr, ty, css, cap, rest, g1, g2, g3, g4, g5, g6, g7, g8⟩ | ⟨g1, g2, g3, g4⟩
      · exact .inl ⟨b, arr, ty, css, cap, rest, (upd_same _ _ _).trans g1, (upd_same _ _ _).trans g2, g3, g4.mono fun _ _ h => h.ext hE, g5, g6, g7, g8⟩
      · exact .inr ⟨(upd_same _ _ _).trans g1, g2, by rw [show (G.upd G.w id (G.β id) (G.σ id) (.buf τ l (ver + 1) z)).σ id = G.σ id from upd_same _ _ _]; exact g3.ext hE, by rw [show (G.upd G.w id (G.β id) (G.σ id) (.buf τ l (ver + 1) z)).σ id = G.σ id from upd_same _ _ _]; exact g4⟩
  refine ⟨t1, t2, ?_⟩
  unfold AppAt
  have : nthB (G.upd G.w id (G.β id) (G.σ id) (.buf τ l (ver + 1) z)).hp id = some (.buf τ l (ver + 1) z) := by rw [look_set, if_pos rfl]
  rw [this]
  obtain ⟨a, cap, _, hs, _⟩ := buf_at h hb
  exact ⟨Nat.le_refl _, ⟨_, _, _, hs⟩, fun _ => (upd_same _ _ _).symm⟩

theorem SlAt.holds {τ : Ty} {l : List τ.den} {x : Value} (h : SlAt G τ l x) : ∃ a cap css, x = .slice a l.length cap ∧ l.length ≤ cap ∧ All2 (FlatD G.env τ) l css ∧ (a = none → l = []) ∧
    ∀ ad, a = some ad → ∀ j v, css.flatten[j]? = some v → G.w.cell? (ad.add j) = some v := by
  obtain ⟨a, cap, css, h1, h2, h3, h4, h5⟩ := h
  refine ⟨a, cap, css, h1, h2, h4, fun e => ?_, fun ad e j v hj => ?_⟩
  · rcases h5 with h5 | ⟨ad, h5, _⟩
    · exact h5
    · rw [e] at h5; cases h5
  · rcases h5 with rfl | ⟨ad', e', hs, hc⟩
    · cases css with
      | nil => simp at hj
      | cons _ _ => exact h4.elim
    · rw [e] at e'; cases e'
      rw [add_plain _ _ hs]; exact hc j v hj

/-- what an operation that lays or turns blocks comes to -/
def Does (P : Program) (G : GE) (tm : Array Value) (s : Sem Next) (v : V) (hp' : Heap) : Prop :=
  ∃ (r : Next) (x : Value) (w' : World) (β' : Nat → Option Nat) (σ' : Nat → Value), s.run P G.w = .ok r w' ∧ (r = .value x ∨ r = .skip ∧ x = undef) ∧
    Tr G ⟨w', β', σ', hp', G.n0, G.Bo, G.I0⟩ ∧ HRel ⟨w', β', σ', hp', G.n0, G.Bo, G.I0⟩ ∧ AtV ⟨w', β', σ', hp', G.n0, G.Bo, G.I0⟩ tm v x

theorem Does.mk {s : Sem Value} {x : Value} {w' : World} {β' : Nat → Option Nat} {σ' : Nat → Value} {v : V} {hp' : Heap} (hr : s.run P G.w = .ok x w') (t1 : Tr G ⟨w', β', σ', hp', G.n0, G.Bo, G.I0⟩) (t2 : HRel ⟨w', β', σ', hp', G.n0, G.Bo, G.I0⟩)
    (t3 : AtV ⟨w', β', σ', hp', G.n0, G.Bo, G.I0⟩ tm v x) : Does P G tm (do pure (.value (← s))) v hp' :=
  ⟨.value x, x, w', β', σ', by simp only [Sem.run_bind, hr, Result.andThen_ok, Sem.run_pure], .inl rfl, t1, t2, t3⟩

theorem ifE_eq {q : Prop} [Decidable q] {c : Prop} {i : Decidable c} {v v' : V} {hp hp' : Heap} {wr wr' : List Nat} (h : ifE q v hp wr = some (.eff c i v' hp' wr')) : q = c ∧ v = v' ∧ hp = hp' ∧ wr = wr' := by
  simp only [ifE, Option.some.injEq, Out.eff.injEq] at h; exact ⟨h.1, h.2.2.1, h.2.2.2.1, h.2.2.2.2⟩

theorem free_none {hp : Heap} {id : Nat} (hf : free hp id = true) : nthB hp id = none := by
  unfold free at hf; split at hf
  · cases hf
  · assumption

theorem view_cap {n L cap lo : Nat} {hi : Int} (h1 : hi.toNat - lo = L) (h2 : n - lo = cap) (h3 : hi = (n : Int)) : cap = L := by omega

theorem append_does (hC : CtxOk P C) (hR : HRel G) {dst : Option Nat} {τ : Ty} {t ty : TypeId} (ht : look C.ty t = some (.sl τ)) {x xs : V} {bv av : Value} (hx : AtV G tm x bv) {m : List τ.den} (hm : SlAt G τ m av) (hxs : addend xs τ = some m)
    {c : Prop} {i : Decidable c} {v : V} {hp' : Heap} {wr : List Nat} (h : appendE C G.hp dst τ x xs = some (.eff c i v hp' wr)) (hc : c) :
    Does P G tm (do pure (.value (← Builtin.append_ #[t, t] ty #[bv, av]))) v hp' := by
  obtain ⟨e, hu, hte, _⟩ := hC.ty _ _ ht
  obtain ⟨inf, z0, hi, _⟩ := hte.info
  obtain ⟨ab, capM, cssM, rfl, hmc, hM, hMn, hMh⟩ := hm.holds
  have drew : Below G.w.heap.size G.w G.w.drew := (Below.refl _ _).drew
  -- the slice goes into a new block
  have grow : ∀ {l : List τ.den} {a : Option Addr} {cap : Nat} {css : List (List Value)} {id ver : Nat} {z : Bool}, bv = .slice a l.length cap → All2 (FlatD G.env τ) l css → (a = none → l = [] ∧ cap = 0) → (∀ ad, a = some ad → ∀ j v, css.flatten[j]? = some v → G.w.cell? (ad.add j) = some v) →
      cap < l.length + m.length → l.length ≤ cap → fitB (l.length + m.length) τ.bytes = true → (∀ blk, nthB G.hp id = some blk → ∃ t l' ver' z', blk = .buf t l' ver' z' ∧ ver' < ver) →
      Does P G tm (do pure (.value (← Builtin.append_ #[t, t] ty #[bv, .slice ab m.length capM]))) (.app id ver) (setB G.hp id (.buf τ (l ++ m) ver z)) := by
    intro l a cap css id ver z hbv hL hn hh hlt hle hfit hv
    subst hbv
    have hmne : m ≠ [] := by rintro rfl; simp at hlt; omega
    cases ab with
    | none => exact absurd (hMn rfl) hmne
    | some b =>
      obtain ⟨arr, cap', rest, r1, r2, r3, r4, r5⟩ := run_append_new (P := P) G.w (ty := ty) (c := capM) hu hte hL hM hn hh (fun j v hj => hMh b rfl j v hj) hlt hfit
      obtain ⟨t1, t2, t3⟩ := hR.newBuf (id := id) (ver := ver) hv (w1 := G.w.drew) drew rfl (all2_append hL hM) r2 r3 r4 r5 e z
      exact Does.mk r1 t1 t2 (by simpa only [AtV] using t3)
  unfold appendE at h
  rw [hxs] at h
  simp only at h
  cases x with
  | full τ' l =>
    simp only at h
    split at h
    · rename_i hτ
      subst hτ
      split at h
      · rename_i d
        split at h
        · rename_i hf
          have hn := free_none hf
          have hv : ∀ ver (blk : Blk), nthB G.hp (C.base + d) = some blk → ∃ t l' ver' z', blk = .buf t l' ver' z' ∧ ver' < ver := fun ver blk hb => by rw [hn] at hb; cases hb
          simp only [AtV] at hx
          obtain ⟨hxf, af, nf, hxs'⟩ := hx
          obtain ⟨a, cap, css, h1, h2, hL, hLn, hLh⟩ := (SlAt.ofFlatD hxf).holds
          have hcap : cap = List.length l := by
            rw [hxs'] at h1
            simp only [Value.slice.injEq] at h1
            omega
          have key : ∀ z, fitB (List.length l + m.length) τ'.bytes = true → (m = [] → z = true ∨ l = []) → Does P G tm (do pure (.value (← Builtin.append_ #[t, t] ty #[bv, .slice ab m.length capM]))) (.app (C.base + d) 0) (setB G.hp (C.base + d) (.buf τ' (l ++ m) 0 z)) := by
            intro z hfit hz
            by_cases hmn : m = []
            · have hz' := hz hmn
              subst hmn
              rw [List.append_nil]
              obtain ⟨t1, t2, t3⟩ := hR.sameBuf (id := C.base + d) (ver := 0) (fun blk hb => by rw [hn] at hb; cases hb) hxf ⟨af, nf, hxs'⟩ hz'
              have r1 := run_append_none (P := P) G.w (ty := ty) inf hu hi (a := af) (n := nf) (cap := nf) (Nat.le_refl _) (b := ab) (c := capM)
              rw [← hxs'] at r1
              exact Does.mk r1 t1 t2 (by simpa only [AtV] using t3)
            · exact grow h1 hL (fun e => ⟨hLn e, by rw [hcap, hLn e]; rfl⟩) hLh (by have := List.length_pos_iff.2 hmn; omega) h2 hfit (hv 0)
          split at h
          · obtain ⟨rfl, rfl, rfl, rfl⟩ := ifE_eq h
            exact key true hc fun _ => .inl rfl
          · obtain ⟨rfl, rfl, rfl, rfl⟩ := ifE_eq h
            simp only [Bool.and_eq_true, Bool.or_eq_true] at hc
            refine key false hc.1 fun e => .inr ?_
            subst e
            rcases hc.2 with h | h
            · exact List.eq_nil_of_length_eq_zero (Nat.eq_of_beq_eq_true h)
            · simp at h
        · cases h
      · cases h
    · cases h
  | app id ver =>
    simp only at h
    split at h
    · rename_i τ' l ver' z hb
      split at h
      · rename_i hτ
        subst hτ
        split at h
        · rename_i hver
          have hver := Nat.eq_of_beq_eq_true hver
          subst hver
          obtain ⟨rfl, rfl, rfl, rfl⟩ := ifE_eq h
          simp only [AtV] at hx
          unfold AppAt at hx
          rw [hb] at hx
          have hbv := hx.2.2 rfl
          have hv : ∀ (blk : Blk), nthB G.hp id = some blk → ∃ t l' ver' z', blk = .buf t l' ver' z' ∧ ver' < ver + 1 := fun blk hb' => by rw [hb] at hb'; cases hb'; exact ⟨_, _, _, _, rfl, Nat.lt_succ_self _⟩
          by_cases hmn : m = []
          · subst hmn
            rw [List.append_nil]
            obtain ⟨t1, t2, t3⟩ := hR.nextBuf hb
            obtain ⟨a, cap, _, hs, hle, _⟩ := buf_at hR hb
            have r1 := run_append_none (P := P) G.w (ty := ty) inf hu hi (a := a) (n := List.length l) (cap := cap) hle (b := ab) (c := capM)
            rw [← hs, ← hbv] at r1
            exact Does.mk r1 t1 t2 (by simp only [AtV]; rw [hbv]; exact t3)
          · rcases hR.blk _ _ hb with ⟨b, arr, te, css, cap, rest, g1, g2, g3, g4, g5, g6, g7, g8⟩ | ⟨g1, g2, g3, af, nf, g4⟩
            · have hlen := All2.flat_length (fun a cs h => FlatD.length τ' a cs h) g4
              have hlenM := All2.flat_length (fun a cs h => FlatD.length τ' a cs h) hM
              by_cases hroom : List.length l + m.length ≤ cap
              · cases ab with
                | none => exact absurd (hMn rfl) hmn
                | some ad =>
                  have hsz : inf.size = τ'.size := by
                    obtain ⟨inf', _, k1, k2, _⟩ := hte.info
                    rw [hi] at k1; cases k1; exact k2
                  have hone : ∀ u ∈ cssM.flatten, u.oneCell' = true := fun u hu' => oneCell_bool (mem_flatten_all2 (fun a cs h v hv => FlatD.cell τ' a cs h v hv) hM u hu')
                  have hfit2 : List.length l * inf.size + cssM.flatten.length ≤ arr.size := by
                    rw [hsz, hlenM, g6, ← Nat.add_mul]; exact Nat.mul_le_mul_right _ hroom
                  have r1 := run_append_room' (P := P) G.w t ty e te inf hu hi b (List.length l) cap arr g3 ad m.length capM cssM.flatten (by rw [hlenM, hsz]) (fun j v hj => hMh ad rfl j v hj) hone hroom hfit2
                  have harr : arr.toList.take (List.length l * inf.size) = css.flatten := by rw [g5, hsz, ← hlen]; exact List.take_left
                  obtain ⟨t1, t2, t3⟩ := hR.roomBuf hb (m := m) (arr' := (arr.toList.take (List.length l * inf.size) ++ cssM.flatten ++ arr.toList.drop (List.length l * inf.size + cssM.flatten.length)).toArray) (css2 := cssM) (cap := cap) (rest' := arr.toList.drop (List.length l * inf.size + cssM.flatten.length)) g1 g3 g4 hM g5
                    (by rw [harr]; simp) (by simp only [List.size_toArray, List.length_append, List.length_take, List.length_drop, Array.length_toList]; rw [← g6]; omega) (by rw [List.length_append]; exact hroom) g8
                  rw [← List.length_append] at r1
                  have hbv2 := hbv.trans g2
                  subst hbv2
                  exact Does.mk r1 t1 t2 (by simpa only [AtV] using t3)
              · refine grow (hbv.trans g2) g4 (fun e => by cases e) (fun ad e j v hj => ?_) (Nat.not_le.1 hroom) g7 hc hv
                cases e
                have hj' : j < css.flatten.length := by
                  rcases Nat.lt_or_ge j css.flatten.length with h | h
                  · exact h
                  · rw [List.getElem?_eq_none h] at hj; cases hj
                rw [Addr.add_lit, cell_arr g3, g5, Nat.zero_add, List.getElem?_append_left hj']; exact hj
            · obtain ⟨a, cap, css, h1, h2, hL, hLn, hLh⟩ := (SlAt.ofFlatD g3).holds
              have hcap : cap = List.length l := by
                rw [g4] at h1
                simp only [Value.slice.injEq] at h1
                omega
              exact grow (hbv.trans h1) hL (fun e => ⟨hLn e, by rw [hcap, hLn e]; rfl⟩) hLh (by rw [hcap]; exact Nat.lt_add_of_pos_right (List.length_pos_iff.2 hmn)) h2 hc hv
        · cases h
      · cases h
    · cases h
  | view id p τ' n lo hi =>
    simp only at h
    split at h
    · rename_i d τ2 l hrd
      split at h
      · rename_i hτ
        subst hτ
        split at h
        · rename_i hf
          have hn := free_none hf
          obtain ⟨rfl, rfl, rfl, rfl⟩ := ifE_eq h
          obtain ⟨hhi, hc⟩ := hc
          simp only [Bool.and_eq_true] at hc
          have hsl := rd_sl hR hx hrd
          obtain ⟨a, cap, css, h1, h2, hL, hLn, hLh⟩ := hsl.holds
          simp only [AtV] at hx
          unfold ViewAt at hx
          split at hx
          · obtain ⟨b', o, e1, e2, e3, e4, e5, e6, e7⟩ := hx
            rw [e7] at h1
            simp only [Value.slice.injEq] at h1
            have hm0 : 0 < m.length := by have := hc.2; simpa using this
            refine grow (a := a) (cap := cap) (by rw [e7]; simp only [Value.slice.injEq]; exact h1) hL (fun e => by rw [e] at h1; simp at h1) hLh (by rw [view_cap h1.2.1 h1.2.2 hhi]; exact Nat.lt_add_of_pos_right hm0) h2 hc.1 (fun blk hb => by rw [hn] at hb; cases hb)
          · exact hx.elim
        · cases h
      · cases h
    · cases h
  | _ => simp at h

end
end Go.Bx
