/- A part of a framework that reads Go code as functions of plain data; or a law about such functions. -/
import Derived.Test.YtebnjboimekljaaCxQ
namespace Go.Bx
set_option linter.unusedVariables false
set_option linter.unusedSimpArgs false
open Go Go.RowKit

section
variable {P : Program} {C : Ctx} {G : GE} {fr : List V} {ρ : Operand → Value} {tm : Array Value}

theorem storeVar_run (w : World) {τ : Ty} {t : TypeId} (ht : TyOk P τ t) {b o : Nat} {arr : Array Value} {ty : TypeId} (hw : w.heap[b]? = some (.cells arr ty (0, 0))) {x : Value} (hsz : x.cells.size = τ.size) (hfit : o + x.cells.size ≤ arr.size) (hone : ∀ c ∈ x.cells.toList, oneCell c) :
    (Instr.storeAt t (.pointer (some ⟨b, o, none⟩)) x).run P w = .ok () (w.setRow b (lay arr.toList o x.cells.toList).toArray) := by
  have hst := run_storeCells_at P b o ty x.cells.toList 0 arr w hw (by simpa using hfit) fun v hv => oneCell_bool (hone v hv)
  simp only [Nat.add_zero] at hst
  simp only [Instr.storeAt, Instr.sureAddr, storeVar, Sem.run_bind, Sem.run_pure, Result.andThen_ok, run_sizeOf w ht.info, hsz, ne_eq, not_true_eq_false, if_false, hst, lay]

theorem Does.skip {s : Sem Unit} {w' : World} {β' : Nat → Option Nat} {σ' : Nat → Value} {hp' : Heap} (hr : s.run P G.w = .ok () w') (t1 : Tr G ⟨w', β', σ', hp', G.n0, G.Bo, G.I0⟩) (t2 : HRel ⟨w', β', σ', hp', G.n0, G.Bo, G.I0⟩) : Does P G tm (do s; pure .skip) .any hp' :=
  ⟨.skip, undef, w', β', σ', by simp only [Sem.run_bind, hr, Result.andThen_ok, Sem.run_pure], .inr ⟨rfl, rfl⟩, t1, t2, by simp only [AtV]⟩

/-- first blocks are frozen, then something is done -/
theorem Does.after {G1 : GE} (t : Tr G G1) (hw : G1.w = G.w) (hn : G1.n0 = G.n0) (hb : G1.Bo = G.Bo) (hi : G1.I0 = G.I0) {s : Sem Next} {v : V} {hp' : Heap} (h : Does P G1 tm s v hp') : Does P G tm s v hp' := by
  obtain ⟨r, x, w', β', σ', h1, h2, h3, h4, h5⟩ := h
  rw [hw] at h1
  rw [hn, hb, hi] at h3 h4 h5
  exact ⟨r, x, w', β', σ', h1, h2, t.trans h3, h4, h5⟩

theorem all2_set {τ : Ty} {E : Env} {l : List τ.den} {css : List (List Value)} (h : All2 (FlatD E τ) l css) (i : Nat) (a : τ.den) (b : List Value) (hab : FlatD E τ a b) : All2 (FlatD E τ) (l.set i a) (css.set i b) := h.set i a b hab

/-- a store into a part of a growing slice -/
theorem HRel.storeBuf (h : HRel G) {id : Nat} {τ : Ty} {l : List τ.den} {ver : Nat} (hb : nthB G.hp id = some (.buf τ l ver false)) {b : Nat} {arr : Array Value} {ty : TypeId} {css : List (List Value)} {cap : Nat} {rest : List Value} (hβ : G.β id = some b) (hσ : G.σ id = .slice (some ⟨b, 0, none⟩) l.length cap) (hw : G.w.heap[b]? = some (.cells arr ty (0, 0)))
    (ha : All2 (FlatD G.env τ) l css) (h1 : arr.toList = css.flatten ++ rest) (h2 : arr.size = cap * τ.size) (h3 : l.length ≤ cap) (h4 : cap ≤ maxLen) {i : Nat} (hi : i < l.length) {q : List Step} {o : Nat} {u : Ty} (ho : offT τ q = some (o, u)) {y : u.den} {ds : List Value} (hy : FlatD G.env u y ds) {z : τ.den}
    (hz : updP τ (l.getD i τ.zero) q u y = some z) :
    i * τ.size + o + ds.length ≤ arr.size ∧ Tr G ⟨G.w.setRow b (lay arr.toList (i * τ.size + o) ds).toArray, G.β, G.σ, setB G.hp id (.buf τ (l.set i z) ver false), G.n0, G.Bo, G.I0⟩ ∧ HRel ⟨G.w.setRow b (lay arr.toList (i * τ.size + o) ds).toArray, G.β, G.σ, setB G.hp id (.buf τ (l.set i z) ver false), G.n0, G.Bo, G.I0⟩ := by
  have hlen := All2.flat_length (fun a cs h => FlatD.length τ a cs h) ha
  obtain ⟨hm, hr⟩ := ha.get i hi
  have hgd : (l : List τ.den).getD i τ.zero = l[i] := by simp [List.getD, List.getElem?_eq_getElem hi]
  rw [hgd] at hz
  obtain ⟨_, hle, hf⟩ := updP_flat τ l[i] css[i] q o u u y z ds hr ho hz hy
  have hcl := FlatD.length _ _ _ hr
  have hmul : (i + 1) * τ.size ≤ l.length * τ.size := Nat.mul_le_mul_right _ (by omega)
  rw [Nat.add_mul] at hmul
  have hfit : i * τ.size + o + ds.length ≤ css.flatten.length := by omega
  have hal : arr.toList.length = css.flatten.length + rest.length := by rw [h1, List.length_append]
  have hsz : arr.size = arr.toList.length := by simp
  have hlay : lay arr.toList (i * τ.size + o) ds = (css.set i (lay css[i] o ds)).flatten ++ rest := by
    rw [h1, lay_left _ _ _ _ hfit, all2_lay (fun a cs h => FlatD.length τ a cs h) ha i hm o ds (by omega)]
  have hll : (lay arr.toList (i * τ.size + o) ds).length = arr.toList.length := by
    simp only [lay, List.length_append, List.length_take, List.length_drop]; omega
  refine ⟨by omega, ?_⟩
  have := h.upd (id := id) (blk' := .buf τ (l.set i z) ver false) (w' := G.w.setRow b (lay arr.toList (i * τ.size + o) ds).toArray) (ob := G.β id) (sv := G.σ id) (by simp) rfl rfl rfl
    (fun b' _ hne => setRow_other G.w b b' _ (fun e => hne _ hb (by rw [e]; exact hβ))) (fun b' e => ⟨by simpa using h.lt hb e, .inr ⟨_, hb, e⟩⟩)
    (fun blk hb' => by
      rw [hb] at hb'; cases hb'
      refine ⟨(fun b' _ m hm => by simp only [Blk.im] at hm; cases hm.1), fun v => ?_⟩
      simp only [SameB]
      exact ⟨fun h => h, fun _ e => ⟨e, trivial, upd_same _ _ _, upd_same _ _ _, by simp⟩⟩)
    fun hE hK => .inl ⟨b, _, ty, css.set i (lay css[i] o ds), cap, rest, (upd_same _ _ _).trans hβ, (upd_same _ _ _).trans (by rw [hσ]; simp), setRow_heap G.w b arr _ ty _ hw, (all2_set ha i z _ hf).mono fun _ _ h => h.ext hE, by simpa using hlay, by rw [List.size_toArray, hll, ← hsz, h2], by simpa using h3, h4⟩
  rwa [GE.upd_same] at this

theorem updP_ty : ∀ {τ : Ty} {x : τ.den} {q : List Step} {t' : Ty} {y : t'.den} {z : τ.den} {o : Nat} {u : Ty}, updP τ x q t' y = some z → offT τ q = some (o, u) → u = t'
  | τ, x, [], t', y, z, o, u, h, ho => by
    obtain ⟨rfl, rfl⟩ := offT_nil ho
    have : castD t' u y = some z := by cases u <;> simpa [updP] using h
    obtain ⟨e, _⟩ := castD_some this
    exact e.symm
  | .arr n t, l, .idx i :: p, t', y, z, o, u, h, ho => by
    simp only [offT] at ho
    split at ho
    · cases h2 : offT t p with
      | none => simp [h2] at ho
      | some q =>
        simp [h2] at ho
        obtain ⟨rfl, rfl⟩ := ho
        simp only [updP] at h
        obtain ⟨w, hw, _⟩ := Option.map_eq_some_iff.1 h
        exact updP_ty hw h2
    · cases ho
  | .pair a _, x, .fld 0 :: p, t', y, z, o, u, h, ho => by
    simp only [offT] at ho
    simp only [updP] at h
    obtain ⟨w, hw, _⟩ := Option.map_eq_some_iff.1 h
    exact updP_ty hw ho
  | .pair a b, x, .fld (j + 1) :: p, t', y, z, o, u, h, ho => by
    simp only [offT] at ho
    cases h2 : offT b (.fld j :: p) with
    | none => simp [h2] at ho
    | some q =>
      simp [h2] at ho
      obtain ⟨rfl, rfl⟩ := ho
      simp only [updP] at h
      obtain ⟨w, hw, _⟩ := Option.map_eq_some_iff.1 h
      exact updP_ty hw h2
  | .int _, _, _ :: _, _, _, _, _, _, _, ho => by simp [offT] at ho
  | .bool, _, _ :: _, _, _, _, _, _, _, ho => by simp [offT] at ho
  | .str, _, _ :: _, _, _, _, _, _, _, ho => by simp [offT] at ho
  | .sl _, _, _ :: _, _, _, _, _, _, _, ho => by simp [offT] at ho
  | .unit, _, _ :: _, _, _, _, _, _, _, ho => by simp [offT] at ho
  | .opq, _, _ :: _, _, _, _, _, _, _, ho => by simp [offT] at ho
  | .arr _ _, _, .fld _ :: _, _, _, _, _, _, _, ho => by simp [offT] at ho
  | .pair _ _, _, .idx _ :: _, _, _, _, _, _, _, ho => by simp [offT] at ho

theorem make_run (w : World) {t e : TypeId} {inf : TypeInfo} {z : Value} (hu : P.underlying t = some (.slice e)) (hi : P.info? e = some inf) (hz : inf.zero = some z) (n m : Int) (h0 : 0 ≤ n) (hm : m = n) (hb : n.toNat * inf.bytes ≤ 140737488355328) (h2 : n.toNat ≤ 35184372088832) :
    (Instr.makeSlice t (.int .i64 n) (.int .i64 m)).run P w = .ok (.slice (some ⟨w.heap.size, 0, none⟩) n.toNat n.toNat) (w.alloc (.cells (madeCells z.cells (n.toNat * inf.size)) e)) := by
  subst hm
  have hb' : (inf.bytes : Int) * m ≤ 281474976710656 := by
    have e : ((m.toNat * inf.bytes : Nat) : Int) = (inf.bytes : Int) * m := by
      rw [Int.natCast_mul, Int.toNat_of_nonneg h0, Int.mul_comm]
    omega
  exact run_make (P := P) w t e inf z hu hi hz .i64 .i64 m m h0 (Int.le_refl _) hb' (by omega)

theorem made_cells {τ : Ty} {z : Value} {s : Nat} (hzc : zcOk τ z.cells.toList) (hpl : τ.plain = true) (hs : s = τ.size) (n : Nat) : (madeCells z.cells (n * s)).toList = (List.replicate n (zc τ)).flatten := by
  subst hs
  have hz2 := zcOk_plain _ _ hpl hzc
  have hzl : z.cells.size = τ.size := by rw [← Array.length_toList, hz2]; exact FlatD.length (E := ⟨default, fun _ _ => False⟩) _ _ _ (FlatD.zero τ hpl)
  simp only [madeCells, Array.toList_map, Array.toList_range]
  have := range_rep (zc τ) τ.size (by rw [← hz2, Array.length_toList, hzl]) n
  rw [← this, hzl]
  apply List.map_congr_left
  intro i _
  rw [← hz2]
  simp only [getElem!_def, Array.getElem?_toList]

theorem cpy_flat {E : Env} {τ : Ty} (h1 : τ.size = 1) {n : Nat} {l m : List τ.den} {cs : List Value} {cssM : List (List Value)} (hl : FlatD E (.arr n τ) l cs) (hm : All2 (FlatD E τ) m cssM) {lo hi : Int} (k : Nat) (hk : k = hi.toNat - lo.toNat) (hlo : lo.toNat + k ≤ n) :
    FlatD E (.arr n τ) (cpyL l lo hi m) (lay cs lo.toNat (cssM.flatten.take k)) := by
  obtain ⟨hln, css, rfl, ha⟩ := hl
  have hln : List.length l = n := hln
  have hlM := All2.flat_length (fun a cs h => FlatD.length τ a cs h) hm
  have hlL := All2.flat_length (fun a cs h => FlatD.length τ a cs h) ha
  rw [h1, Nat.mul_one] at hlM hlL
  have hcm := hm.length
  have hcl := ha.length
  subst hk
  refine ⟨?_, css.take lo.toNat ++ cssM.take (hi.toNat - lo.toNat) ++ css.drop (lo.toNat + min (List.length m) (hi.toNat - lo.toNat)), ?_, ?_⟩
  · simp only [cpyL, List.length_append, List.length_take, List.length_drop]; omega
  · simp only [lay, List.flatten_append]
    rw [flatten_take (fun a cs h => FlatD.length τ a cs h) _ ha, flatten_take (fun a cs h => FlatD.length τ a cs h) _ hm, flatten_drop (fun a cs h => FlatD.length τ a cs h) _ ha, h1]
    simp only [Nat.mul_one, List.length_take, hlM]
    rw [Nat.min_comm]
  · exact all2_append (all2_append (all2_take _ ha) (all2_take _ hm)) (all2_drop _ ha)

theorem lay_sub {cs cs1 news : List Value} {o lo : Nat} (h : ∀ j x, cs1[j]? = some x → cs[o + j]? = some x) (hl : o + cs1.length ≤ cs.length) (hn : lo + news.length ≤ cs1.length) : lay cs o (lay cs1 lo news) = lay cs (o + lo) news := by
  have e1 : (cs.drop o).take cs1.length = cs1 := take_of_at h rfl
  have e2 : cs = cs.take o ++ (cs1 ++ cs.drop (o + cs1.length)) := by
    have := (List.take_append_drop o cs).symm
    rw [← List.take_append_drop cs1.length (cs.drop o), e1, List.drop_drop] at this
    exact this
  have hto : (cs.take o).length = o := by rw [List.length_take]; omega
  have hll : (lay cs1 lo news).length = cs1.length := by simp only [lay, List.length_append, List.length_take, List.length_drop]; omega
  rw [e2]
  have k1 := lay_right (cs.take o) (cs1 ++ cs.drop (o + cs1.length)) (lay cs1 lo news) 0
  have k2 := lay_right (cs.take o) (cs1 ++ cs.drop (o + cs1.length)) news lo
  rw [hto] at k1 k2
  rw [Nat.add_zero] at k1
  rw [k1, k2, lay_left _ _ _ _ hn, lay_left _ _ _ _ (by omega), lay_zero _ _ hll]

theorem at_goInt {k : Nat} (h : k ≤ maxLen) : AtV G tm (.data (.int .i64) (k : Int)) (goInt k) := by
  unfold goInt
  refine .mkInt ?_
  rw [inR_iff]
  unfold maxLen at h; simp [IntKind.min, IntKind.max, IntKind.bits, IntKind.signed]; omega

theorem copy_does (hC : CtxOk P C) (hR : HRel G) {τ : Ty} {t t' ty : TypeId} (ht : look C.ty t = some (.sl τ)) {x xv : V} {bv av : Value} (hx : AtV G tm x bv) (hxs : AtV G tm xv av)
    {c : Prop} {i : Decidable c} {v : V} {hp' : Heap} {wr : List Nat} (h : copyE G.hp τ x (rd G.hp xv) = some (.eff c i v hp' wr)) :
    Does P G tm (do pure (.value (← Builtin.copy_ #[t, t'] ty #[bv, av]))) v hp' := by
  obtain ⟨e, hu, hte, _⟩ := hC.ty _ _ ht
  unfold copyE at h
  split at h
  · rename_i id p τ1 n lo hi m hadd
    have hm : SlAt G τ m av := by
      cases hrd : rd G.hp xv with
      | data t2 y =>
        rw [hrd] at hadd
        cases t2 with
        | sl t3 =>
          simp only [addend] at hadd
          obtain ⟨e, he⟩ := castD_some hadd
          cases e
          subst he
          exact rd_sl hR hxs hrd
        | _ => simp [addend] at hadd
      | _ => rw [hrd] at hadd; simp [addend] at hadd
    split at h
    · rename_i σ cv hb
      split at h
      · rename_i n' τ2 l hgv
        split at h
        · rename_i hτ
          subst hτ
          split at h
          · rename_i hns
            obtain ⟨rfl, hs1⟩ := hns
            split at h
            · rename_i v' hset
              obtain ⟨_, rfl, rfl, rfl⟩ := ifE_eq h
              simp only [AtV] at hx
              unfold ViewAt at hx
              rw [hb] at hx
              obtain ⟨b, o, e1, e2, e3, e4, e5, e6, e7⟩ := hx
              obtain ⟨b', arr, tyb, g1, g2, g3⟩ := hR.cell hb
              rw [e1] at g1; cases g1
              obtain ⟨cs1, f1, f2, f3⟩ := getV_flat p g3 e2
              rw [hgv] at f1
              obtain ⟨eτ, f1'⟩ := f1.flatD
              cases eτ
              have f1 : FlatD G.env (.arr n' τ1) l cs1 := f1'
              obtain ⟨ab, capM, cssM, rfl, hmc, hM, hMn, hMh⟩ := hm.holds
              have hlM := All2.flat_length (fun a cs h => FlatD.length τ1 a cs h) hM
              rw [hs1, Nat.mul_one] at hlM
              have hcs1 := FlatD.length _ _ _ f1
              have hcs1 : cs1.length = n' := by rw [hcs1]; simp [Ty.size, hs1]
              have hk : lo.toNat + (hi.toNat - lo.toNat) ≤ n' := by omega
              have hfl := cpy_flat hs1 f1 hM (lo := lo) (hi := hi) _ rfl hk
              have hnl : (cssM.flatten.take (hi.toNat - lo.toNat)).length = min (List.length m) (hi.toNat - lo.toNat) := by rw [List.length_take, hlM, Nat.min_comm]
              obtain ⟨s1, s2⟩ := setV_flat p g3 e2 (FlatV.ofFlatD hfl) hset
              have hlay := lay_sub f2 f3 (by rw [hnl, hcs1]; omega : lo.toNat + (cssM.flatten.take (hi.toNat - lo.toNat)).length ≤ cs1.length)
              rw [hlay] at s2
              obtain ⟨t1, t2⟩ := hR.storeCell hb e1 g2 (arr' := (lay arr.toList (o + lo.toNat) (cssM.flatten.take (hi.toNat - lo.toNat))).toArray) (by simpa using s2)
              have hsz : (P.info? e).map (·.size) = some 1 := by
                obtain ⟨inf, _, k1, k2, _⟩ := hte.info
                rw [k1, Option.map_some, k2, hs1]
              have hkm : min (List.length m) (hi.toNat - lo.toNat) ≤ maxLen := by omega
              by_cases h0 : min (List.length m) (hi.toNat - lo.toNat) = 0
              · have hnews : cssM.flatten.take (hi.toNat - lo.toNat) = [] := List.eq_nil_of_length_eq_zero (by rw [hnl, h0])
                have harr : (lay arr.toList (o + lo.toNat) (cssM.flatten.take (hi.toNat - lo.toNat))).toArray = arr := by
                  rw [hnews]; simp [lay]
                rw [harr, setRow_self _ _ _ _ _ g2] at t1 t2
                have r1 := run_copy_none (P := P) G.w t t' ty e (some (if lo.toNat = n' then ⟨b, o, none⟩ else ⟨b, o + lo.toNat * τ1.size, none⟩)) ab (hi.toNat - lo.toNat) (n' - lo.toNat) (List.length m) capM hu hsz h0
                rw [← e7] at r1
                have hz := at_goInt (G := ⟨G.w, G.β, G.σ, setB G.hp id (.cell σ v' false), G.n0, G.Bo, G.I0⟩) (tm := tm) hkm
                rw [h0] at hz ⊢
                exact Does.mk r1 t1 t2 hz
              · cases ab with
                | none =>
                  have := hMn rfl
                  rw [this] at h0; simp at h0
                | some ad =>
                  have hne : lo.toNat ≠ n' := by omega
                  rw [if_neg hne, hs1, Nat.mul_one] at e7
                  have hfit : o + lo.toNat + (cssM.flatten.take (hi.toNat - lo.toNat)).length ≤ arr.size := by
                    have : arr.size = arr.toList.length := by simp
                    rw [hnl]; omega
                  have hone : ∀ u ∈ cssM.flatten.take (hi.toNat - lo.toNat), u.oneCell' = true := fun u hu' => oneCell_bool (mem_flatten_all2 (fun a cs h v hv => FlatD.cell τ1 a cs h v hv) hM u (List.mem_of_mem_take hu'))
                  have r1 := run_copy_row (P := P) G.w t t' ty e b (o + lo.toNat) (hi.toNat - lo.toNat) (n' - lo.toNat) ad (List.length m) capM arr tyb (cssM.flatten.take (hi.toNat - lo.toNat)) hu hsz g2 (by rw [hnl]; try rfl) (fun j v hj => by
                    rw [List.getElem?_take] at hj
                    split at hj
                    · exact hMh ad rfl j v hj
                    · cases hj) hfit hone
                  rw [← e7] at r1
                  have r2 : (Builtin.copy_ #[t, t'] ty #[bv, .slice (some ad) (List.length m) capM]).run P G.w = .ok (goInt ((min (List.length m) (hi.toNat - lo.toNat) : Nat) : Int)) (G.w.setRow b (lay arr.toList (o + lo.toNat) (cssM.flatten.take (hi.toNat - lo.toNat))).toArray) := by
                    rw [r1, hnl]; simp only [lay, hnl]
                  exact Does.mk r2 t1 t2 (at_goInt hkm)
            · cases h
          · cases h
        · cases h
      · cases h
    · cases h
  · cases h

theorem effR_eff (hC : CtxOk P C) (hR : HRel G) (hL : Look G tm fr ρ) {g : Option Gd} (hg : Yes g tm) (o : Oper) {c : Prop} {i : Decidable c} {v : V} {hp' : Heap} {wr : List Nat} (hv : effR C g fr G.hp o.dst o.op = some (.eff c i v hp' wr)) (hc : c) : Does P G tm (execOp ρ o) v hp' := by
  obtain ⟨dst, op, type, pos, after, guard⟩ := o
  simp only at hv
  cases op <;> simp only [effR, reduceCtorEq] at hv
  case alloc t =>
    split at hv
    · rename_i τ d hτ
      split at hv
      · rename_i hf
        obtain ⟨rfl, rfl, rfl, rfl⟩ := ifE_eq hv
        have htk := hC.ty _ _ hτ
        obtain ⟨z, hz1, hz2, _⟩ := run_zeroV (P := P) G.w htk.info
        have hrun : (Instr.alloc t true (.tuple #[])).run P G.w = .ok (.pointer (some ⟨G.w.heap.size, 0, none⟩)) (G.w.alloc (.cells z.cells t)) := by
          simp only [Instr.alloc, Sem.run_bind, hz1, Result.andThen_ok]
          simp [newVar, newRow]
        obtain ⟨t1, t2, t3⟩ := hR.newCell hf (zeroV_flat (G := G) τ _ htk.chained hz2) t
        exact Does.mk hrun t1 t2 (by simpa only [AtV] using t3)
      · cases hv
    · cases hv
  case box t x =>
    split at hv
    · rename_i τ d hτ
      split at hv
      · rename_i hf
        simp only [Bool.and_eq_true] at hf
        obtain ⟨rfl, rfl, rfl, rfl⟩ := ifE_eq hv
        have hrun : (Instr.box t (ρ x)).run P G.w = .ok (.pointer (some ⟨G.w.heap.size, 0, none⟩)) (G.w.alloc (.cells (ρ x).cells t)) := by
          simp [Instr.box, newVar, newRow]
        obtain ⟨t1, t2, t3⟩ := hR.newCell hf.1 (fits_flat hf.2 (hL.un hg x)).1 t
        exact Does.mk hrun t1 t2 (by simpa only [AtV] using t3)
      · cases hv
    · cases hv
  case store t x y =>
    split at hv
    · rename_i τ id ver p hτ heq
      have htk := hC.ty _ _ hτ
      have hx := hL.ud hg x
      rw [heq] at hx
      simp only [AtV] at hx
      split at hv
      · rename_i σ cv hb
        split at hv
        · rename_i hfit
          simp only [Bool.and_eq_true, decide_eq_true_eq] at hfit
          split at hv
          · rename_i v' hset
            obtain ⟨rfl, rfl, rfl, rfl⟩ := ifE_eq hv
            obtain ⟨b, o, e1, e2, e3⟩ := tyAt_off hx hb hfit.2
            obtain ⟨b', arr, ty, g1, g2, g3⟩ := hR.cell hb
            rw [e1] at g1; cases g1
            obtain ⟨hyf, hys⟩ := fits_flat hfit.1 (hL.un hg y).nilT
            obtain ⟨hle, hvf⟩ := setV_flat p g3 e2 hyf hset
            have hrun := storeVar_run (P := P) G.w htk g2 (x := ρ y) hys.size (o := o) (by simpa using hle) hyf.one
            rw [← e3] at hrun
            obtain ⟨t1, t2⟩ := hR.storeCell hb e1 g2 (arr' := (lay arr.toList o (ρ y).cells.toList).toArray) (by simpa using hvf)
            exact Does.skip hrun t1 t2
          · cases hv
        · cases hv
      · rename_i hb0
        split at hv
        · rename_i σ l ver' hb
          split at hv
          · rename_i hver
            have hver := Nat.eq_of_beq_eq_true hver
            subst hver
            split at hv
            · rename_i i0 q0 τ' z hrd
              split at hv
              · rename_i hττ
                subst hττ
                split at hv
                · rename_i z' hz
                  obtain ⟨rfl, rfl, rfl, rfl⟩ := ifE_eq hv
                  obtain ⟨t0, k0⟩ := frz_tr (dd (un g (ev fr y))) G hR
                  have hy := rd_frz _ G hR (hL.ud hg y) hrd
                  have hx' : RefAt (G.withHp (frz G.hp (dd (un g (ev fr y))))) id ver (.idx i0 :: q0) (ρ x) := hx.ren t0.keep rfl
                  unfold RefAt at hx'
                  rw [show (G.withHp (frz G.hp (dd (un g (ev fr y))))).hp = frz G.hp (dd (un g (ev fr y))) from rfl, hb] at hx'
                  obtain ⟨b, i1, q1, o, u, f1, f2, f3, f4, f5, f6⟩ := hx'.2.2 rfl
                  cases f1
                  rcases k0.blk _ _ hb with ⟨b', arr, ty, css, cap, rest, g1, g2, g3, g4, g5, g6, g7, g8⟩ | ⟨g1, _⟩
                  · rw [f2] at g1; cases g1
                    have hyc := hy.cells
                    have hcast := updP_ty hz f5
                    subst hcast
                    obtain ⟨k1, k2, k3⟩ := k0.storeBuf hb f2 g2 g3 g4 g5 g6 g7 g8 f4 f5 hyc hz
                    have hag := hy.isAgg
                    have hrun := storeVar_run (P := P) G.w htk g3 (x := ρ y) hag.2.2 (o := i0.toNat * σ.size + o) (by simpa using k1) (FlatD.cell _ _ _ hyc)
                    rw [← f6] at hrun
                    refine Does.after t0 rfl rfl rfl rfl ?_
                    exact Does.skip hrun k2 k3
                  · rw [f2] at g1; cases g1
                · cases hv
              · cases hv
            · cases hv
          · cases hv
        · cases hv
      · cases hv
    · cases hv
  case buildSlice t n parts =>
    split at hv
    · rename_i τ hτ
      split at hv
      · rename_i hcn
        simp only [Bool.and_eq_true] at hcn
        split at hv
        · rename_i y hy
          obtain ⟨rfl, rfl, rfl, rfl⟩ := ifE_eq hv
          obtain ⟨e, hu, hte, _⟩ := hC.ty _ _ hτ
          have hn := Nat.le_of_ble_eq_true hcn.2
          generalize hps : (parts.toList.map fun p => dd (un g (ev fr p.2))) = ps
          obtain ⟨t0, k0⟩ := frzL_tr ps G hR
          obtain ⟨cs', r1, r2⟩ := run_buildSlice (P := P) (G := G.withHp (frzL G.hp ps)) (ρ := ρ) hu hte hcn.1.1 (Nat.le_of_ble_eq_true hcn.1.2) (e := fun x => rd G.hp (dd (un g (ev fr x)))) (fun p hp => by
            refine ⟨fun t y he => rd_frzL_mem ps G hR (by rw [← hps]; exact List.mem_map.2 ⟨p, hp, rfl⟩) (hL.ud hg p.2) he, fun he => ?_⟩
            have := rd_snil he
            have h2 := hL.ud hg p.2
            rw [this] at h2
            simpa only [AtV] using h2) hy
          obtain ⟨hl', css, hcs, hall⟩ := r2
          have hb : Below G.w.heap.size G.w (G.w.alloc (.cells cs' e)) := (Below.refl _ _).alloc (Nat.le_refl _) _
          obtain ⟨t1, t2⟩ := k0.grow hb
          have hsl := new_sl k0 (Below.refl _ G.w) rfl (cap := n) (rest := []) hl' hall (by rw [hcs]; simp) (Nat.le_refl _) (by unfold maxLen; omega) e (0, 0)
          refine Does.after t0 rfl rfl rfl rfl (Does.mk r1 t1 t2 ?_)
          simp only [AtV]
          exact ⟨hsl, _, _, rfl⟩
        · cases hv
      · cases hv
    · cases hv
  case makeSlice t len cap =>
    split at hv
    · rename_i τ d k n k' m hτ h1 h2
      split at hv
      · rename_i hf
        simp only [Bool.and_eq_true, decide_eq_true_eq] at hf
        obtain ⟨⟨⟨hf, hpl⟩, rfl⟩, rfl⟩ := hf
        obtain ⟨rfl, rfl, rfl, rfl⟩ := ifE_eq hv
        obtain ⟨hc0, hmn, hfit⟩ := hc
        obtain ⟨e, hu, hte, _⟩ := hC.ty _ _ hτ
        have hl := hL.ud hg len
        have hcp := hL.ud hg cap
        rw [h1] at hl; rw [h2] at hcp
        have hl := hl.int.1
        have hcp := hcp.int.1
        obtain ⟨inf, z, hi, hsz, hz, hzc, _, _, hby⟩ := hte.info
        obtain ⟨hf1, hf2⟩ := fitB_le hfit
        have r1 := make_run (P := P) G.w hu hi hz n m hc0 hmn (by rw [hby]; exact hf1) hf2
        rw [← hl, ← hcp] at r1
        have hzs := size_zcOk hzc hte.chained
        have hcells := made_cells hzc hpl hsz (Int.toNat n)
        obtain ⟨t1, t2, t3⟩ := hR.newBuf (id := C.base + d) (τ := τ) (l := List.replicate (Int.toNat n) τ.zero) (ver := 0) (fun blk hb => by rw [free_none hf] at hb; cases hb) (w1 := G.w) (Below.refl _ _) rfl
          (css := List.replicate (Int.toNat n) (zc τ)) (all2_replicate (FlatD.zero τ hpl) _) (arr := madeCells z.cells (Int.toNat n * inf.size)) (rest := []) (cap := Int.toNat n) (by rw [hcells]; simp) (by rw [size_madeCells, hsz]) (by simp) (by unfold maxLen; omega) e false
        refine Does.mk r1 t1 t2 ?_
        simp only [AtV]
        simpa using t3
      · cases hv
    · cases hv
  case slice t x lo hi mx =>
    split at hv
    · rename_i id ver τ heq hτ
      have hx := hL.ud hg x
      rw [heq] at hx
      simp only [AtV] at hx
      split at hv
      · rename_i τ' l ver' z hb
        split at hv
        · rename_i ht
          obtain ⟨rfl, hver⟩ := ht
          have hver := Nat.eq_of_beq_eq_true hver
          subst hver
          split at hv
          · rename_i c' i' v' hsl
            cases hv
            unfold AppAt at hx
            rw [hb] at hx
            have hx := hx.2.2 rfl
            obtain ⟨e, hu, hte, _⟩ := hC.ty _ _ hτ
            obtain ⟨t0, k0⟩ := frz_tr (.app id ver) G hR
            have hfz := sl_frozen k0 (id := id) (t := τ) (l := l) (ver := ver) (by simp only [frz, hb]; rw [look_set, if_pos rfl]; rfl)
            obtain ⟨y, r1, r2⟩ := sliceL_run (P := P) G.w hu hte (fun x => hL.ud hg x) hfz hsl hc
            rw [show (G.withHp (frz G.hp (.app id ver))).σ id = G.σ id from rfl, ← hx] at r1
            refine Does.mk r1 t0 k0 ?_
            rcases r2 with ⟨a, b, rfl, r3⟩ | ⟨a, b, rfl, r3, ad, n, r4⟩
            · simp only [AtV]; exact .ofFlat r3 rfl
            · simp only [AtV]; exact ⟨r3, ad, n, r4⟩
          · cases hv
        · cases hv
      · cases hv
    · cases hv
  case call c' =>
    split at hv
    · rename_i hcal
      split at hv
      · rename_i x xs t t' hargs hts
        split at hv
        · rename_i htt
          subst htt
          split at hv
          · rename_i τ hτ
            have ha1 : c'.args.map ρ = #[ρ x, ρ xs] := by apply Array.ext'; simp [hargs]
            have ha2 : c'.argTypes = #[t, t] := by apply Array.ext'; simpa using hts
            have hxs := (hL.ud hg xs).nilT (u := .sl τ)
            cases hadd : addend (rd G.hp (nilT (.sl τ) (dd (un g (ev fr xs))))) τ with
            | none => simp [appendE, hadd] at hv
            | some m =>
              have hm : SlAt G τ m (ρ xs) := by
                cases hrd : rd G.hp (nilT (.sl τ) (dd (un g (ev fr xs)))) with
                | data t2 y =>
                  rw [hrd] at hadd
                  cases t2 with
                  | sl t3 =>
                    simp only [addend] at hadd
                    obtain ⟨e, he⟩ := castD_some hadd
                    cases e
                    subst he
                    exact rd_sl hR hxs hrd
                  | _ => simp [addend] at hadd
                | _ => rw [hrd] at hadd; simp [addend] at hadd
              have := append_does (P := P) hC hR (ty := type) hτ (hL.un hg x).nilT hm hadd hv hc
              have hex : execOp ρ { dst, op := .call c', type, pos, after, guard } = (do pure (.value (← Builtin.append_ #[t, t] type #[ρ x, ρ xs]))) := by
                simp [execOp, resolve, hcal, ha1, ha2, invoke, builtin]
              rw [hex]; exact this
          · cases hv
        · cases hv
      · cases hv
    · rename_i hcal
      split at hv
      · rename_i x xs t t' hargs hts
        split at hv
        · rename_i τ hτ
          have ha1 : c'.args.map ρ = #[ρ x, ρ xs] := by apply Array.ext'; simp [hargs]
          have ha2 : c'.argTypes = #[t, t'] := by apply Array.ext'; simpa using hts
          have := copy_does (P := P) hC hR (t' := t') (ty := type) hτ (hL.un hg x) ((hL.ud hg xs).nilT (u := .sl τ)) hv
          have hex : execOp ρ { dst, op := .call c', type, pos, after, guard } = (do pure (.value (← Builtin.copy_ #[t, t'] type #[ρ x, ρ xs]))) := by
            simp [execOp, resolve, hcal, ha1, ha2, invoke, builtin]
          rw [hex]; exact this
        · cases hv
      · cases hv
    · cases hv
    · split at hv
      · split at hv
        · split at hv <;> simp at hv
        · split at hv
          · simp only [shCall] at hv
            split at hv <;> simp at hv
          · cases hv
      · cases hv
  all_goals (first | (cases hv; done) | (simp at hv; done))

end
end Go.Bx
