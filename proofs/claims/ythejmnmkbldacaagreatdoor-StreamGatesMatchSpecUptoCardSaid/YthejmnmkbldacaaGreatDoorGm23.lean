/-
  What is proved: an append keeps what is already owned as its result; one more rule for regions that draw, of an operation whose operands are known by relations. Conditions: none.
  What is proved: the reference's NewGate makes a gate. Conditions: none.
-/
import Derived.Test.YthejmnmkbldacaaGreatDoorGm22
import Derived.Maps.AppendAt
set_option linter.all false
namespace Go.Proofs.YthejmnmkbldacaaGreatDoor
open Go.RowKit

theorem info_parts' {P : Program} {e : TypeId} {z : Value} {size bytes : Nat} (h : (P.info? e).map (fun i => (i.zero, i.size, i.bytes)) = some (some z, size, bytes)) : ∃ i, P.info? e = some i ∧ i.zero = some z ∧ i.size = size ∧ i.bytes = bytes := by
  cases hi : P.info? e with
  | none => rw [hi] at h; cases h
  | some i =>
    rw [hi] at h
    simp only [Option.map_some, Option.some.injEq, Prod.mk.injEq] at h
    exact ⟨i, rfl, h.1, h.2.1, h.2.2⟩

theorem append_pres {P : Program} (w : World) (base : Nat) (t ty e : TypeId) {z : Value} {size bytes : Nat} (ht : P.underlying t = some (.slice e)) (hinfo : (P.info? e).map (fun i => (i.zero, i.size, i.bytes)) = some (some z, size, bytes)) (hzs : z.cells.size = size) (hsz : 0 < size)
    (v : Value) (n : Nat) (xs us : List Value) (hown : w.ownsRow base e size v n xs) (b : Nat) (hl : us.length = size) (hb : ∀ j u, us[j]? = some u → w.cell? ((⟨b, 0, none⟩ : Addr).add j) = some u) (h1 : ∀ u ∈ us, u.oneCell' = true) (hn : n < 1073741824) (hby : bytes ≤ 65536) (hbase : base ≤ w.heap.size) :
    ∃ v' w', (Builtin.append_ #[t, t] ty #[v, .slice (some ⟨b, 0, none⟩) 1 1]).run P w = .ok v' w' ∧ w'.ownsRow base e size v' (n + 1) (xs ++ us) ∧ w.grownBy w' v.ownBlock ∧ ∀ v0, w.ownsRow base e size v0 (n + 1) (xs ++ us) → w'.ownsRow base e size v0 (n + 1) (xs ++ us) := by
  obtain ⟨i, hi, hz, hsize, hbytes⟩ := info_parts' hinfo
  have hbb : (n + 1) * bytes ≤ 140737488355328 := Nat.le_trans (Nat.mul_le_mul (show n + 1 ≤ 1073741824 by omega) hby) (by decide)
  obtain ⟨v', w', hr, h2, h3, _, _⟩ := run_append_own_at (P := P) w base t ty e i z size bytes ht hi hz hsize hbytes hzs hsz v n xs hown ⟨b, 0, none⟩ 1 1 us (by omega) hb h1 (by unfold maxLen; omega) hbb hbase
  refine ⟨v', w', hr, h2, h3, fun v0 h0 => ?_⟩
  rcases h0.2 with ⟨_, e0⟩ | ⟨g0, cap0, cur0, rfl, hbg0, hg0, hnc0, hcm0, hcs0, htake0⟩
  · omega
  · by_cases hne : v.ownBlock = some g0
    · rcases hown.2 with ⟨rfl, rfl⟩ | ⟨g, cap, cur, rfl, hbg, hg, hnc, hcm, hcs, htake⟩
      · simp [Value.ownBlock] at hne
      · have hgg : g = g0 := by
          have : some g = some g0 := hne
          injection this
        subst hgg
        have hcc : cur = cur0 := by
          rw [hg] at hg0
          injection hg0 with hg0
          injection hg0
        subst hcc
        by_cases hroom : n + 1 ≤ cap
        · have hfit : n * i.size + us.length ≤ cur.size := by
            rw [hl, hcs, hsize]
            have := Nat.mul_le_mul_right size hroom
            rw [Nat.succ_mul] at this
            exact this
          have hr2 := run_append_room (P := P) w t ty e i ht hi g n cap cur hg ⟨b, 0, none⟩ 1 1 us (by omega) hb h1 hroom hfit
          have hr3 := hr.symm.trans hr2
          injection hr3 with _ hw
          subst hw
          have hlen : (xs ++ us).length = (n + 1) * size := h0.1
          refine ⟨h0.1, .inr ⟨g, cap0, _, rfl, hbg0, setRow_heap w g cur _ e _ hg, hnc0, hcm0, ?_, ?_⟩⟩
          · rw [← hcs0]
            simp only [List.size_toArray, List.length_append, List.length_take, List.length_drop, Array.length_toList]
            omega
          · rw [hsize, htake]
            show List.take ((n + 1) * size) (xs ++ us ++ _) = xs ++ us
            rw [← hlen]
            exact List.take_left
        · have holds : ∀ j u, xs[j]? = some u → w.cell? ((⟨g, 0, none⟩ : Addr).add j) = some u := hown.cells (g := g) rfl
          have hr2 := run_append_grow (P := P) w t ty e i z ht hi hz ⟨g, 0, none⟩ n cap xs (by rw [hsize]; exact hown.1) holds ⟨b, 0, none⟩ 1 1 us (by omega) hb (by omega) (by omega) (growslice_fits (by omega) (by rw [hbytes]; exact hbb))
          have hr3 := hr.symm.trans hr2
          injection hr3 with _ hw
          subst hw
          exact ⟨h0.1, .inr ⟨g, cap0, cur, rfl, hbg0, (heap_alloc_old w.drew _ (lt_of_block hg)).trans hg, hnc0, hcm0, hcs0, htake0⟩⟩
    · exact ⟨h0.1, .inr ⟨g0, cap0, cur0, rfl, hbg0, (h3.block g0 (lt_of_block hg0) (fun e => hne e.symm)).trans hg0, hnc0, hcm0, hcs0, htake0⟩⟩

namespace Tab
variable {P : Program} {ops : Array Oper} {Q : Exit → Act → World → Prop} {E : World → World → Prop} {C : Array Bool → World → Prop} {w0 : World} {a0 : Act} {G : Env} {o : Oper} {i : Nat} {rest : List Oper} {K : Env → Prop}
/-- an operation that changes the world and hands nothing on, whatever its operands are known by -/
theorem tab_actT (hd : o.dst = none) (hg : guardB ops G a0 o = some true)
    (hrun : ∀ listed (a : Act) w, listed.size = ops.size → Stage ops i listed → C listed w → E w0 w → (∀ x ∈ o.op.operands, G.tyd a0 x (a.eval x) w) → ∃ w', (execOp a.eval o).run P w = .ok .skip w' ∧ E w w' ∧ C (listed.setIfInBounds i true) w')
    (h : wpTab P ops Q E C w0 a0 K (i + 1) rest G) : wpTab P ops Q E C w0 a0 K i (o :: rest) G :=
  ⟨.is undef, stable_is _, fun listed a w hsz hst hc hw hl => by
    rw [if_pos (guard_spec hl hg)]
    refine .inl ?_
    unfold Oper.wp
    obtain ⟨w', hr, hE, hC⟩ := hrun listed a w hsz hst hc hw (tyd_of hl)
    rw [hr]
    exact ⟨undef, by cases a; rw [hd], rfl, hE, hC⟩, by rw [hd]; exact h⟩
/-- an operation that changes the world and hands a value on that is known by a relation -/
theorem tab_tyv {d : Tmp} (R : Value → World → Prop) (hd : o.dst = some d) (hst : stable E (.ty R)) (hg : guardB ops G a0 o = some true)
    (hrun : ∀ listed (a : Act) w, listed.size = ops.size → Stage ops i listed → C listed w → E w0 w → (∀ x ∈ o.op.operands, G.tyd a0 x (a.eval x) w) → ∃ v w', (execOp a.eval o).run P w = .ok (.value v) w' ∧ R v w' ∧ E w w' ∧ C (listed.setIfInBounds i true) w')
    (h : wpTab P ops Q E C w0 a0 K (i + 1) rest ((d, .ty R) :: G)) : wpTab P ops Q E C w0 a0 K i (o :: rest) G :=
  tab_ty (.ty R) hd hst hg (fun listed a w hsz hs hc hw hx => by
    obtain ⟨v, w', hr, h1, h2, h3⟩ := hrun listed a w hsz hs hc hw hx
    unfold Oper.wp
    rw [hr]
    exact ⟨v, rfl, h1, h2, h3⟩) h
end Tab
end Go.Proofs.YthejmnmkbldacaaGreatDoor

namespace Go.Proofs.YthejmnmkbldacaaGreatDoor
open Go.RowKit
attribute [local go_sem] Tab.Env.ev Tab.Env.get

theorem wcell6 {w : World} {g : Nat} {t : TypeId} {x0 x1 x2 x3 x4 x5 : Value} (h : Blk w g t [x0, x1, x2, x3, x4, x5]) : w.cell? ⟨g, 0, none⟩ = some x0 ∧ w.cell? ⟨g, 1, none⟩ = some x1 ∧ w.cell? ⟨g, 2, none⟩ = some x2 ∧ w.cell? ⟨g, 3, none⟩ = some x3 ∧ w.cell? ⟨g, 4, none⟩ = some x4 ∧ w.cell? ⟨g, 5, none⟩ = some x5 := ⟨h.cell 0, h.cell 1, h.cell 2, h.cell 3, h.cell 4, h.cell 5⟩
theorem infoI : (Tryz.prog.info? 3).map (fun i => (i.zero, i.size, i.bytes)) = some (some (.int .i64 0), 1, 8) := by kernel_rfl
theorem underI : Tryz.prog.underlying 57 = some (.slice 3) := by kernel_rfl
theorem infoB : (Tryz.prog.info? 4).map (fun i => (i.zero, i.size, i.bytes)) = some (some (.bool false), 1, 1) := by kernel_rfl
theorem underB : Tryz.prog.underlying 109 = some (.slice 4) := by kernel_rfl
/-- rows of elements of two types lie in two blocks -/
theorem own_own_ne {w : World} {base base' : Nat} {e e' : TypeId} {s s' n n' : Nat} {v v' : Value} {xs xs' : List Value} (h : w.ownsRow base e s v n xs) (h' : w.ownsRow base' e' s' v' n' xs') (hne : e ≠ e') : ∀ b, v.ownBlock = some b → v'.ownBlock ≠ some b := fun b hb hb' => by
  rcases h.2 with ⟨rfl, _⟩ | ⟨g, cap, cur, rfl, _, hg, _⟩
  · simp [Value.ownBlock] at hb
  · rcases h'.2 with ⟨rfl, _⟩ | ⟨g', cap', cur', rfl, _, hg', _⟩
    · simp [Value.ownBlock] at hb'
    · have e1 : some g = some b := hb
      have e2 : some g' = some b := hb'
      injection e1 with e1
      injection e2 with e2
      subst e1
      subst e2
      rw [hg] at hg'
      injection hg' with hg'
      injection hg' with _ hg'
      exact hne hg'
theorem own_slice {w : World} {base : Nat} {e : TypeId} {s n : Nat} {v : Value} {xs : List Value} (h : w.ownsRow base e s v n xs) : ∃ A m c, v = .slice A m c := by
  rcases h.2 with ⟨e, _⟩ | ⟨_, _, _, e, _⟩ <;> exact ⟨_, _, _, e⟩

/-- a gate of the reference in memory; its waiting rows apart -/
structure RGateM (w : World) (base g : Nat) (D : GateD) (mv iv vw : Value) : Prop where
  blk : Blk w g 111 [.int .i64 D.column, .int .i64 D.delay, mv, iv, .int .i64 D.mark, vw]
  mown : w.ownsRow base 3 1 mv D.srcs.length (D.srcs.map fun s => .int .i64 s.1)
  iown : w.ownsRow base 4 1 iv D.srcs.length (D.srcs.map fun s => .bool s.2)
  bg : base ≤ g
  ok : D.ok

def mrow (n : Nat) : List Value := List.replicate n (.int .i64 (-62135596800))
def irow (n : Nat) : List Value := List.replicate n (.bool false)
/-- what each operation of the two appends keeps -/
structure NgE (base k : Nat) (M : Nat → Prop) (W W' : World) : Prop where
  ext : Tab.Ext M W W'
  p1 : ∀ v, W.ownsRow base 3 1 v (k + 1) (mrow (k + 1)) → W'.ownsRow base 3 1 v (k + 1) (mrow (k + 1))
  p2 : ∀ v, W.ownsRow base 4 1 v (k + 1) (irow (k + 1)) → W'.ownsRow base 4 1 v (k + 1) (irow (k + 1))
theorem NgE.refl (base k : Nat) (M : Nat → Prop) (W : World) : NgE base k M W W := ⟨Tab.Ext.refl _ _, fun _ h => h, fun _ h => h⟩
theorem NgE.trans {base k : Nat} {M : Nat → Prop} {a b c : World} (h : NgE base k M a b) (h' : NgE base k M b c) : NgE base k M a c := ⟨h.ext.trans h'.ext, fun v hv => h'.p1 v (h.p1 v hv), fun v hv => h'.p2 v (h.p2 v hv)⟩
/-- where the region stands: operations 7 and 13 append, 16 and 19 store -/
def NgC (base g k : Nat) (col del : Int) (mv iv : Value) (l : Array Bool) (W : World) : Prop :=
  ∃ x2 x3, Blk W g 111 [.int .i64 col, .int .i64 del, x2, x3, .int .i64 (-62135596800), .slice none 0 0] ∧
    (l.getD 16 false = false → x2 = mv) ∧ (l.getD 16 false = true → W.ownsRow base 3 1 x2 (k + 1) (mrow (k + 1))) ∧
    (l.getD 19 false = false → x3 = iv) ∧ (l.getD 19 false = true → W.ownsRow base 4 1 x3 (k + 1) (irow (k + 1))) ∧
    (l.getD 7 false = false → W.ownsRow base 3 1 mv k (mrow k)) ∧ (l.getD 13 false = false → W.ownsRow base 4 1 iv k (irow k))
theorem getDSetNe {l : Array Bool} {i j : Nat} (h : i ≠ j) : (l.setIfInBounds i true).getD j false = l.getD j false := by
  simp [Array.getD_eq_getD_getElem?, Array.getElem?_setIfInBounds, h]
theorem ng_silent {base g k : Nat} {col del : Int} {mv iv : Value} {i : Nat} (h : i ≠ 7 ∧ i ≠ 13 ∧ i ≠ 16 ∧ i ≠ 19) : Tab.Silent (NgC base g k col del mv iv) i := fun listed w hc => by
  unfold NgC at hc ⊢
  rw [getDSetNe h.1, getDSetNe h.2.1, getDSetNe h.2.2.1, getDSetNe h.2.2.2]
  exact hc

theorem NgE.alloc {base k : Nat} {M : Nat → Prop} (W : World) (o : Obj) : NgE base k M W (W.alloc o) := ⟨Tab.Ext.of_below (below_new W o), fun _ h => own_later h (below_new W o), fun _ h => own_later h (below_new W o)⟩
theorem NgC.alloc {base g k : Nat} {col del : Int} {mv iv : Value} {i : Nat} (hi : i ≠ 7 ∧ i ≠ 13 ∧ i ≠ 16 ∧ i ≠ 19) {l : Array Bool} {W : World} (h : NgC base g k col del mv iv l W) (o : Obj) : NgC base g k col del mv iv (l.setIfInBounds i true) (W.alloc o) := by
  refine ng_silent hi _ _ ?_
  obtain ⟨x2, x3, hB, c1, c2, c3, c4, c5, c6⟩ := h
  exact ⟨x2, x3, hB.alloc o, c1, fun e => own_later (c2 e) (below_new W o), c3, fun e => own_later (c4 e) (below_new W o), fun e => own_later (c5 e) (below_new W o), fun e => own_later (c6 e) (below_new W o)⟩
theorem getD_set_eq {l : Array Bool} {i : Nat} (h : i < l.size) : (l.setIfInBounds i true).getD i false = true := by
  simp [h]
theorem NgE.int {base k : Nat} {M : Nat → Prop} {W W' : World} {mv : Value} {n : Nat} {xs : List Value} (ho : W.ownsRow base 3 1 mv n xs) (hg : W.grownBy W' mv.ownBlock) (hM : ∀ b, mv.ownBlock = some b → M b) (hp : ∀ v, W.ownsRow base 3 1 v (k + 1) (mrow (k + 1)) → W'.ownsRow base 3 1 v (k + 1) (mrow (k + 1))) : NgE base k M W W' :=
  ⟨Tab.Ext.of_grown hg (fun b _ e => hM b e), hp, fun v hv => own_keep hv fun b hb => hg.block b (hv.lt b hb).2 (fun e => own_own_ne hv ho (by decide) b hb e.symm)⟩
theorem NgE.bool {base k : Nat} {M : Nat → Prop} {W W' : World} {iv : Value} {n : Nat} {xs : List Value} (ho : W.ownsRow base 4 1 iv n xs) (hg : W.grownBy W' iv.ownBlock) (hM : ∀ b, iv.ownBlock = some b → M b) (hp : ∀ v, W.ownsRow base 4 1 v (k + 1) (irow (k + 1)) → W'.ownsRow base 4 1 v (k + 1) (irow (k + 1))) : NgE base k M W W' :=
  ⟨Tab.Ext.of_grown hg (fun b _ e => hM b e), fun v hv => own_keep hv fun b hb => hg.block b (hv.lt b hb).2 (fun e => own_own_ne hv ho (by decide) b hb e.symm), hp⟩
theorem NgE.store {base k g o : Nat} {M : Nat → Prop} {W : World} {cs : List Value} (hB : Blk W g 111 cs) (hM : M g) (u : Value) : NgE base k M W (W.setCell ⟨g, o, none⟩ u) :=
  ⟨(Tab.Ext.refl M W).setCell (p := ⟨g, o, none⟩) (.inl hM) u, fun v hv => ownsRow_setCell_other hv (a := ⟨g, o, none⟩) (own_blk_ne hv hB (by decide)) u, fun v hv => ownsRow_setCell_other hv (a := ⟨g, o, none⟩) (own_blk_ne hv hB (by decide)) u⟩

def NewRPost (sources column delay : Int) (w : World) (e : Ending) (w' : World) : Prop :=
  Below w.heap.size w w' ∧ ((¬ newOk sources column delay ∧ e = .returned (.tuple #[.pointer none, .int .i64 3])) ∨
    (newOk sources column delay ∧ ∃ g mv iv, e = .returned (.tuple #[.pointer (some ⟨g, 0, none⟩), .int .i64 0]) ∧ RGateM w' w.heap.size g (newD sources column delay) mv iv (.slice none 0 0)))

set_option maxHeartbeats 4000000 in
set_option maxRecDepth 100000 in
theorem newGateR_any (sources column delay : Int) (hc : I64 column) (w : World) :
    Calls Tryz.prog 19 #[.int .i64 sources, .int .i64 column, .int .i64 delay] w (NewRPost sources column delay w) := by
  have HC := Lib.hid hc
  clear hc
  cases h1 : decide ((1 : Int) ≤ sources ∧ sources ≤ 20) with
  | false =>
    have HN := Lib.hid (show ¬ newOk sources column delay from fun h => by have := decide_eq_true h.1; rw [h1] at this; cases this)
    go_enter Tryz.func19, Tryz.ntmps19
    go_wp2_with fail
    refine (within9_any _ _ _ _).mono ?_
    rintro e w1 ⟨rfl, rfl⟩
    rw [h1]
    clear h1
    go_wp2_with fail
    go_ret2
    exact ⟨Below.refl _ _, .inl ⟨HN.out, rfl⟩⟩
  | true =>
    by_cases h2 : column < 0
    · have HN := Lib.hid (show ¬ newOk sources column delay from fun h => by have := h.2.1; omega)
      have hd : decide (column < 0) = true := by simp [h2]
      go_enter Tryz.func19, Tryz.ntmps19
      go_wp2_with fail
      refine (within9_any _ _ _ _).mono ?_
      rintro e w1 ⟨rfl, rfl⟩
      rw [h1]
      clear h1
      go_wp2_with fail
      go_ret2
      exact ⟨Below.refl _ _, .inl ⟨HN.out, rfl⟩⟩
    · have hd : decide (column < 0) = false := by simp; omega
      cases h3 : decide ((0 : Int) ≤ delay ∧ delay ≤ 4294967296) with
      | false =>
        have HN := Lib.hid (show ¬ newOk sources column delay from fun h => by have := decide_eq_true h.2.2; rw [h3] at this; cases this)
        clear h2
        go_enter Tryz.func19, Tryz.ntmps19
        go_wp2_with fail
        refine (within9_any _ _ _ _).mono ?_
        rintro e w1 ⟨rfl, rfl⟩
        rw [h1]
        clear h1
        go_wp2_with fail
        refine (within9_any _ _ _ _).mono ?_
        rintro e w1 ⟨rfl, rfl⟩
        rw [h3]
        clear h3
        go_wp2_with fail
        go_ret2
        exact ⟨Below.refl _ _, .inl ⟨HN.out, rfl⟩⟩
      | true =>
        have g1 : (1 : Int) ≤ sources ∧ sources ≤ 20 := of_decide_eq_true h1
        have g3 : (0 : Int) ≤ delay ∧ delay ≤ 4294967296 := of_decide_eq_true h3
        have HN := Lib.hid (show newOk sources column delay from ⟨g1, by omega, g3⟩)
        have HCOL := Lib.hid (show 0 ≤ column by omega)
        have HH1 := Lib.hid h1
        have HH3 := Lib.hid h3
        obtain ⟨n, hn⟩ : ∃ n : Nat, sources = n := ⟨sources.toNat, by omega⟩
        subst hn
        have B0 := Lib.hid (Blk.new w 111 [.int .i64 column, .int .i64 delay, .slice none 0 0, .slice none 0 0, .int .i64 (-62135596800), .slice none 0 0])
        clear h2 h1 h3
        go_enter Tryz.func19, Tryz.ntmps19
        go_wp2_with fail
        refine (within9_any _ _ _ _).mono ?_
        rintro e w1 ⟨rfl, rfl⟩
        rw [HH1.out]
        go_wp2_with fail
        refine (within9_any _ _ _ _).mono ?_
        rintro e w1 ⟨rfl, rfl⟩
        rw [HH3.out]
        go_wp2_with fail
        go_loopw [9] (fun i wr => ∃ (k : Nat) (mv iv : Value), k ≤ n ∧ i = .int .i64 k ∧ Blk wr w.heap.size 111 [.int .i64 column, .int .i64 delay, mv, iv, .int .i64 (-62135596800), .slice none 0 0] ∧ wr.ownsRow w.heap.size 3 1 mv k (mrow k) ∧ wr.ownsRow w.heap.size 4 1 iv k (irow k) ∧ Below w.heap.size w wr) (fun i _ => n - (intOf i).toNat)
        case atStart => exact ⟨0, _, _, Nat.zero_le _, rfl, B0.out, World.ownsRow_nil _ _ _ _, World.ownsRow_nil _ _ _ _, below_new w _⟩
        case round =>
          obtain ⟨k, mv, iv, hk, rfl, hb, hmo, hio, hbel⟩ := hrel
          have HB := Lib.hid hb
          have HMO := Lib.hid hmo
          have HIO := Lib.hid hio
          have hgl := hb.lt
          have hzz : w.heap.size ≤ wr.heap.size := hbel.size
          by_cases hlt : k < n
          · clear hb hmo hio
            go_wp2_with fail
            obtain ⟨M, hM⟩ : ∃ M : Nat → Prop, M = fun b => b = w.heap.size ∨ mv.ownBlock = some b ∨ iv.ownBlock = some b := ⟨_, rfl⟩
            have hMg : M w.heap.size := by rw [hM]; exact .inl rfl
            have hMm : ∀ b, mv.ownBlock = some b → M b := fun b e => by rw [hM]; exact .inr (.inl e)
            have hMi : ∀ b, iv.ownBlock = some b → M b := fun b e => by rw [hM]; exact .inr (.inr e)
            have hMn : ∀ b, wr.heap.size ≤ b → ¬ M b := fun b hb h => by
              rw [hM] at h
              rcases h with e | e | e
              · omega
              · have := (HMO.out.lt b e).2; omega
              · have := (HIO.out.lt b e).2; omega
            have hMb : ∀ b, M b → w.heap.size ≤ b := fun b h => by
              rw [hM] at h
              rcases h with e | e | e
              · omega
              · exact (HMO.out.lt b e).1
              · exact (HIO.out.lt b e).1
            clear hM
            have HMG := Lib.hid hMg
            have HMM := Lib.hid hMm
            have HMI := Lib.hid hMi
            have HMN := Lib.hid hMn
            have HMB := Lib.hid hMb
            clear hMg hMm hMi hMn hMb
            refine Tab.wp_region_tabC (NgE w.heap.size k M) (NgC w.heap.size w.heap.size k column delay mv iv) (by kernel_rfl) (by kernel_rfl) (fun _ => NgE.refl _ _ _ _) (fun _ _ _ h k => h.trans k) ⟨mv, iv, HB.out.drew, fun _ => rfl, fun h => by simp at h, fun _ => rfl, fun h => by simp at h, fun _ => own_keep HMO.out (fun _ _ => rfl), fun _ => own_keep HIO.out (fun _ _ => rfl)⟩ ?_
            iterate 5 (first | (refine Tab.tab_moveE _ rfl (ng_silent (by decide)) (.inl rfl) rfl rfl (fun _ => NgE.refl _ _ _ _) ?_; apply Exists.intro; refine And.intro ?_ ?_; focus (simp [Tab.Env.ev, Tab.Env.get]; rfl)) | (refine Tab.tab_moveE _ rfl (ng_silent (by decide)) (.inr rfl) rfl rfl (fun _ => NgE.refl _ _ _ _) ?_; apply Exists.intro; refine And.intro ?_ ?_; focus (simp [Tab.Env.ev, Tab.Env.get]; rfl)) | refine Tab.tab_skip rfl (ng_silent (by decide)) rfl ?_ | (refine Tab.tab_repE rfl (ng_silent (by decide)) rfl (fun _ _ h => by cases h) rfl (fun _ => NgE.refl _ _ _ _) ?_; apply Exists.intro; refine And.intro (fun l w' _ _ hw => ?_) ?_; focus (go_simp; rfl)) | (refine Tab.tab_repE rfl (ng_silent (by decide)) rfl (fun _ _ h => by cases h) rfl (fun _ => NgE.refl _ _ _ _) ?_; apply Exists.intro; refine And.intro (fun l w' hs hc hw => ?_) ?_; focus (go_simp; rfl)))
            (refine Tab.tab_repE rfl (ng_silent (by decide)) rfl (fun _ _ h => by cases h) rfl (fun _ => NgE.refl _ _ _ _) ?_; apply Exists.intro; refine And.intro (fun l w' hs hc hw => ?_) ?_; focus ((obtain ⟨x2, x3, hB, e1, _⟩ := hc; have e := e1 ((hs.2 16).2 (by kernel_rfl)); subst e; have q := wcell6 hB; go_simp; rfl)))
            refine Tab.tab_tyv (fun v W => ∃ b, v = .slice (some ⟨b, 0, none⟩) 1 1 ∧ Blk W b 3 [.int .i64 (-62135596800)] ∧ wr.heap.size ≤ b) rfl (fun v W W' hE ⟨b, hv, hb, hl⟩ => ⟨b, hv, hb.ext hE.ext (HMN.out b hl), hl⟩) rfl (fun listed a W hsz hs hc hw hx => ⟨.slice (some ⟨W.heap.size, 0, none⟩) 1 1, W.alloc (.cells #[.int .i64 (-62135596800)] 3), ?_, ⟨_, rfl, Blk.new W _ _, hw.ext.size⟩, NgE.alloc _ _, NgC.alloc (by decide) hc _⟩) ?_
            focus (go_simp; done)
            refine Tab.tab_tyv (fun v W => W.ownsRow w.heap.size 3 1 v (k + 1) (mrow (k + 1))) rfl (fun v W W' hE hv => hE.p1 v hv) rfl (fun listed a W hsz hs hc hw hx => ?_) ?_
            focus (
              obtain ⟨x2, x3, hB, c1, c2, c3, c4, c5, c6⟩ := hc
              have e36 := hx (.tmp 36) (by simp [Op.operands, Call.operands])
              have e37 := hx (.tmp 37) (by simp [Op.operands, Call.operands])
              simp only [Tab.Env.tyd, Tab.Env.knows, Tab.Env.get, Nat.reduceEqDiff, if_true, if_false, Tab.Ty.holds] at e36 e37
              obtain ⟨b, e37, hb37, hl37⟩ := e37
              have hown := c5 hs.1
              obtain ⟨v', W', hr, h1, h2, h3⟩ := append_pres (P := Tryz.prog) W w.heap.size 57 57 3 underI infoI rfl (by decide) mv k (mrow k) [.int .i64 (-62135596800)] hown b rfl (fun j u hj => by
                rw [show (⟨b, 0, none⟩ : Addr).add j = ⟨b, j, none⟩ by simp [Addr.add]; rintro rfl; rfl, hb37.cell]
                exact hj) (by simp [Value.oneCell']) (by omega) (by decide) (Nat.le_trans hzz hw.ext.size)
              have hsn : mrow k ++ [.int .i64 (-62135596800)] = mrow (k + 1) := replicate_snoc _ _
              rw [hsn] at h1 h3
              have hE : NgE w.heap.size k M W W' := NgE.int hown h2 HMM.out h3
              refine ⟨v', W', ?_, h1, hE, ?_⟩
              · simp [execOp, resolve, invoke, builtin, e36, e37, hr, Result.andThen]
              · have hBn : ∀ b, mv.ownBlock = some b → b ≠ w.heap.size := fun b e e2 => own_blk_ne hown hB (by decide) (e2 ▸ e)
                exact ⟨x2, x3, (h2.block w.heap.size hB.lt (fun e => hBn _ e.symm rfl)).trans hB, fun e => c1 (by rw [getDSetNe (by decide)] at e; exact e), fun e => h3 _ (c2 (by rw [getDSetNe (by decide)] at e; exact e)), fun e => c3 (by rw [getDSetNe (by decide)] at e; exact e), fun e => hE.p2 _ (c4 (by rw [getDSetNe (by decide)] at e; exact e)), fun e => (by rw [getD_set_eq (by rw [hsz]; decide)] at e; cases e),
                  fun e => own_keep (c6 (by rw [getDSetNe (by decide)] at e; exact e)) fun b hb => h2.block b ((c6 (by rw [getDSetNe (by decide)] at e; exact e)).lt b hb).2 (fun e' => own_own_ne (c6 (by rw [getDSetNe (by decide)] at e; exact e)) hown (by decide) b hb e'.symm)⟩)
            iterate 3 (first | (refine Tab.tab_moveE _ rfl (ng_silent (by decide)) (.inl rfl) rfl rfl (fun _ => NgE.refl _ _ _ _) ?_; apply Exists.intro; refine And.intro ?_ ?_; focus (simp [Tab.Env.ev, Tab.Env.get]; rfl)) | (refine Tab.tab_moveE _ rfl (ng_silent (by decide)) (.inr rfl) rfl rfl (fun _ => NgE.refl _ _ _ _) ?_; apply Exists.intro; refine And.intro ?_ ?_; focus (simp [Tab.Env.ev, Tab.Env.get]; rfl)) | refine Tab.tab_skip rfl (ng_silent (by decide)) rfl ?_ | (refine Tab.tab_repE rfl (ng_silent (by decide)) rfl (fun _ _ h => by cases h) rfl (fun _ => NgE.refl _ _ _ _) ?_; apply Exists.intro; refine And.intro (fun l w' _ _ hw => ?_) ?_; focus (go_simp; rfl)) | (refine Tab.tab_repE rfl (ng_silent (by decide)) rfl (fun _ _ h => by cases h) rfl (fun _ => NgE.refl _ _ _ _) ?_; apply Exists.intro; refine And.intro (fun l w' hs hc hw => ?_) ?_; focus (go_simp; rfl)))
            (refine Tab.tab_repE rfl (ng_silent (by decide)) rfl (fun _ _ h => by cases h) rfl (fun _ => NgE.refl _ _ _ _) ?_; apply Exists.intro; refine And.intro (fun l w' hs hc hw => ?_) ?_; focus ((obtain ⟨x2, x3, hB, e1, _, e3, _⟩ := hc; have e := e3 ((hs.2 19).2 (by kernel_rfl)); subst e; have q := wcell6 hB; go_simp; rfl)))
            refine Tab.tab_tyv (fun v W => ∃ b, v = .slice (some ⟨b, 0, none⟩) 1 1 ∧ Blk W b 4 [.bool false] ∧ wr.heap.size ≤ b) rfl (fun v W W' hE ⟨b, hv, hb, hl⟩ => ⟨b, hv, hb.ext hE.ext (HMN.out b hl), hl⟩) rfl (fun listed a W hsz hs hc hw hx => ⟨.slice (some ⟨W.heap.size, 0, none⟩) 1 1, W.alloc (.cells #[.bool false] 4), ?_, ⟨_, rfl, Blk.new W _ _, hw.ext.size⟩, NgE.alloc _ _, NgC.alloc (by decide) hc _⟩) ?_
            focus (go_simp; done)
            refine Tab.tab_tyv (fun v W => W.ownsRow w.heap.size 4 1 v (k + 1) (irow (k + 1))) rfl (fun v W W' hE hv => hE.p2 v hv) rfl (fun listed a W hsz hs hc hw hx => ?_) ?_
            focus (
              obtain ⟨x2, x3, hB, c1, c2, c3, c4, c5, c6⟩ := hc
              have e36 := hx (.tmp 42) (by simp [Op.operands, Call.operands])
              have e37 := hx (.tmp 43) (by simp [Op.operands, Call.operands])
              simp only [Tab.Env.tyd, Tab.Env.knows, Tab.Env.get, Nat.reduceEqDiff, if_true, if_false, Tab.Ty.holds] at e36 e37
              obtain ⟨b, e37, hb37, hl37⟩ := e37
              have hown := c6 hs.1
              obtain ⟨v', W', hr, h1, h2, h3⟩ := append_pres (P := Tryz.prog) W w.heap.size 109 109 4 underB infoB rfl (by decide) iv k (irow k) [.bool false] hown b rfl (fun j u hj => by
                rw [show (⟨b, 0, none⟩ : Addr).add j = ⟨b, j, none⟩ by simp [Addr.add]; rintro rfl; rfl, hb37.cell]
                exact hj) (by simp [Value.oneCell']) (by omega) (by decide) (Nat.le_trans hzz hw.ext.size)
              have hsn : irow k ++ [.bool false] = irow (k + 1) := replicate_snoc _ _
              rw [hsn] at h1 h3
              have hE : NgE w.heap.size k M W W' := NgE.bool hown h2 HMI.out h3
              refine ⟨v', W', ?_, h1, hE, ?_⟩
              · simp [execOp, resolve, invoke, builtin, e36, e37, hr, Result.andThen]
              · have hBn : ∀ b, iv.ownBlock = some b → b ≠ w.heap.size := fun b e e2 => own_blk_ne hown hB (by decide) (e2 ▸ e)
                exact ⟨x2, x3, (h2.block w.heap.size hB.lt (fun e => hBn _ e.symm rfl)).trans hB, fun e => c1 (by rw [getDSetNe (by decide)] at e; exact e), fun e => hE.p1 _ (c2 (by rw [getDSetNe (by decide)] at e; exact e)), fun e => c3 (by rw [getDSetNe (by decide)] at e; exact e), fun e => h3 _ (c4 (by rw [getDSetNe (by decide)] at e; exact e)),
                  fun e => own_keep (c5 (by rw [getDSetNe (by decide)] at e; exact e)) fun b hb => h2.block b ((c5 (by rw [getDSetNe (by decide)] at e; exact e)).lt b hb).2 (fun e' => own_own_ne (c5 (by rw [getDSetNe (by decide)] at e; exact e)) hown (by decide) b hb e'.symm), fun e => (by rw [getD_set_eq (by rw [hsz]; decide)] at e; cases e)⟩)
            iterate 2 (first | (refine Tab.tab_moveE _ rfl (ng_silent (by decide)) (.inl rfl) rfl rfl (fun _ => NgE.refl _ _ _ _) ?_; apply Exists.intro; refine And.intro ?_ ?_; focus (simp [Tab.Env.ev, Tab.Env.get]; rfl)) | (refine Tab.tab_moveE _ rfl (ng_silent (by decide)) (.inr rfl) rfl rfl (fun _ => NgE.refl _ _ _ _) ?_; apply Exists.intro; refine And.intro ?_ ?_; focus (simp [Tab.Env.ev, Tab.Env.get]; rfl)) | refine Tab.tab_skip rfl (ng_silent (by decide)) rfl ?_ | (refine Tab.tab_repE rfl (ng_silent (by decide)) rfl (fun _ _ h => by cases h) rfl (fun _ => NgE.refl _ _ _ _) ?_; apply Exists.intro; refine And.intro (fun l w' _ _ hw => ?_) ?_; focus (go_simp; rfl)) | (refine Tab.tab_repE rfl (ng_silent (by decide)) rfl (fun _ _ h => by cases h) rfl (fun _ => NgE.refl _ _ _ _) ?_; apply Exists.intro; refine And.intro (fun l w' hs hc hw => ?_) ?_; focus (go_simp; rfl)))
            refine Tab.tab_actT rfl rfl (fun listed a W hsz hs hc hw hx => ?_) ?_
            focus (
              obtain ⟨x2, x3, hB, c1, c2, c3, c4, c5, c6⟩ := hc
              have e46 := hx (.tmp 46) (by simp [Op.operands])
              have e38 := hx (.tmp 38) (by simp [Op.operands])
              simp only [Tab.Env.tyd, Tab.Env.knows, Tab.Env.get, Nat.reduceEqDiff, if_true, if_false, Tab.Ty.holds] at e46 e38
              obtain ⟨A, m, c, ev⟩ := own_slice e38
              rw [ev] at e38
              have q := wcell6 hB
              have f := hB.frozen 2
              have hgW := hB.lt
              refine ⟨W.setCell ⟨w.heap.size, 2, none⟩ (.slice A m c), ?_, NgE.store hB HMG.out _, ?_⟩
              · clear c1 c2 c3 c4 c5 c6 hs hx hw hsz e38
                simp only [execOp, e46, ev]
                go_simp
                done
              · have hE := NgE.store (base := w.heap.size) (k := k) (o := 2) (M := M) hB HMG.out (.slice A m c)
                exact ⟨.slice A m c, x3, hB.set_ 2 _, fun e => (by rw [getD_set_eq (by rw [hsz]; decide)] at e; cases e), fun _ => hE.p1 _ e38, fun e => c3 (by rw [getDSetNe (by decide)] at e; exact e), fun e => hE.p2 _ (c4 (by rw [getDSetNe (by decide)] at e; exact e)),
                  fun e => ownsRow_setCell_other (c5 (by rw [getDSetNe (by decide)] at e; exact e)) (a := ⟨w.heap.size, 2, none⟩) (own_blk_ne (c5 (by rw [getDSetNe (by decide)] at e; exact e)) hB (by decide)) _, fun e => ownsRow_setCell_other (c6 (by rw [getDSetNe (by decide)] at e; exact e)) (a := ⟨w.heap.size, 2, none⟩) (own_blk_ne (c6 (by rw [getDSetNe (by decide)] at e; exact e)) hB (by decide)) _⟩)
            iterate 2 (first | (refine Tab.tab_moveE _ rfl (ng_silent (by decide)) (.inl rfl) rfl rfl (fun _ => NgE.refl _ _ _ _) ?_; apply Exists.intro; refine And.intro ?_ ?_; focus (simp [Tab.Env.ev, Tab.Env.get]; rfl)) | (refine Tab.tab_moveE _ rfl (ng_silent (by decide)) (.inr rfl) rfl rfl (fun _ => NgE.refl _ _ _ _) ?_; apply Exists.intro; refine And.intro ?_ ?_; focus (simp [Tab.Env.ev, Tab.Env.get]; rfl)) | refine Tab.tab_skip rfl (ng_silent (by decide)) rfl ?_ | (refine Tab.tab_repE rfl (ng_silent (by decide)) rfl (fun _ _ h => by cases h) rfl (fun _ => NgE.refl _ _ _ _) ?_; apply Exists.intro; refine And.intro (fun l w' _ _ hw => ?_) ?_; focus (go_simp; rfl)) | (refine Tab.tab_repE rfl (ng_silent (by decide)) rfl (fun _ _ h => by cases h) rfl (fun _ => NgE.refl _ _ _ _) ?_; apply Exists.intro; refine And.intro (fun l w' hs hc hw => ?_) ?_; focus (go_simp; rfl)))
            refine Tab.tab_actT rfl rfl (fun listed a W hsz hs hc hw hx => ?_) ?_
            focus (
              obtain ⟨x2, x3, hB, c1, c2, c3, c4, c5, c6⟩ := hc
              have e46 := hx (.tmp 48) (by simp [Op.operands])
              have e38 := hx (.tmp 44) (by simp [Op.operands])
              simp only [Tab.Env.tyd, Tab.Env.knows, Tab.Env.get, Nat.reduceEqDiff, if_true, if_false, Tab.Ty.holds] at e46 e38
              obtain ⟨A, m, c, ev⟩ := own_slice e38
              rw [ev] at e38
              have q := wcell6 hB
              have f := hB.frozen 3
              have hgW := hB.lt
              refine ⟨W.setCell ⟨w.heap.size, 3, none⟩ (.slice A m c), ?_, NgE.store hB HMG.out _, ?_⟩
              · clear c1 c2 c3 c4 c5 c6 hs hx hw hsz e38
                simp only [execOp, e46, ev]
                go_simp
                done
              · have hE := NgE.store (base := w.heap.size) (k := k) (o := 3) (M := M) hB HMG.out (.slice A m c)
                exact ⟨x2, .slice A m c, hB.set_ 3 _, fun e => c1 (by rw [getDSetNe (by decide)] at e; exact e), fun e => hE.p1 _ (c2 (by rw [getDSetNe (by decide)] at e; exact e)), fun e => (by rw [getD_set_eq (by rw [hsz]; decide)] at e; cases e), fun _ => hE.p2 _ e38,
                  fun e => ownsRow_setCell_other (c5 (by rw [getDSetNe (by decide)] at e; exact e)) (a := ⟨w.heap.size, 3, none⟩) (own_blk_ne (c5 (by rw [getDSetNe (by decide)] at e; exact e)) hB (by decide)) _, fun e => ownsRow_setCell_other (c6 (by rw [getDSetNe (by decide)] at e; exact e)) (a := ⟨w.heap.size, 3, none⟩) (own_blk_ne (c6 (by rw [getDSetNe (by decide)] at e; exact e)) hB (by decide)) _⟩)
            intro l_ a_ w_ hall_ hcl_ hE_ hsat_
            refine Tab.fin_of_sat rfl ?_ hsat_
            simp only [Tab.fin, Act.put, List.setIfInBounds_toArray, List.set_cons_succ, List.set_cons_zero]
            obtain ⟨x2, x3, hB2, _, c2, _, c4, _, _⟩ := hcl_
            have HM2 := Lib.hid (c2 (hall_ 16 (by decide)))
            have HI2 := Lib.hid (c4 (hall_ 19 (by decide)))
            have HB2 := Lib.hid hB2
            have HBE := Lib.hid (show Below w.heap.size w w_ from hbel.trans ⟨hE_.ext.os, hE_.ext.tape, hE_.ext.output, hE_.ext.size, fun b hb => hE_.ext.block b (Nat.lt_of_lt_of_le hb hzz) (fun h => by have := HMB.out b h; omega)⟩)
            clear hsat_ hall_ hE_ hB2 c2 c4
            intro v38 _ v37 _ v44 _ v43 _
            go_wp2_with fail
            go_roundw
            case rel => exact ⟨k + 1, x2, x3, hlt, by go_num, HB2.out, HM2.out, HI2.out, HBE.out⟩
            case measure => simp [intOf] <;> omega
          · obtain rfl : k = n := by omega
            have q := wcell6 hb
            go_wp2_with fail
            go_ret2
            have e1 : (newD (k : Int) column delay).srcs = List.replicate k (-62135596800, false) := by simp [newD]
            refine ⟨hbel, .inr ⟨HN.out, _, mv, iv, rfl, ⟨HB.out, ?_, ?_, Nat.le_refl _, ?_⟩⟩⟩
            · rw [e1, List.length_replicate, List.map_replicate]; exact HMO.out
            · rw [e1, List.length_replicate, List.map_replicate]; exact HIO.out
            · have hn1 := HN.out
              unfold newOk at hn1
              have hc := HC.out
              unfold I64 at hc
              refine ⟨fun s hs => ?_, ?_, ?_, hn1.2.1, hc.2, hn1.2.2.1, hn1.2.2.2, ?_⟩
              · rw [e1] at hs
                rw [List.eq_of_mem_replicate hs]
                unfold Mom; decide
              · rw [e1, List.length_replicate]; omega
              · rw [e1, List.length_replicate]; omega
              · show Mom (-62135596800); unfold Mom; decide
end Go.Proofs.YthejmnmkbldacaaGreatDoor
