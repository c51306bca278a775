/-
  What is proved: copyRow returns an equal row in new memory; ones makes differences of rows. Conditions: no list has 2^30 elements or more.
  What is proved: how a gate lies in memory; how its mark advances. Conditions: none.
  What is proved: ranged tells whether all numbers can be those of differences. Conditions: fewer than 2^30 differences.
  What is proved: reading and swapping in a row of differences; the comparison that a canonical list is sorted by. Conditions: none.
  What is proved: the steps of a walk by the table where a region holds two stores, one behind the other. Conditions: none.
-/
import Derived.Test.YthejmnmkbldacaaDoorPk13
import Derived.Test.YthejmnmkbldacaaDoorPk12
import Derived.Test.YthejmnmkbldacaaDoorPk09
import Derived.Test.YthejmnmkbldacaaDoorPk02
set_option linter.all false
namespace Go.Proofs.YthejmnmkbldacaaDoor
open Go.RowKit
attribute [local go_sem] Tab.Env.ev Tab.Env.get

set_option maxHeartbeats 2000000 in
theorem copyRow_any (F : Nat → Prop) (v : Value) (l : List VD) (w : World) (hr : RI w F v l) (hn : l.length < 1073741824) (hsm : ∀ x, x ∈ l → smV x) :
    Calls Tryd.prog 37 #[v] w fun e w' => ∃ v', e = .returned v' ∧ RI w' (fun b => w.heap.size ≤ b) v' l ∧ Below w.heap.size w w' := by
  obtain ⟨A, c, iA, iC, rfl, hc, hm, hs, hw, hri⟩ := hr.shape
  have HSI := Lib.hid hsm
  have HS := Lib.hid hs
  have HW := Lib.hid hw
  have HR := Lib.hid hri
  clear hsm hs hw hri hr
  unfold maxLen at hm
  obtain ⟨n, hln⟩ : ∃ n, l.length = n := ⟨_, rfl⟩
  rw [hln] at hn hc ⊢
  have HN := Lib.hid hln
  clear hln
  go_enter Tryd.func37, Tryd.ntmps37
  go_wp2_with fail
  go_loopw [3, 5, 8] (fun s _ i wr => ∃ (k : Nat) (es : List VE) (v : Value), k ≤ n ∧ v = s ∧ i = .int .i64 k ∧ OwnV wr w.heap.size (fun b => w.heap.size ≤ b) v es ∧ Hid (es.map VE.x = l.take k) ∧ Below w.heap.size w wr) (fun _ _ i _ => n - (intOf i).toNat)
  case atStart => exact ⟨0, [], _, Nat.zero_le _, rfl, rfl, OwnV.nil _ _ _, Lib.hid (by simp), Below.refl _ _⟩
  case round =>
    obtain ⟨k, es, v, hk, rfl, rfl, ho, HE, hbel⟩ := hrel
    have HO := Lib.hid ho
    by_cases hlt : k < n
    · obtain ⟨b, off, rfl, hF, hb, hcells⟩ := HS.out (by rw [HN.out]; omega)
      have q := (hcells k (by rw [HN.out]; exact hlt)).keep (hbel.block b hb)
      obtain ⟨q1, q2, q3, q4, q5⟩ := q
      have hbw : b < wr.heap.size := by have := hbel.size; omega
      have HY := Lib.hid (HR.out k (by rw [HN.out]; exact hlt))
      have HYW := Lib.hid (HW.out k (by rw [HN.out]; exact hlt))
      have hym : at_ l k ∈ l := at_mem (by rw [HN.out]; exact hlt)
      have HYS := Lib.hid (HSI.out _ hym)
      have HT := Lib.hid (take_at (l := l) (k := k) (by rw [HN.out]; exact hlt))
      clear hcells hym
      generalize at_ l k = y at *
      have hlen : es.length = k := by
        have := congrArg List.length HE.out
        rw [List.length_map, List.length_take, HN.out] at this
        omega
      have HLEN := Lib.hid hlen
      have HC := Lib.hid (fun (W : World) (hW : Below w.heap.size w W) => copyAt y F (.agg #[.int .i64 y.k, .int .i64 y.n, .int .i64 y.sc, .string y.s, .slice (iA k) y.items.length (iC k)]) W ⟨_, _, rfl, HYW.out, HY.out.later hW⟩ HYS.out)
      clear hlen
      go_wp2_with fail
      generalize hW : wr.alloc (.cells #[.int .i64 y.k, .int .i64 y.n, .int .i64 y.sc, .string y.s, .slice (iA k) y.items.length (iC k)] 41) = W
      have hbW : Below wr.heap.size wr W := hW ▸ below_new wr _
      have HBW := Lib.hid hbW
      clear hW
      refine (HC.out W (hbel.trans (hbW.mono hbel.size))).mono ?_
      rintro e w1 ⟨vb, rfl, hvb, hb1⟩
      obtain ⟨A1, c1, rfl, -, hr1⟩ := hvb
      have O1 := Lib.hid ((HO.out.later hbW).later hb1)
      have hs1 : W.heap.size ≤ w1.heap.size := hb1.size
      have hs0 : wr.heap.size ≤ W.heap.size := hbW.size
      have hs2 : w.heap.size ≤ wr.heap.size := hbel.size
      have HB1 := Lib.hid hb1
      have HR1 := Lib.hid hr1
      clear hb1 hr1 HC hbW
      go_wp2_with (at_builtin; refine append_own2 w1 rfl (.tmp 12) (.tmp 15) 37 rfl w.heap.size 41 underV infoV rfl (by decide) _ _ _ (VE.cells ⟨y, A1, c1⟩) rfl O1.out.own rfl rfl (by simp [VE.cells, Value.oneCell']) (by rw [HLEN.out]; omega) (by decide) (by omega) ?_)
      intro v' w2 hown' hb2 hkept
      have hbel2 := (hbel.trans (HBW.out.mono hbel.size)).trans ((HB1.out.mono (Nat.le_trans hbel.size hs0)).trans hb2)
      have hnb : ∀ b, W.heap.size ≤ b → v.ownBlock ≠ some b := fun b hb he => by
        have := (HO.out.own.lt b he).2
        omega
      have O2 := Lib.hid (O1.out.add (e := VE.mk y A1 c1) hown' hkept HYW.out (HR1.out.mono fun b hb _ => ⟨by show w.heap.size ≤ b; omega, hnb b hb⟩))
      have HE2 := Lib.hid (show (es ++ [VE.mk y A1 c1]).map VE.x = l.take (k + 1) by rw [HT.out, List.map_append, HE.out]; rfl)
      clear hown' hb2 hkept hnb ho hbel
      go_wp2_with fail
      go_roundw
      case rel => exact ⟨k + 1, _, _, hlt, rfl, by go_num, O2.out, HE2, hbel2⟩
      case measure => simp [intOf] <;> omega
    · obtain rfl : k = n := by omega
      have HI := Lib.hid (HO.out.ri)
      have HE2 := Lib.hid (show es.map VE.x = l by rw [HE.out, ← HN.out, List.take_length])
      obtain ⟨hl, A1, c1, rfl, g1, g2, g3⟩ := SL.of_own HO.out.own
      have HLEN := Lib.hid (show es.length = k by have := congrArg List.length HE2.out; rw [List.length_map, HN.out] at this; exact this)
      rw [HLEN.out] at g1 g3 ⊢
      have HCL := Lib.hid (fun W => clipV_any A1 k c1 (fun h0 => by
        rcases Nat.eq_zero_or_pos k with h | h
        · exact h
        · obtain ⟨b, off, e, _⟩ := g3 h
          rw [h0] at e; cases e) g1 g2 W)
      clear g3 hl ho
      go_wp2_with fail
      refine (HCL.out _).mono ?_
      rintro e w1 ⟨rfl, rfl⟩
      go_wp2_with fail
      have hri := HI.out
      rw [HE2.out, HLEN.out, ← HN.out] at hri
      have hri2 := hri.clip.mono (F' := fun b => w.heap.size ≤ b) (fun b hb _ => by rcases hb with hb | hb <;> exact hb)
      rw [HN.out] at hri2
      go_ret
      exact ⟨_, rfl, hri2, hbel⟩

/-- a row as it lies in memory -/
structure RE where
  rv : Value
  row : List VD
instance : Inhabited RE := ⟨⟨undef, []⟩⟩
/-- a slice that reads as a list of rows; its own memory in F, its rows' in F' -/
structure RR (w : World) (F F' : Nat → Prop) (v : Value) (l : List RE) : Prop where
  sl : SL w F 1 v l.length (l.map RE.rv)
  good : ∀ e, e ∈ l → RI w F' e.rv e.row
section
variable {w w' : World} {F F' F2 F2' : Nat → Prop} {v : Value} {l : List RE}
theorem RR.ext {M : Nat → Prop} (h : RR w F F' v l) (hb : Tab.Ext M w w') (hM : ∀ b, F b → ¬ M b) (hM' : ∀ b, F' b → ¬ M b) : RR w' F F' v l := ⟨h.sl.ext hb hM, fun d hd => (h.good d hd).ext hb hM'⟩
theorem RR.later (h : RR w F F' v l) (hb : Below w.heap.size w w') : RR w' F F' v l := ⟨h.sl.later hb, fun d hd => (h.good d hd).later hb⟩
theorem RR.mono (h : RR w F F' v l) (h1 : ∀ b, F b → b < w.heap.size → F2 b) (h2 : ∀ b, F' b → b < w.heap.size → F2' b) : RR w F2 F2' v l := ⟨h.sl.mono h1, fun d hd => (h.good d hd).mono h2⟩
theorem RR.nil (w : World) (F F' : Nat → Prop) : RR w F F' (.slice none 0 0) [] := ⟨SL.nil w F 1, fun _ h => by cases h⟩
/-- what lies at i -/
theorem RR.at_ (h : RR w F F' v l) {i : Nat} (hi : i < l.length) : ∃ (b off c : Nat) (A : Option Addr) (m c' : Nat) (row : List VD), v = .slice (some ⟨b, off, none⟩) l.length c ∧ l.length ≤ c ∧ c ≤ maxLen ∧ b < w.heap.size ∧ F b ∧ dat l i = ⟨.slice A m c', row⟩ ∧ RI w F' (.slice A m c') row ∧
    w.cell? ⟨b, off + i, none⟩ = some (.slice A m c') := by
  obtain ⟨b, off, c, hv, h1, h2, hF, hlt, hc⟩ := h.sl.at_ hi
  have hg := h.good (dat l i) (dat_mem hi)
  obtain ⟨u0, e0, c0⟩ := hc 0 (by omega)
  rw [Nat.add_zero, Nat.mul_one, List.getElem?_map, dat_some hi] at e0
  simp only [Option.map_some, Option.some.injEq] at e0
  subst e0
  generalize dat l i = d at hg c0
  obtain ⟨rv, row⟩ := d
  obtain ⟨A, c', _, _, e, _⟩ := hg.shape
  simp only at e c0
  subst e
  exact ⟨b, off, c, A, _, c', row, hv, h1, h2, hlt, hF, rfl, hg, by simpa using c0⟩
end

/-- a row of differences of the call's own, whose rows lie elsewhere in F -/
structure OwnDs (w : World) (base : Nat) (F : Nat → Prop) (v : Value) (es : List DE) : Prop where
  own : w.ownsRow base 39 2 v es.length (dcells es)
  good : ∀ e, e ∈ es → e.good w (fun b => F b ∧ v.ownBlock ≠ some b)
theorem OwnDs.nil (w : World) (base : Nat) (F : Nat → Prop) : OwnDs w base F (.slice none 0 0) [] := ⟨World.ownsRow_nil _ _ _ _, fun _ h => by cases h⟩
theorem OwnDs.rd {w : World} {base : Nat} {F : Nat → Prop} {v : Value} {es : List DE} (h : OwnDs w base F v es) : RD w (fun b => base ≤ b) F v es := ⟨SL.of_own h.own, fun d hd => ⟨(h.good d hd).row.mono fun b hb _ => hb.1, (h.good d hd).n⟩⟩
theorem OwnDs.add {wr w' : World} {base : Nat} {F : Nat → Prop} {v v' : Value} {es : List DE} {e : DE} (h : OwnDs wr base F v es) (ho : w'.ownsRow base 39 2 v' (es.length + 1) (dcells es ++ e.cells)) (hk : Kept wr w' v v')
    (hr : e.good wr (fun b => F b ∧ v.ownBlock ≠ some b)) : OwnDs w' base F v' (es ++ [e]) :=
  ⟨by rw [dcells_append, List.length_append]; simpa [dcells] using ho, fun d hd => by
    rcases List.mem_append.1 hd with hd | hd
    · exact ⟨hk.ri (h.good d hd).row, (h.good d hd).n⟩
    · rw [List.mem_singleton.1 hd]; exact ⟨hk.ri hr.row, hr.n⟩⟩
theorem OwnDs.later {w w' : World} {base : Nat} {F : Nat → Prop} {v : Value} {es : List DE} (h : OwnDs w base F v es) (hb : Below w.heap.size w w') : OwnDs w' base F v es := by
  refine ⟨⟨h.own.1, h.own.2.elim .inl fun ⟨g, cap, cur, h1, h2, h3, h4⟩ => .inr ⟨g, cap, cur, h1, h2, ?_, h4⟩⟩, fun e he => ⟨(h.good e he).row.later hb, (h.good e he).n⟩⟩
  rw [hb.block g (lt_of_block h3)]
  exact h3
def onesOf (l : List RE) : List DE := l.map fun e => ⟨e.rv, e.row, 1⟩

set_option maxHeartbeats 2000000 in
theorem ones_any (F F' : Nat → Prop) (v : Value) (l : List RE) (w : World) (hr : RR w F F' v l) (hn : l.length < 1073741824) :
    Calls Tryd.prog 41 #[v] w fun e w' => ∃ v', e = .returned v' ∧ OwnDs w' w.heap.size (fun b => F' b ∧ b < w.heap.size) v' (onesOf l) ∧ Below w.heap.size w w' := by
  obtain ⟨hl, A, c, rfl, hc, hm, -⟩ := hr.sl
  unfold maxLen at hm
  have HR := Lib.hid hr
  clear hr hl
  obtain ⟨n, hln⟩ : ∃ n, l.length = n := ⟨_, rfl⟩
  rw [hln] at hn hc ⊢
  have HN := Lib.hid hln
  clear hln
  go_enter Tryd.func41, Tryd.ntmps41
  go_wp2_with fail
  go_loopw [3, 5, 8] (fun s _ i wr => ∃ (k : Nat) (v : Value), k ≤ n ∧ v = s ∧ i = .int .i64 k ∧ OwnDs wr w.heap.size (fun b => F' b ∧ b < w.heap.size) v (onesOf (l.take k)) ∧ Below w.heap.size w wr) (fun _ _ i _ => n - (intOf i).toNat)
  case atStart => exact ⟨0, _, Nat.zero_le _, rfl, rfl, OwnDs.nil _ _ _, Below.refl _ _⟩
  case round =>
    obtain ⟨k, v, hk, rfl, rfl, ho, hbel⟩ := hrel
    have HO := Lib.hid ho
    by_cases hlt : k < n
    · have hrr := HR.out.later hbel
      obtain ⟨b, off, c', A1, m1, c1, row, hv, -, -, hb, -, he, hri, q⟩ := hrr.at_ (i := k) (by rw [HN.out]; exact hlt)
      injection hv with e1 _ e2
      subst e1
      subst e2
      have HT := Lib.hid (show l.take (k + 1) = l.take k ++ [⟨.slice A1 m1 c1, row⟩] by
        rw [List.take_succ_eq_append_getElem (by rw [HN.out]; exact hlt), ← dat_eq, he])
      have HLEN := Lib.hid (show (onesOf (l.take k)).length = k by unfold onesOf; rw [List.length_map, List.length_take, HN.out]; omega)
      have HRI := Lib.hid hri
      have HO0 := Lib.hid (show RI w F' (.slice A1 m1 c1) row by have := HR.out.good _ (dat_mem (l := l) (i := k) (by rw [HN.out]; exact hlt)); rw [he] at this; exact this)
      clear hrr he hri ho
      have hs2 : w.heap.size ≤ wr.heap.size := hbel.size
      go_wp2_with (at_builtin; refine append_own2 wr rfl (.tmp 12) (.tmp 15) 35 rfl w.heap.size 39 underD infoD rfl (by decide) _ _ _ (DE.cells ⟨.slice A1 m1 c1, row, 1⟩) rfl HO.out.own rfl rfl (by simp [DE.cells, Value.oneCell']) (by rw [HLEN.out]; omega) (by decide) (by omega) ?_)
      intro v' w2 hown' hb2 hkept
      have hgood : (DE.mk (.slice A1 m1 c1) row 1).good wr (fun b => (F' b ∧ b < w.heap.size) ∧ v.ownBlock ≠ some b) := by
        refine ⟨((HO0.out.mono (F' := fun b => F' b ∧ b < w.heap.size) (fun b hb h => ⟨hb, h⟩)).later hbel).mono (fun b hb _ => ⟨hb, fun he => ?_⟩), show I64 1 by unfold I64; decide⟩
        have := (HO.out.own.lt b he).1
        have := hb.2
        omega
      have O2 := Lib.hid (HO.out.add (e := DE.mk (.slice A1 m1 c1) row 1) hown' hkept hgood)
      have hbel2 := hbel.trans hb2
      have HE2 := Lib.hid (show onesOf (l.take k) ++ [DE.mk (.slice A1 m1 c1) row 1] = onesOf (l.take (k + 1)) by rw [HT.out]; unfold onesOf; rw [List.map_append]; rfl)
      clear hown' hb2 hkept hgood hbel
      go_wp2_with fail
      go_roundw
      case rel => exact ⟨k + 1, _, hlt, rfl, by go_num, HE2.out ▸ O2.out, hbel2⟩
      case measure => simp [intOf] <;> omega
    · obtain rfl : k = n := by omega
      go_wp2_with fail
      go_ret
      refine ⟨_, rfl, ?_, hbel⟩
      have := HO.out
      rw [← HN.out, List.take_length] at this
      exact this
end Go.Proofs.YthejmnmkbldacaaDoor

namespace Go.Proofs.YthejmnmkbldacaaDoor
open Go.RowKit
attribute [local go_sem] Tab.Env.ev Tab.Env.get

/-- a source: its mark, and whether it is idle -/
abbrev Src := Int × Bool
def scells (l : List Src) : List Value := l.flatMap fun s => [.int .i64 s.1, .bool s.2]
theorem scells_length (l : List Src) : (scells l).length = l.length * 2 := by
  induction l with
  | nil => rfl
  | cons d l ih =>
    have : scells (d :: l) = [.int .i64 d.1, .bool d.2] ++ scells l := rfl
    rw [this]
    simp [ih]
    omega
theorem scells_append (l r : List Src) : scells (l ++ r) = scells l ++ scells r := List.flatMap_append
theorem scells_get (l : List Src) (i : Nat) : (scells l)[i * 2]? = (l[i]?).map (fun s => .int .i64 s.1) ∧ (scells l)[i * 2 + 1]? = (l[i]?).map fun s => .bool s.2 := by
  induction l generalizing i with
  | nil => simp [scells]
  | cons d l ih =>
    have e : scells (d :: l) = .int .i64 d.1 :: .bool d.2 :: scells l := rfl
    cases i with
    | zero => rw [e]; simp
    | succ i =>
      rw [e, show (i + 1) * 2 = (i * 2) + 1 + 1 by omega]
      simpa using ih i
theorem scells_set (l : List Src) (i : Nat) (s : Src) : scells (l.set i s) = ((scells l).set (i * 2) (.int .i64 s.1)).set (i * 2 + 1) (.bool s.2) := by
  induction l generalizing i with
  | nil => simp [scells]
  | cons d l ih =>
    have e : ∀ d l, scells (d :: l) = .int .i64 d.1 :: .bool d.2 :: scells l := fun _ _ => rfl
    cases i with
    | zero => rw [List.set_cons_zero, e, e]; simp
    | succ i =>
      rw [List.set_cons_succ, e, e, ih i, show (i + 1) * 2 = (i * 2) + 1 + 1 by omega]
      simp

/-- a gate, as data -/
structure GateD where
  srcs : List Src
  column : Int
  delay : Int
  mark : Int
/-- the least mark of the sources that are not idle; whether there is one -/
def leastOf : List Src → Int × Bool → Int × Bool
  | [], a => a
  | s :: l, a => leastOf l (if s.2 then a else (min a.1 s.1, true))
def advD (D : GateD) : GateD :=
  let r := leastOf D.srcs (253402300799, false)
  if r.2 then { D with mark := max D.mark r.1 } else D

/-- a moment -/
def Mom (n : Int) : Prop := -62135596800 ≤ n ∧ n ≤ 253402300799
structure GateD.ok (D : GateD) : Prop where
  srcs : ∀ s, s ∈ D.srcs → Mom s.1
  some_ : 1 ≤ D.srcs.length
  few : D.srcs.length ≤ 20
  col : 0 ≤ D.column
  coli : D.column ≤ 9223372036854775807
  del : 0 ≤ D.delay
  delb : D.delay ≤ 4294967296
  mkb : Mom D.mark
theorem leastOf_mom : ∀ (l : List Src) (a : Int × Bool), (∀ s, s ∈ l → Mom s.1) → Mom a.1 → Mom (leastOf l a).1
  | [], a, _, h => h
  | s :: l, a, hs, h => by
    rw [leastOf]
    refine leastOf_mom l _ (fun t ht => hs t (List.mem_cons_of_mem _ ht)) ?_
    have := hs s (by simp)
    split
    · exact h
    · unfold Mom at *
      simp only
      omega
theorem advD_ok {D : GateD} (h : D.ok) : (advD D).ok := by
  have hm := leastOf_mom D.srcs (253402300799, false) h.srcs (by unfold Mom; decide)
  unfold advD
  simp only
  split
  · exact { h with mkb := by have := h.mkb; unfold Mom at *; simp only; omega }
  · exact h
theorem advD_srcs (D : GateD) : (advD D).srcs = D.srcs := by unfold advD; simp only; split <;> rfl
theorem advD_column (D : GateD) : (advD D).column = D.column := by unfold advD; simp only; split <;> rfl
theorem advD_delay (D : GateD) : (advD D).delay = D.delay := by unfold advD; simp only; split <;> rfl
theorem advD_mark (D : GateD) : D.mark ≤ (advD D).mark := by
  unfold advD
  simp only
  split
  · show D.mark ≤ max D.mark _
    omega
  · exact Int.le_refl _

/-- a gate in memory: block g the gate, block s its sources -/
structure GateM (w : World) (base g s cap ns : Nat) (D : GateD) (vw : Value) : Prop where
  blk : Blk w g 78 [.slice (some ⟨s, 0, none⟩) ns cap, .int .i64 D.column, .int .i64 D.delay, .int .i64 D.mark, vw]
  src : w.ownsRow base 80 2 (.slice (some ⟨s, 0, none⟩) ns cap) ns (scells D.srcs)
  len : D.srcs.length = ns
  ne : g ≠ s
  bg : base ≤ g
  ok : D.ok
theorem GateM.bs {w : World} {base g s cap ns : Nat} {D : GateD} {vw : Value} (h : GateM w base g s cap ns D vw) : base ≤ s ∧ s < w.heap.size := h.src.lt s rfl
theorem GateM.ext {M : Nat → Prop} {w w' : World} {base g s cap ns : Nat} {D : GateD} {vw : Value} (h : GateM w base g s cap ns D vw) (he : Tab.Ext M w w') (hg : ¬ M g) (hs : ¬ M s) : GateM w' base g s cap ns D vw := by
  refine ⟨h.blk.ext he hg, ⟨h.src.1, h.src.2.elim .inl fun ⟨g', cap', cur, h1, h2, h3, h4⟩ => .inr ⟨g', cap', cur, h1, h2, ?_, h4⟩⟩, h.len, h.ne, h.bg, h.ok⟩
  injection h1 with e1
  injection e1 with e1
  injection e1 with e1
  subst e1
  rw [he.block _ (lt_of_block h3) hs]
  exact h3
theorem own_cellsS {w : World} {base s n cap : Nat} {l : List Src} (h : w.ownsRow base 80 2 (.slice (some ⟨s, 0, none⟩) n cap) n (scells l)) (hl : l.length = n) {i : Nat} (hi : i < n) :
    ∃ m b, l[i]? = some (m, b) ∧ w.cell? ⟨s, i * 2, none⟩ = some (.int .i64 m) ∧ w.cell? ⟨s, i * 2 + 1, none⟩ = some (.bool b) := by
  have hd := scells_get l i
  have hg : l[i]? = some l[i] := List.getElem?_eq_getElem (by omega)
  rw [hg] at hd
  exact ⟨(l[i]).1, (l[i]).2, hg, (h.cellAt (i * 2) (by omega)).trans hd.1, (h.cellAt (i * 2 + 1) (by omega)).trans hd.2⟩
theorem leastOf_take {l : List Src} {a : Int × Bool} {k : Nat} {s : Src} (h : l[k]? = some s) : leastOf (l.take (k + 1)) a = (if s.2 then leastOf (l.take k) a else (min (leastOf (l.take k) a).1 s.1, true)) := by
  induction l generalizing a k with
  | nil => simp at h
  | cons t l ih =>
    cases k with
    | zero =>
      simp at h
      subst h
      simp only [List.take_succ_cons, List.take_zero, leastOf]
    | succ k =>
      simp only [List.take_succ_cons, leastOf]
      exact ih (by simpa using h)

set_option maxHeartbeats 1000000 in
theorem advance_any (w : World) (base g s cap ns : Nat) (D : GateD) (vw : Value) (h : GateM w base g s cap ns D vw) (hvw : vw.oneCell' = true) :
    Calls Tryd.prog 36 #[.pointer (some ⟨g, 0, none⟩)] w fun e w' => e = .returned (.tuple #[]) ∧ GateM w' base g s cap ns (advD D) vw ∧ Tab.Ext (fun b => b = g) w w' := by
  have HG := Lib.hid h
  have hns := h.ok.few
  rw [h.len] at hns
  have hgl := h.blk.lt
  have hsl := h.bs
  have q := wcell5 h.blk
  have f := h.blk.frozen 3
  have hcap : ns ≤ cap ∧ cap ≤ 9223372036854775807 := by
    have hc := SL.of_own h.src
    obtain ⟨_, A, c, e, h1, h2, _⟩ := hc
    injection e with _ _ e3
    subst e3
    exact ⟨h1, h2⟩
  have hmk := h.ok.mkb
  unfold Mom at hmk
  clear h
  go_enter Tryd.func36, Tryd.ntmps36
  go_wp2_with fail
  go_loopw [2, 3, 5, 11] (fun a b _ i wr => ∃ (k : Nat) (m : Int) (bb : Bool), k ≤ ns ∧ i = .int .i64 k ∧ a = .int .i64 m ∧ b = .bool bb ∧ Hid (leastOf (D.srcs.take k) (253402300799, false) = (m, bb)) ∧ Below w.heap.size w wr) (fun _ _ _ i _ => ns - (intOf i).toNat)
  case atStart => exact ⟨0, 253402300799, false, Nat.zero_le _, rfl, rfl, rfl, Lib.hid (by simp [leastOf]), Below.refl _ _⟩
  case round =>
    obtain ⟨k, m, bb, hk, rfl, rfl, rfl, HL, hbel⟩ := hrel
    have q' := wcell5 (HG.out.blk.below hbel hgl)
    have f' := (HG.out.blk.below hbel hgl).frozen 3
    by_cases hlt : k < ns
    · obtain ⟨m1, b1, hg1, c1, c2⟩ := own_cellsS HG.out.src HG.out.len hlt
      have c1' : wr.cell? ⟨s, k * 2, none⟩ = some (.int .i64 m1) := (hbel.cell (p := ⟨s, k * 2, none⟩) hsl.2).trans c1
      have c2' : wr.cell? ⟨s, k * 2 + 1, none⟩ = some (.bool b1) := (hbel.cell (p := ⟨s, k * 2 + 1, none⟩) hsl.2).trans c2
      have HN := Lib.hid (leastOf_take (a := (253402300799, false)) hg1)
      have hb2 := hbel.trans ((below_new wr (.cells #[.int .i64 m1, .bool b1] 80)).mono hbel.size)
      have hslw : s < wr.heap.size := by have := hbel.size; omega
      clear c1 c2 q hg1
      cases b1 with
      | true =>
        have HN2 := Lib.hid (show leastOf (D.srcs.take (k + 1)) (253402300799, false) = (m, bb) by rw [HN.out]; simp only [if_true]; exact HL.out)
        go_wp2_with fail
        go_roundw
        case rel => exact ⟨k + 1, m, bb, hlt, by go_num, rfl, rfl, HN2, hb2⟩
        case measure => simp [intOf] <;> omega
      | false =>
        have HN2 := Lib.hid (show leastOf (D.srcs.take (k + 1)) (253402300799, false) = (min m m1, true) by rw [HN.out, HL.out]; simp)
        have HN3 := Lib.hid (show leastOf (D.srcs.take (k + 1)) (253402300799, false) = (if m1 < m then m1 else m, true) by
          rw [HN2.out]
          congr 1
          split <;> omega)
        go_wp2_with fail
        go_roundw
        case rel => exact ⟨k + 1, _, true, hlt, by go_num, rfl, rfl, HN3, hb2⟩
        case measure => simp [intOf] <;> omega
    · obtain rfl : k = ns := by omega
      have HL2 := Lib.hid (show leastOf D.srcs (253402300799, false) = (m, bb) by have := HL.out; rw [← HG.out.len, List.take_length] at this; exact this)
      have HGW := Lib.hid (HG.out.ext (M := fun _ => False) (Tab.Ext.of_below hbel) id id)
      have set_ : ∀ x : Int, Mom x → GateM (wr.setCell ⟨g, 3, none⟩ (.int .i64 x)) base g s cap k { D with mark := x } vw := fun x hx =>
        ⟨HGW.out.blk.set_ 3 _, ownsRow_setCell_other HGW.out.src (a := ⟨g, 3, none⟩) (fun e => HGW.out.ne (by
          simp only [Value.ownBlock] at e
          injection e with e
          exact e.symm)) _, HGW.out.len, HGW.out.ne, HGW.out.bg, { HGW.out.ok with mkb := hx }⟩
      have HSET := Lib.hid set_
      have hx : ∀ x : Int, Tab.Ext (fun b => b = g) w (wr.setCell ⟨g, 3, none⟩ (.int .i64 x)) := fun x => (Tab.Ext.of_below (M := fun b => b = g) hbel).setCell (p := ⟨g, 3, none⟩) (.inl rfl) (.int .i64 x)
      have HX := Lib.hid hx
      have hmm := leastOf_mom D.srcs (253402300799, false) HG.out.ok.srcs (by unfold Mom; decide)
      rw [HL2.out] at hmm
      have HMM := Lib.hid hmm
      clear set_ hx hmm HL
      cases bb with
      | true =>
        by_cases hc : D.mark < m
        · have HE := Lib.hid (show advD D = { D with mark := m } by
            unfold advD
            rw [HL2.out]
            simp only [if_true]
            congr 1
            omega)
          go_wp2_with fail
          exact bodyPost_end (results_none rfl _ _ _) rfl ⟨rfl, by rw [HE.out]; exact HSET.out m HMM.out, HX.out m⟩
        · have HE := Lib.hid (show advD D = { D with mark := D.mark } by
            unfold advD
            rw [HL2.out]
            simp only [if_true]
            congr 1
            omega)
          go_wp2_with fail
          exact bodyPost_end (results_none rfl _ _ _) rfl ⟨rfl, by rw [HE.out]; exact HSET.out D.mark HG.out.ok.mkb, HX.out D.mark⟩
      | false =>
        have HE := Lib.hid (show advD D = D by
          unfold advD
          rw [HL2.out]
          simp)
        go_wp2_with fail
        exact bodyPost_end (results_none rfl _ _ _) rfl ⟨rfl, by rw [HE.out]; exact HGW.out, Tab.Ext.of_below hbel⟩
end Go.Proofs.YthejmnmkbldacaaDoor

namespace Go.Proofs.YthejmnmkbldacaaDoor
open Go.RowKit
attribute [local go_sem] Tab.Env.ev Tab.Env.get

set_option maxHeartbeats 400000 in
theorem withinS_any (n low high : Int) (w : World) : Calls Tryd.prog 32 #[.int .i64 n, .int .i64 low, .int .i64 high] w fun e w' => e = .returned (.bool (decide (low ≤ n ∧ n ≤ high))) ∧ w = w' := by
  by_cases h : low ≤ n
  · by_cases h2 : n ≤ high
    · rw [decide_eq_true (And.intro h h2)]
      go_enter Tryd.func32, Tryd.ntmps32
      go_wp2
      go_ret
      exact ⟨rfl, rfl⟩
    · rw [decide_eq_false (fun h' => h2 h'.2)]
      have h3 : high < n := by omega
      clear h2
      go_enter Tryd.func32, Tryd.ntmps32
      go_wp2
      go_ret
      exact ⟨ret_bool (decide_eq_false (by omega)), rfl⟩
  · rw [decide_eq_false (fun h' => h h'.1)]
    have h3 : n < low := by omega
    clear h
    go_enter Tryd.func32, Tryd.ntmps32
    go_wp2
    go_ret
    exact ⟨rfl, rfl⟩
/-- a number that a difference can have -/
def timesB (n : Int) : Bool := decide (-1099511627776 ≤ n ∧ n ≤ 1099511627776)
set_option maxHeartbeats 400000 in
theorem timesOf_any (n : Int) (w : World) : Calls Tryd.prog 148 #[.int .i64 n] w fun e w' => e = .returned (.bool (timesB n)) ∧ w = w' := by
  go_enter Tryd.func148, Tryd.ntmps148
  go_wp2_with fail
  refine (withinS_any _ _ _ _).mono ?_
  rintro e w1 ⟨rfl, rfl⟩
  have hb : decide ((-1099511627776 : Int) ≤ n ∧ n ≤ 1099511627776) = timesB n := rfl
  rw [hb]
  clear hb
  go_wp2_with fail
  go_ret
  exact ⟨rfl, rfl⟩
set_option maxHeartbeats 400000 in
theorem ranged1_any (F : Nat → Prop) (d : DE) (w : World) (h : d.good w F) :
    Calls Tryd.prog 147 #[d.val] w fun e w' => e = .returned (.bool (!timesB d.n)) ∧ Below w.heap.size w w' := by
  unfold DE.val
  obtain ⟨A1, c1, _, _, e1, _⟩ := h.row.shape
  rw [e1]
  clear e1 h
  go_enter Tryd.func147, Tryd.ntmps147
  go_wp2_with fail
  refine (timesOf_any _ _).mono ?_
  rintro e w1 ⟨rfl, rfl⟩
  go_wp2_with fail
  go_ret
  exact ⟨rfl, below_new w _⟩

/-- a test of all differences by ContainsFunc -/
theorem allD_any (f : FuncId) (hcf : ∀ (args : Array Value) (w : World), (callFunc f args).run Tryd.prog w = .ok (.enter f args) w) (q : DE → Bool) (F F' : Nat → Prop) (v : Value) (l : List DE) (w : World) (h : RD w F F' v l) (hn : l.length < 1073741824)
    (hf : ∀ (d : DE) (w1 : World), d ∈ l → d.good w1 F' → Below w.heap.size w w1 → Calls Tryd.prog f #[d.val] w1 fun e w' => e = .returned (.bool (!q d)) ∧ Below w1.heap.size w1 w') :
    Calls Tryd.prog 112 #[v, .func (.func f) #[] #[]] w fun e w' => e = .returned (.bool (!l.all q)) ∧ Below w.heap.size w w' := by
  refine (containsD_any f hcf F F' v l hn (fun i => !q (dat l i)) (fun _ w1 => Below w.heap.size w w1) (fun _ w1 => Below w.heap.size w w1) w (Below.refl _ _) (fun _ w1 hb => h.later hb) (fun i w1 hi hb => ?_)).mono ?_
  · refine (hf (dat l i) w1 (dat_mem hi) ((h.later hb).good _ (dat_mem hi)) hb).mono ?_
    rintro e w2 ⟨rfl, hb2⟩
    exact ⟨rfl, fun _ => hb.trans (hb2.mono hb.size), fun _ => hb.trans (hb2.mono hb.size)⟩
  · rintro e w1 (⟨rfl, o1, o2⟩ | ⟨i, hi, rfl, o1, o2, o3⟩)
    · refine ⟨ret_bool ?_, o2⟩
      have : l.all q = true := List.all_eq_true.2 fun d hd => by
        obtain ⟨j, hj, rfl⟩ := List.mem_iff_getElem.1 hd
        have := o1 j hj
        simp only [dat_eq hj] at this
        simpa using this
      rw [this]; rfl
    · refine ⟨ret_bool ?_, o3⟩
      have : l.all q = false := by
        rw [List.all_eq_false]
        exact ⟨dat l i, dat_mem hi, by simpa using o1⟩
      rw [this]; rfl
def rangedB (l : List DE) : Bool := l.all fun d => timesB d.n
set_option maxHeartbeats 400000 in
theorem ranged_any (F F' : Nat → Prop) (v : Value) (l : List DE) (w : World) (h : RD w F F' v l) (hn : l.length < 1073741824) :
    Calls Tryd.prog 114 #[v] w fun e w' => e = .returned (.bool (rangedB l)) ∧ Below w.heap.size w w' := by
  have H := Lib.hid (allD_any 147 (fun _ _ => by simp [go_sem]) (fun d => timesB d.n) F F' v l w h hn (fun d w1 _ hg _ => ranged1_any F' d w1 hg))
  clear h
  go_enter Tryd.func114, Tryd.ntmps114
  go_wp2_with fail
  refine H.out.mono ?_
  rintro e w1 ⟨rfl, hb⟩
  change Below w.heap.size w w1 at hb
  have he : l.all (fun d => timesB d.n) = rangedB l := rfl
  rw [he]
  clear he H
  go_wp2_with fail
  go_ret
  exact ⟨by simp, hb⟩
end Go.Proofs.YthejmnmkbldacaaDoor

namespace Go.Proofs.YthejmnmkbldacaaDoor
open Go.RowKit
attribute [local go_sem] Tab.Env.ev Tab.Env.get

theorem OwnD.lt {w : World} {g cap : Nat} {l : List DE} (h : OwnD w g cap l) : g < w.heap.size := let ⟨_, h1, _⟩ := h; h1.lt
theorem OwnD.cells {w : World} {g cap : Nat} {l : List DE} (h : OwnD w g cap l) {i : Nat} (hi : i < l.length) :
    w.cell? ⟨g, i * 2, none⟩ = some (dat l i).rv ∧ w.cell? ⟨g, i * 2 + 1, none⟩ = some (.int .i64 (dat l i).n) := by
  obtain ⟨tl, h1, _⟩ := h
  have hl := dcells_length l
  have hg := dcells_get l i
  rw [dat_some hi] at hg
  rw [h1.cell, h1.cell, List.getElem?_append_left (by omega), List.getElem?_append_left (by omega)]
  exact hg
theorem OwnD.frozen {w : World} {g cap : Nat} {l : List DE} (h : OwnD w g cap l) (i : Nat) : w.frozen? ⟨g, i, none⟩ = false := let ⟨_, h1, _⟩ := h; h1.frozen i
theorem OwnD.set {w : World} {g cap : Nat} {l : List DE} (h : OwnD w g cap l) {i : Nat} (hi : i < l.length) (d : DE) : OwnD ((w.setCell ⟨g, i * 2, none⟩ d.rv).setCell ⟨g, i * 2 + 1, none⟩ (.int .i64 d.n)) g cap (l.set i d) := by
  obtain ⟨tl, h1, h2, h3⟩ := h
  have hl := dcells_length l
  refine ⟨tl, ?_, by simpa using h2, h3⟩
  have := (h1.set_ (i * 2) d.rv).set_ (i * 2 + 1) (.int .i64 d.n)
  rw [List.set_append_left _ _ (by omega), List.set_append_left _ _ (by simp; omega)] at this
  rw [dcells_set]
  exact this
theorem OwnD.keep {w w' : World} {g cap : Nat} {l : List DE} (h : OwnD w g cap l) (hb : w'.heap[g]? = w.heap[g]?) : OwnD w' g cap l := let ⟨tl, h1, h2⟩ := h; ⟨tl, hb.trans h1, h2⟩
theorem OwnD.ext {M : Nat → Prop} {w w' : World} {g cap : Nat} {l : List DE} (h : OwnD w g cap l) (hb : Tab.Ext M w w') (hM : ¬ M g) : OwnD w' g cap l := h.keep (hb.block g h.lt hM)
theorem DE.good.ext {M : Nat → Prop} {w w' : World} {F : Nat → Prop} {d : DE} (h : d.good w F) (hb : Tab.Ext M w w') (hM : ∀ b, F b → ¬ M b) : d.good w' F := ⟨h.row.ext hb hM, h.n⟩
/-- how two differences compare -/
def cmpD (a b : DE) : Int := cmpL a.row b.row
theorem cmpD_ord : CmpOrd cmpD where
  anti a b := cmpL_anti _ _
  trans {a b d} h1 h2 := by
    obtain ⟨t1, t2, t3⟩ := cmpL_tr a.row b.row d.row
    show cmpL a.row d.row ≤ 0
    change cmpL a.row b.row ≤ 0 at h1
    change cmpL b.row d.row ≤ 0 at h2
    by_cases h : cmpL a.row b.row = 0
    · by_cases h' : cmpL b.row d.row = 0
      · exact Int.le_of_eq (t3 h h')
      · have := t2 h1 (by omega); omega
    · have := t1 (by omega) h2; omega

set_option maxHeartbeats 400000 in
theorem canonical1_any (F F' : Nat → Prop) (d e : DE) (w : World) (h1 : d.good w F) (h2 : e.good w F') :
    Calls Tryd.prog 77 #[d.val, e.val] w fun r w' => r = .returned (.int .i64 (cmpD d e)) ∧ Below w.heap.size w w' := by
  unfold DE.val
  obtain ⟨A1, c1, _, _, e1, _⟩ := h1.row.shape
  obtain ⟨A2, c2, _, _, e2, _⟩ := h2.row.shape
  have HC := Lib.hid (fun w' (h : Below w.heap.size w w') => compareRows_any F F' d.rv e.rv d.row e.row w' (h1.row.later h) (h2.row.later h))
  rw [e1, e2] at HC ⊢
  clear e1 e2 h1 h2
  go_enter Tryd.func77, Tryd.ntmps77
  have hbel : Below w.heap.size w ((w.alloc (.cells #[.slice A1 d.row.length c1, .int .i64 d.n] 39)).alloc (.cells #[.slice A2 e.row.length c2, .int .i64 e.n] 39)) := (below_new w _).alloc (by simp) _
  go_wp2_with fail
  refine (HC.out _ hbel).mono ?_
  rintro r w1 ⟨rfl, hb⟩
  go_wp2_with fail
  go_ret
  exact ⟨rfl, hbel.trans (hb.mono hbel.size)⟩
end Go.Proofs.YthejmnmkbldacaaDoor

namespace Go.Proofs.YthejmnmkbldacaaDoor.Tab
open Go Go.RowKit

def stage2C (s1 s2 : Nat) (D : Bool → Bool → World → Prop) : Array Bool → World → Prop := fun l w => D (l.getD s1 false) (l.getD s2 false) w
theorem silent_at2 {D : Bool → Bool → World → Prop} {s1 s2 i : Nat} (h : i ≠ s1 ∧ i ≠ s2) : Silent (stage2C s1 s2 D) i := fun listed w hd => by
  show D ((listed.setIfInBounds i true).getD s1 false) ((listed.setIfInBounds i true).getD s2 false) w
  rw [getD_set_ne false h.1, getD_set_ne false h.2]
  exact hd
theorem stage2C_start {s1 s2 n : Nat} {D : Bool → Bool → World → Prop} {w : World} (h : D false false w) : stage2C s1 s2 D (Array.replicate n false) w := by
  show D ((Array.replicate n false).getD s1 false) ((Array.replicate n false).getD s2 false) w
  rw [getD_replicate_false, getD_replicate_false]
  exact h
theorem stage2C_before {ops : Array Oper} {s1 s2 i : Nat} {D : Bool → Bool → World → Prop} {w : World} {listed : Array Bool} (h : stage2C s1 s2 D listed w) (hs : Stage ops i listed) (ha : anc ops ops.size s1 i = true ∧ anc ops ops.size s2 i = true) : D false false w := by
  have h1 := (hs.2 s1).2 ha.1
  have h2 := (hs.2 s2).2 ha.2
  unfold stage2C at h
  rwa [h1, h2] at h
theorem stage2C_first {ops : Array Oper} {s1 s2 : Nat} {D : Bool → Bool → World → Prop} {w : World} {listed : Array Bool} (h : stage2C s1 s2 D listed w) (hs : Stage ops s1 listed) (ha : anc ops ops.size s2 s1 = true) : listed.getD s2 false = false ∧ D false false w := by
  have h2 := (hs.2 s2).2 ha
  unfold stage2C at h
  rw [hs.1, h2] at h
  exact ⟨h2, h⟩
theorem stage2C_done1 {s1 s2 : Nat} {D : Bool → Bool → World → Prop} {w : World} {listed : Array Bool} (h : D true false w) (h2 : listed.getD s2 false = false) (hs : s1 < listed.size) (hne : s1 ≠ s2) : stage2C s1 s2 D (listed.setIfInBounds s1 true) w := by
  unfold stage2C
  rw [set_at hs, getD_set_ne false hne, h2]
  exact h
theorem stage2C_second {ops : Array Oper} {s1 s2 : Nat} {D : Bool → Bool → World → Prop} {w : World} {listed : Array Bool} (h : stage2C s1 s2 D listed w) (hs : Stage ops s2 listed) (ha : anc ops ops.size s2 s1 = true) : listed.getD s1 false = true ∧ D true false w := by
  have h1 := (hs.2 s1).1 ha
  unfold stage2C at h
  rw [hs.1, h1] at h
  exact ⟨h1, h⟩
theorem stage2C_done2 {s1 s2 : Nat} {D : Bool → Bool → World → Prop} {w : World} {listed : Array Bool} (h : D true true w) (h1 : listed.getD s1 false = true) (hs : s2 < listed.size) (hne : s2 ≠ s1) : stage2C s1 s2 D (listed.setIfInBounds s2 true) w := by
  unfold stage2C
  rw [set_at hs, getD_set_ne false hne, h1]
  exact h
theorem stage2C_end {s1 s2 n : Nat} {D : Bool → Bool → World → Prop} {w : World} {listed : Array Bool} (h : stage2C s1 s2 D listed w) (hall : ∀ i, i < n → listed.getD i false = true) (hs : s1 < n ∧ s2 < n) : D true true w := by
  unfold stage2C at h
  rwa [hall s1 hs.1, hall s2 hs.2] at h
end Go.Proofs.YthejmnmkbldacaaDoor.Tab
