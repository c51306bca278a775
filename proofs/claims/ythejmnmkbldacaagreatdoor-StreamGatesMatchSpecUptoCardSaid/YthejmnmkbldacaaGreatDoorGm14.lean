/-
  What is proved: copyRow returns an equal row in new memory; ones makes differences of rows. Conditions: no list has 2^30 elements or more.
  What is proved: reading and swapping in a row of differences; the comparison that a canonical list is sorted by. Conditions: none.
  What is proved: the steps of a walk by the table where a region holds two stores, one behind the other. Conditions: none.
  What is proved: the state of a sort of a row of differences; swapRange exchanges two parts. Conditions: none.
-/
import Derived.Test.YthejmnmkbldacaaGreatDoorGm13
import Derived.Test.YthejmnmkbldacaaGreatDoorGm12
import Derived.Test.YthejmnmkbldacaaGreatDoorGm11
import Derived.Test.YthejmnmkbldacaaGreatDoorGm02
set_option linter.all false
namespace Go.Proofs.YthejmnmkbldacaaGreatDoor
open Go.RowKit
attribute [local go_sem] Tab.Env.ev Tab.Env.get

set_option maxHeartbeats 2000000 in
theorem copyRow_any (F : Nat → Prop) (v : Value) (l : List VD) (w : World) (hr : RI w F v l) (hn : l.length < 1073741824) (hsm : ∀ x, x ∈ l → smV x) :
    Calls Tryz.prog 73 #[v] w fun e w' => ∃ v', e = .returned v' ∧ RI w' (fun b => w.heap.size ≤ b) v' l ∧ Below w.heap.size w w' := by
  obtain ⟨A, c, iA, iC, rfl, hc, hm, hs, hw, hri⟩ := hr.shape
  have HSI := Lib.hid hsm
  have HS := Lib.hid hs
  have HW := Lib.hid hw
  have HR := Lib.hid hri
  clear hsm hs hw hri hr
  unfold maxLen at hm
  obtain ⟨n, hln⟩ : ∃ n, l.length = n := ⟨_, rfl⟩
  rw [hln] at hn hc ⊢
  have HN := Lib.hid hln
  clear hln
  go_enter Tryz.func73, Tryz.ntmps73
  go_wp2_with fail
  go_loopw [3, 5, 8] (fun s _ i wr => ∃ (k : Nat) (es : List VE) (v : Value), k ≤ n ∧ v = s ∧ i = .int .i64 k ∧ OwnV wr w.heap.size (fun b => w.heap.size ≤ b) v es ∧ Hid (es.map VE.x = l.take k) ∧ Below w.heap.size w wr) (fun _ _ i _ => n - (intOf i).toNat)
  case atStart => exact ⟨0, [], _, Nat.zero_le _, rfl, rfl, OwnV.nil _ _ _, Lib.hid (by simp), Below.refl _ _⟩
  case round =>
    obtain ⟨k, es, v, hk, rfl, rfl, ho, HE, hbel⟩ := hrel
    have HO := Lib.hid ho
    by_cases hlt : k < n
    · obtain ⟨b, off, rfl, hF, hb, hcells⟩ := HS.out (by rw [HN.out]; omega)
      have q := (hcells k (by rw [HN.out]; exact hlt)).keep (hbel.block b hb)
      obtain ⟨q1, q2, q3, q4, q5⟩ := q
      have hbw : b < wr.heap.size := by have := hbel.size; omega
      have HY := Lib.hid (HR.out k (by rw [HN.out]; exact hlt))
      have HYW := Lib.hid (HW.out k (by rw [HN.out]; exact hlt))
      have hym : at_ l k ∈ l := at_mem (by rw [HN.out]; exact hlt)
      have HYS := Lib.hid (HSI.out _ hym)
      have HT := Lib.hid (take_at (l := l) (k := k) (by rw [HN.out]; exact hlt))
      clear hcells hym
      generalize at_ l k = y at *
      have hlen : es.length = k := by
        have := congrArg List.length HE.out
        rw [List.length_map, List.length_take, HN.out] at this
        omega
      have HLEN := Lib.hid hlen
      have HC := Lib.hid (fun (W : World) (hW : Below w.heap.size w W) => copyAt y F (.agg #[.int .i64 y.k, .int .i64 y.n, .int .i64 y.sc, .string y.s, .slice (iA k) y.items.length (iC k)]) W ⟨_, _, rfl, HYW.out, HY.out.later hW⟩ HYS.out)
      clear hlen
      go_wp2_with fail
      generalize hW : wr.alloc (.cells #[.int .i64 y.k, .int .i64 y.n, .int .i64 y.sc, .string y.s, .slice (iA k) y.items.length (iC k)] 33) = W
      have hbW : Below wr.heap.size wr W := hW ▸ below_new wr _
      have HBW := Lib.hid hbW
      clear hW
      refine (HC.out W (hbel.trans (hbW.mono hbel.size))).mono ?_
      rintro e w1 ⟨vb, rfl, hvb, hb1⟩
      obtain ⟨A1, c1, rfl, -, hr1⟩ := hvb
      have O1 := Lib.hid ((HO.out.later hbW).later hb1)
      have hs1 : W.heap.size ≤ w1.heap.size := hb1.size
      have hs0 : wr.heap.size ≤ W.heap.size := hbW.size
      have hs2 : w.heap.size ≤ wr.heap.size := hbel.size
      have HB1 := Lib.hid hb1
      have HR1 := Lib.hid hr1
      clear hb1 hr1 HC hbW
      go_wp2_with (at_builtin; refine append_own2 w1 rfl (.tmp 12) (.tmp 15) 31 rfl w.heap.size 33 underV infoV rfl (by decide) _ _ _ (VE.cells ⟨y, A1, c1⟩) rfl O1.out.own rfl rfl (by simp [VE.cells, Value.oneCell']) (by rw [HLEN.out]; omega) (by decide) (by omega) ?_)
      intro v' w2 hown' hb2 hkept
      have hbel2 := (hbel.trans (HBW.out.mono hbel.size)).trans ((HB1.out.mono (Nat.le_trans hbel.size hs0)).trans hb2)
      have hnb : ∀ b, W.heap.size ≤ b → v.ownBlock ≠ some b := fun b hb he => by
        have := (HO.out.own.lt b he).2
        omega
      have O2 := Lib.hid (O1.out.add (e := VE.mk y A1 c1) hown' hkept HYW.out (HR1.out.mono fun b hb _ => ⟨by show w.heap.size ≤ b; omega, hnb b hb⟩))
      have HE2 := Lib.hid (show (es ++ [VE.mk y A1 c1]).map VE.x = l.take (k + 1) by rw [HT.out, List.map_append, HE.out]; rfl)
      clear hown' hb2 hkept hnb ho hbel
      go_wp2_with fail
      go_roundw
      case rel => exact ⟨k + 1, _, _, hlt, rfl, by go_num, O2.out, HE2, hbel2⟩
      case measure => simp [intOf] <;> omega
    · obtain rfl : k = n := by omega
      have HI := Lib.hid (HO.out.ri)
      have HE2 := Lib.hid (show es.map VE.x = l by rw [HE.out, ← HN.out, List.take_length])
      obtain ⟨hl, A1, c1, rfl, g1, g2, g3⟩ := SL.of_own HO.out.own
      have HLEN := Lib.hid (show es.length = k by have := congrArg List.length HE2.out; rw [List.length_map, HN.out] at this; exact this)
      rw [HLEN.out] at g1 g3 ⊢
      have HCL := Lib.hid (fun W => clipV_any A1 k c1 (fun h0 => by
        rcases Nat.eq_zero_or_pos k with h | h
        · exact h
        · obtain ⟨b, off, e, _⟩ := g3 h
          rw [h0] at e; cases e) g1 g2 W)
      clear g3 hl ho
      go_wp2_with fail
      refine (HCL.out _).mono ?_
      rintro e w1 ⟨rfl, rfl⟩
      go_wp2_with fail
      have hri := HI.out
      rw [HE2.out, HLEN.out, ← HN.out] at hri
      have hri2 := hri.clip.mono (F' := fun b => w.heap.size ≤ b) (fun b hb _ => by rcases hb with hb | hb <;> exact hb)
      rw [HN.out] at hri2
      go_ret
      exact ⟨_, rfl, hri2, hbel⟩

/-- a row as it lies in memory -/
structure RE where
  rv : Value
  row : List VD
instance : Inhabited RE := ⟨⟨undef, []⟩⟩
/-- a slice that reads as a list of rows; its own memory in F, its rows' in F' -/
structure RR (w : World) (F F' : Nat → Prop) (v : Value) (l : List RE) : Prop where
  sl : SL w F 1 v l.length (l.map RE.rv)
  good : ∀ e, e ∈ l → RI w F' e.rv e.row
section
variable {w w' : World} {F F' F2 F2' : Nat → Prop} {v : Value} {l : List RE}
theorem RR.ext {M : Nat → Prop} (h : RR w F F' v l) (hb : Tab.Ext M w w') (hM : ∀ b, F b → ¬ M b) (hM' : ∀ b, F' b → ¬ M b) : RR w' F F' v l := ⟨h.sl.ext hb hM, fun d hd => (h.good d hd).ext hb hM'⟩
theorem RR.later (h : RR w F F' v l) (hb : Below w.heap.size w w') : RR w' F F' v l := ⟨h.sl.later hb, fun d hd => (h.good d hd).later hb⟩
theorem RR.mono (h : RR w F F' v l) (h1 : ∀ b, F b → b < w.heap.size → F2 b) (h2 : ∀ b, F' b → b < w.heap.size → F2' b) : RR w F2 F2' v l := ⟨h.sl.mono h1, fun d hd => (h.good d hd).mono h2⟩
theorem RR.nil (w : World) (F F' : Nat → Prop) : RR w F F' (.slice none 0 0) [] := ⟨SL.nil w F 1, fun _ h => by cases h⟩
/-- what lies at i -/
theorem RR.at_ (h : RR w F F' v l) {i : Nat} (hi : i < l.length) : ∃ (b off c : Nat) (A : Option Addr) (m c' : Nat) (row : List VD), v = .slice (some ⟨b, off, none⟩) l.length c ∧ l.length ≤ c ∧ c ≤ maxLen ∧ b < w.heap.size ∧ F b ∧ dat l i = ⟨.slice A m c', row⟩ ∧ RI w F' (.slice A m c') row ∧
    w.cell? ⟨b, off + i, none⟩ = some (.slice A m c') := by
  obtain ⟨b, off, c, hv, h1, h2, hF, hlt, hc⟩ := h.sl.at_ hi
  have hg := h.good (dat l i) (dat_mem hi)
  obtain ⟨u0, e0, c0⟩ := hc 0 (by omega)
  rw [Nat.add_zero, Nat.mul_one, List.getElem?_map, dat_some hi] at e0
  simp only [Option.map_some, Option.some.injEq] at e0
  subst e0
  generalize dat l i = d at hg c0
  obtain ⟨rv, row⟩ := d
  obtain ⟨A, c', _, _, e, _⟩ := hg.shape
  simp only at e c0
  subst e
  exact ⟨b, off, c, A, _, c', row, hv, h1, h2, hlt, hF, rfl, hg, by simpa using c0⟩
end

/-- a row of differences of the call's own, whose rows lie elsewhere in F -/
structure OwnDs (w : World) (base : Nat) (F : Nat → Prop) (v : Value) (es : List DE) : Prop where
  own : w.ownsRow base 86 2 v es.length (dcells es)
  good : ∀ e, e ∈ es → e.good w (fun b => F b ∧ v.ownBlock ≠ some b)
theorem OwnDs.nil (w : World) (base : Nat) (F : Nat → Prop) : OwnDs w base F (.slice none 0 0) [] := ⟨World.ownsRow_nil _ _ _ _, fun _ h => by cases h⟩
theorem OwnDs.rd {w : World} {base : Nat} {F : Nat → Prop} {v : Value} {es : List DE} (h : OwnDs w base F v es) : RD w (fun b => base ≤ b) F v es := ⟨SL.of_own h.own, fun d hd => ⟨(h.good d hd).row.mono fun b hb _ => hb.1, (h.good d hd).n⟩⟩
theorem OwnDs.add {wr w' : World} {base : Nat} {F : Nat → Prop} {v v' : Value} {es : List DE} {e : DE} (h : OwnDs wr base F v es) (ho : w'.ownsRow base 86 2 v' (es.length + 1) (dcells es ++ e.cells)) (hk : Kept wr w' v v')
    (hr : e.good wr (fun b => F b ∧ v.ownBlock ≠ some b)) : OwnDs w' base F v' (es ++ [e]) :=
  ⟨by rw [dcells_append, List.length_append]; simpa [dcells] using ho, fun d hd => by
    rcases List.mem_append.1 hd with hd | hd
    · exact ⟨hk.ri (h.good d hd).row, (h.good d hd).n⟩
    · rw [List.mem_singleton.1 hd]; exact ⟨hk.ri hr.row, hr.n⟩⟩
theorem OwnDs.later {w w' : World} {base : Nat} {F : Nat → Prop} {v : Value} {es : List DE} (h : OwnDs w base F v es) (hb : Below w.heap.size w w') : OwnDs w' base F v es := by
  refine ⟨⟨h.own.1, h.own.2.elim .inl fun ⟨g, cap, cur, h1, h2, h3, h4⟩ => .inr ⟨g, cap, cur, h1, h2, ?_, h4⟩⟩, fun e he => ⟨(h.good e he).row.later hb, (h.good e he).n⟩⟩
  rw [hb.block g (lt_of_block h3)]
  exact h3
def onesOf (l : List RE) : List DE := l.map fun e => ⟨e.rv, e.row, 1⟩

set_option maxHeartbeats 2000000 in
theorem ones_any (F F' : Nat → Prop) (v : Value) (l : List RE) (w : World) (hr : RR w F F' v l) (hn : l.length < 1073741824) :
    Calls Tryz.prog 48 #[v] w fun e w' => ∃ v', e = .returned v' ∧ OwnDs w' w.heap.size (fun b => F' b ∧ b < w.heap.size) v' (onesOf l) ∧ Below w.heap.size w w' := by
  obtain ⟨hl, A, c, rfl, hc, hm, -⟩ := hr.sl
  unfold maxLen at hm
  have HR := Lib.hid hr
  clear hr hl
  obtain ⟨n, hln⟩ : ∃ n, l.length = n := ⟨_, rfl⟩
  rw [hln] at hn hc ⊢
  have HN := Lib.hid hln
  clear hln
  go_enter Tryz.func48, Tryz.ntmps48
  go_wp2_with fail
  go_loopw [3, 5, 8] (fun s _ i wr => ∃ (k : Nat) (v : Value), k ≤ n ∧ v = s ∧ i = .int .i64 k ∧ OwnDs wr w.heap.size (fun b => F' b ∧ b < w.heap.size) v (onesOf (l.take k)) ∧ Below w.heap.size w wr) (fun _ _ i _ => n - (intOf i).toNat)
  case atStart => exact ⟨0, _, Nat.zero_le _, rfl, rfl, OwnDs.nil _ _ _, Below.refl _ _⟩
  case round =>
    obtain ⟨k, v, hk, rfl, rfl, ho, hbel⟩ := hrel
    have HO := Lib.hid ho
    by_cases hlt : k < n
    · have hrr := HR.out.later hbel
      obtain ⟨b, off, c', A1, m1, c1, row, hv, -, -, hb, -, he, hri, q⟩ := hrr.at_ (i := k) (by rw [HN.out]; exact hlt)
      injection hv with e1 _ e2
      subst e1
      subst e2
      have HT := Lib.hid (show l.take (k + 1) = l.take k ++ [⟨.slice A1 m1 c1, row⟩] by
        rw [List.take_succ_eq_append_getElem (by rw [HN.out]; exact hlt), ← dat_eq, he])
      have HLEN := Lib.hid (show (onesOf (l.take k)).length = k by unfold onesOf; rw [List.length_map, List.length_take, HN.out]; omega)
      have HRI := Lib.hid hri
      have HO0 := Lib.hid (show RI w F' (.slice A1 m1 c1) row by have := HR.out.good _ (dat_mem (l := l) (i := k) (by rw [HN.out]; exact hlt)); rw [he] at this; exact this)
      clear hrr he hri ho
      have hs2 : w.heap.size ≤ wr.heap.size := hbel.size
      go_wp2_with (at_builtin; refine append_own2 wr rfl (.tmp 12) (.tmp 15) 23 rfl w.heap.size 86 underD infoD rfl (by decide) _ _ _ (DE.cells ⟨.slice A1 m1 c1, row, 1⟩) rfl HO.out.own rfl rfl (by simp [DE.cells, Value.oneCell']) (by rw [HLEN.out]; omega) (by decide) (by omega) ?_)
      intro v' w2 hown' hb2 hkept
      have hgood : (DE.mk (.slice A1 m1 c1) row 1).good wr (fun b => (F' b ∧ b < w.heap.size) ∧ v.ownBlock ≠ some b) := by
        refine ⟨((HO0.out.mono (F' := fun b => F' b ∧ b < w.heap.size) (fun b hb h => ⟨hb, h⟩)).later hbel).mono (fun b hb _ => ⟨hb, fun he => ?_⟩), show I64 1 by unfold I64; decide⟩
        have := (HO.out.own.lt b he).1
        have := hb.2
        omega
      have O2 := Lib.hid (HO.out.add (e := DE.mk (.slice A1 m1 c1) row 1) hown' hkept hgood)
      have hbel2 := hbel.trans hb2
      have HE2 := Lib.hid (show onesOf (l.take k) ++ [DE.mk (.slice A1 m1 c1) row 1] = onesOf (l.take (k + 1)) by rw [HT.out]; unfold onesOf; rw [List.map_append]; rfl)
      clear hown' hb2 hkept hgood hbel
      go_wp2_with fail
      go_roundw
      case rel => exact ⟨k + 1, _, hlt, rfl, by go_num, HE2.out ▸ O2.out, hbel2⟩
      case measure => simp [intOf] <;> omega
    · obtain rfl : k = n := by omega
      go_wp2_with fail
      go_ret
      refine ⟨_, rfl, ?_, hbel⟩
      have := HO.out
      rw [← HN.out, List.take_length] at this
      exact this
end Go.Proofs.YthejmnmkbldacaaGreatDoor

namespace Go.Proofs.YthejmnmkbldacaaGreatDoor
open Go.RowKit
attribute [local go_sem] Tab.Env.ev Tab.Env.get

theorem OwnD.lt {w : World} {g cap : Nat} {l : List DE} (h : OwnD w g cap l) : g < w.heap.size := let ⟨_, h1, _⟩ := h; h1.lt
theorem OwnD.cells {w : World} {g cap : Nat} {l : List DE} (h : OwnD w g cap l) {i : Nat} (hi : i < l.length) :
    w.cell? ⟨g, i * 2, none⟩ = some (dat l i).rv ∧ w.cell? ⟨g, i * 2 + 1, none⟩ = some (.int .i64 (dat l i).n) := by
  obtain ⟨tl, h1, _⟩ := h
  have hl := dcells_length l
  have hg := dcells_get l i
  rw [dat_some hi] at hg
  rw [h1.cell, h1.cell, List.getElem?_append_left (by omega), List.getElem?_append_left (by omega)]
  exact hg
theorem OwnD.frozen {w : World} {g cap : Nat} {l : List DE} (h : OwnD w g cap l) (i : Nat) : w.frozen? ⟨g, i, none⟩ = false := let ⟨_, h1, _⟩ := h; h1.frozen i
theorem OwnD.set {w : World} {g cap : Nat} {l : List DE} (h : OwnD w g cap l) {i : Nat} (hi : i < l.length) (d : DE) : OwnD ((w.setCell ⟨g, i * 2, none⟩ d.rv).setCell ⟨g, i * 2 + 1, none⟩ (.int .i64 d.n)) g cap (l.set i d) := by
  obtain ⟨tl, h1, h2, h3⟩ := h
  have hl := dcells_length l
  refine ⟨tl, ?_, by simpa using h2, h3⟩
  have := (h1.set_ (i * 2) d.rv).set_ (i * 2 + 1) (.int .i64 d.n)
  rw [List.set_append_left _ _ (by omega), List.set_append_left _ _ (by simp; omega)] at this
  rw [dcells_set]
  exact this
theorem OwnD.keep {w w' : World} {g cap : Nat} {l : List DE} (h : OwnD w g cap l) (hb : w'.heap[g]? = w.heap[g]?) : OwnD w' g cap l := let ⟨tl, h1, h2⟩ := h; ⟨tl, hb.trans h1, h2⟩
theorem OwnD.ext {M : Nat → Prop} {w w' : World} {g cap : Nat} {l : List DE} (h : OwnD w g cap l) (hb : Tab.Ext M w w') (hM : ¬ M g) : OwnD w' g cap l := h.keep (hb.block g h.lt hM)
theorem DE.good.ext {M : Nat → Prop} {w w' : World} {F : Nat → Prop} {d : DE} (h : d.good w F) (hb : Tab.Ext M w w') (hM : ∀ b, F b → ¬ M b) : d.good w' F := ⟨h.row.ext hb hM, h.n⟩
/-- how two differences compare -/
def cmpD (a b : DE) : Int := cmpL a.row b.row
theorem cmpD_ord : CmpOrd cmpD where
  anti a b := cmpL_anti _ _
  trans {a b d} h1 h2 := by
    obtain ⟨t1, t2, t3⟩ := cmpL_tr a.row b.row d.row
    show cmpL a.row d.row ≤ 0
    change cmpL a.row b.row ≤ 0 at h1
    change cmpL b.row d.row ≤ 0 at h2
    by_cases h : cmpL a.row b.row = 0
    · by_cases h' : cmpL b.row d.row = 0
      · exact Int.le_of_eq (t3 h h')
      · have := t2 h1 (by omega); omega
    · have := t1 (by omega) h2; omega

set_option maxHeartbeats 400000 in
theorem canonical1_any (F F' : Nat → Prop) (d e : DE) (w : World) (h1 : d.good w F) (h2 : e.good w F') :
    Calls Tryz.prog 113 #[d.val, e.val] w fun r w' => r = .returned (.int .i64 (cmpD d e)) ∧ Below w.heap.size w w' := by
  unfold DE.val
  obtain ⟨A1, c1, _, _, e1, _⟩ := h1.row.shape
  obtain ⟨A2, c2, _, _, e2, _⟩ := h2.row.shape
  have HC := Lib.hid (fun w' (h : Below w.heap.size w w') => compareRows_any F F' d.rv e.rv d.row e.row w' (h1.row.later h) (h2.row.later h))
  rw [e1, e2] at HC ⊢
  clear e1 e2 h1 h2
  go_enter Tryz.func113, Tryz.ntmps113
  have hbel : Below w.heap.size w ((w.alloc (.cells #[.slice A1 d.row.length c1, .int .i64 d.n] 86)).alloc (.cells #[.slice A2 e.row.length c2, .int .i64 e.n] 86)) := (below_new w _).alloc (by simp) _
  go_wp2_with fail
  refine (HC.out _ hbel).mono ?_
  rintro r w1 ⟨rfl, hb⟩
  go_wp2_with fail
  go_ret
  exact ⟨rfl, hbel.trans (hb.mono hbel.size)⟩
end Go.Proofs.YthejmnmkbldacaaGreatDoor

namespace Go.Proofs.YthejmnmkbldacaaGreatDoor.Tab
open Go Go.RowKit

def stage2C (s1 s2 : Nat) (D : Bool → Bool → World → Prop) : Array Bool → World → Prop := fun l w => D (l.getD s1 false) (l.getD s2 false) w
theorem silent_at2 {D : Bool → Bool → World → Prop} {s1 s2 i : Nat} (h : i ≠ s1 ∧ i ≠ s2) : Silent (stage2C s1 s2 D) i := fun listed w hd => by
  show D ((listed.setIfInBounds i true).getD s1 false) ((listed.setIfInBounds i true).getD s2 false) w
  rw [getD_set_ne false h.1, getD_set_ne false h.2]
  exact hd
theorem stage2C_start {s1 s2 n : Nat} {D : Bool → Bool → World → Prop} {w : World} (h : D false false w) : stage2C s1 s2 D (Array.replicate n false) w := by
  show D ((Array.replicate n false).getD s1 false) ((Array.replicate n false).getD s2 false) w
  rw [getD_replicate_false, getD_replicate_false]
  exact h
theorem stage2C_before {ops : Array Oper} {s1 s2 i : Nat} {D : Bool → Bool → World → Prop} {w : World} {listed : Array Bool} (h : stage2C s1 s2 D listed w) (hs : Stage ops i listed) (ha : anc ops ops.size s1 i = true ∧ anc ops ops.size s2 i = true) : D false false w := by
  have h1 := (hs.2 s1).2 ha.1
  have h2 := (hs.2 s2).2 ha.2
  unfold stage2C at h
  rwa [h1, h2] at h
theorem stage2C_first {ops : Array Oper} {s1 s2 : Nat} {D : Bool → Bool → World → Prop} {w : World} {listed : Array Bool} (h : stage2C s1 s2 D listed w) (hs : Stage ops s1 listed) (ha : anc ops ops.size s2 s1 = true) : listed.getD s2 false = false ∧ D false false w := by
  have h2 := (hs.2 s2).2 ha
  unfold stage2C at h
  rw [hs.1, h2] at h
  exact ⟨h2, h⟩
theorem stage2C_done1 {s1 s2 : Nat} {D : Bool → Bool → World → Prop} {w : World} {listed : Array Bool} (h : D true false w) (h2 : listed.getD s2 false = false) (hs : s1 < listed.size) (hne : s1 ≠ s2) : stage2C s1 s2 D (listed.setIfInBounds s1 true) w := by
  unfold stage2C
  rw [set_at hs, getD_set_ne false hne, h2]
  exact h
theorem stage2C_second {ops : Array Oper} {s1 s2 : Nat} {D : Bool → Bool → World → Prop} {w : World} {listed : Array Bool} (h : stage2C s1 s2 D listed w) (hs : Stage ops s2 listed) (ha : anc ops ops.size s2 s1 = true) : listed.getD s1 false = true ∧ D true false w := by
  have h1 := (hs.2 s1).1 ha
  unfold stage2C at h
  rw [hs.1, h1] at h
  exact ⟨h1, h⟩
theorem stage2C_done2 {s1 s2 : Nat} {D : Bool → Bool → World → Prop} {w : World} {listed : Array Bool} (h : D true true w) (h1 : listed.getD s1 false = true) (hs : s2 < listed.size) (hne : s2 ≠ s1) : stage2C s1 s2 D (listed.setIfInBounds s2 true) w := by
  unfold stage2C
  rw [set_at hs, getD_set_ne false hne, h1]
  exact h
theorem stage2C_end {s1 s2 n : Nat} {D : Bool → Bool → World → Prop} {w : World} {listed : Array Bool} (h : stage2C s1 s2 D listed w) (hall : ∀ i, i < n → listed.getD i false = true) (hs : s1 < n ∧ s2 < n) : D true true w := by
  unfold stage2C at h
  rwa [hall s1 hs.1, hall s2 hs.2] at h
end Go.Proofs.YthejmnmkbldacaaGreatDoor.Tab

namespace Go.Proofs.YthejmnmkbldacaaGreatDoor
open Go.RowKit
attribute [local go_sem] Tab.Env.ev Tab.Env.get

/-- a function that compares two differences by their rows -/
structure CmpOK (f : FuncId) : Prop where
  cf : ∀ (args : Array Value) (w : World), (callFunc f args).run Tryz.prog w = .ok (.enter f args) w
  calls : ∀ (F F' : Nat → Prop) (d e : DE) (w : World), d.good w F → e.good w F' → Calls Tryz.prog f #[d.val, e.val] w fun r w' => r = .returned (.int .i64 (cmpD d e)) ∧ Below w.heap.size w w'
theorem canonical1_ok : CmpOK 113 := ⟨fun _ _ => by simp [go_sem], canonical1_any⟩
theorem good_dat {l : List DE} {w : World} {F : Nat → Prop} (hg : ∀ d, d ∈ l → d.good w F) {i : Nat} (hi : i < l.length) : (dat l i).good w F := hg _ (dat_mem hi)

theorem ext_set2 {g : Nat} {w w' : World} (h : Tab.Ext (fun k => k = g) w w') (i : Nat) (u v : Value) : Tab.Ext (fun k => k = g) w ((w'.setCell ⟨g, i, none⟩ u).setCell ⟨g, i + 1, none⟩ v) :=
  (h.setCell (p := ⟨g, i, none⟩) (.inl rfl) u).setCell (p := ⟨g, i + 1, none⟩) (.inl rfl) v
/-- a row of differences that is being sorted: w0 the world at first, l0 the row at first -/
structure ST (g cap : Nat) (F : Nat → Prop) (n : Nat) (w0 wr : World) (l : List DE) : Prop where
  own : OwnD wr g cap l
  len : l.length = n
  small : n < 1073741824
  good : ∀ d, d ∈ l → d.good wr F
  far : ∀ b, F b → b ≠ g
  ext : Tab.Ext (fun k => k = g) w0 wr
section
variable {g cap n : Nat} {F : Nat → Prop} {w0 wr w' : World} {l : List DE}
theorem ST.lt (h : ST g cap F n w0 wr l) : g < wr.heap.size := h.own.lt
theorem ST.caps (h : ST g cap F n w0 wr l) : n ≤ cap ∧ cap ≤ 9223372036854775807 := by
  obtain ⟨_, _, h1, h2⟩ := h.own
  rw [h.len] at h1
  exact ⟨h1, h2⟩
theorem ST.start {w : World} (h : OwnD w g cap l) (hs : l.length < 1073741824) (hg : ∀ d, d ∈ l → d.good w F) (hF : ∀ b, F b → b ≠ g) : ST g cap F l.length w w l := ⟨h, rfl, hs, hg, hF, Tab.Ext.refl _ _⟩
theorem ST.rebase (h : ST g cap F n w0 wr l) : ST g cap F n wr wr l := ⟨h.own, h.len, h.small, h.good, h.far, Tab.Ext.refl _ _⟩
theorem ST.onto {w : World} (h : ST g cap F n w0 wr l) (h0 : Tab.Ext (fun k => k = g) w w0) : ST g cap F n w wr l := ⟨h.own, h.len, h.small, h.good, h.far, h0.trans h.ext⟩
/-- nothing that stood has changed -/
theorem ST.later (h : ST g cap F n w0 wr l) (hw : Tab.Ext (fun _ => False) wr w') : ST g cap F n w0 w' l :=
  ⟨h.own.ext hw id, h.len, h.small, fun d hd => (h.good d hd).ext hw (fun _ _ => id), h.far, h.ext.trans (hw.mono fun _ _ h => h.elim)⟩
theorem ST.laterd (h : ST g cap F n w0 wr l) (hw : Tab.Ext (fun _ => False) wr.drew w') : ST g cap F n w0 w' l := h.later ((Tab.Ext.refl _ wr).drew.trans hw)
/-- the two at i and j have changed places -/
theorem ST.swap (h : ST g cap F n w0 wr l) {i j : Nat} (hi : i < n) (hj : j < n) : ST g cap F n w0 ((((wr.drew.setCell ⟨g, i * 2, none⟩ (dat l j).rv).setCell ⟨g, i * 2 + 1, none⟩ (.int .i64 (dat l j).n)).setCell ⟨g, j * 2, none⟩ (dat l i).rv).setCell ⟨g, j * 2 + 1, none⟩ (.int .i64 (dat l i).n)) (swapD l i j) := by
  have hl := h.len
  have e1 : Tab.Ext (fun k => k = g) wr ((((wr.drew.setCell ⟨g, i * 2, none⟩ (dat l j).rv).setCell ⟨g, i * 2 + 1, none⟩ (.int .i64 (dat l j).n)).setCell ⟨g, j * 2, none⟩ (dat l i).rv).setCell ⟨g, j * 2 + 1, none⟩ (.int .i64 (dat l i).n)) :=
    ext_set2 (ext_set2 (Tab.Ext.refl _ wr).drew _ _ _) _ _ _
  have ho : OwnD wr.drew g cap l := h.own.keep rfl
  have h1 := ho.set (i := i) (by omega) (dat l j)
  have h2 := h1.set (i := j) (by simpa using (by omega : j < l.length)) (dat l i)
  refine ⟨h2, by rw [swapD_length]; exact hl, h.small, fun d hd => ?_, h.far, h.ext.trans e1⟩
  exact (h.good d ((swapD_perm (by omega) (by omega)).mem_iff.1 hd)).ext e1 h.far
/-- what lies at i -/
theorem ST.at_ (h : ST g cap F n w0 wr l) {i : Nat} (hi : i < n) : ∃ (A : Option Addr) (m c : Nat) (row : List VD) (k : Int), dat l i = ⟨.slice A m c, row, k⟩ ∧ (DE.mk (.slice A m c) row k).good wr F ∧
    (wr.cell? ⟨g, i * 2, none⟩ = some (.slice A m c) ∧ wr.cell? ⟨g, i * 2 + 1, none⟩ = some (.int .i64 k)) ∧ ∀ w', Tab.Ext (fun _ => False) wr.drew w' → w'.cell? ⟨g, i * 2, none⟩ = some (.slice A m c) ∧ w'.cell? ⟨g, i * 2 + 1, none⟩ = some (.int .i64 k) := by
  have hl := h.len
  have hg := good_dat h.good (i := i) (by omega)
  have hc := h.own.cells (i := i) (by omega)
  have hlt := h.lt
  generalize dat l i = d at hg hc
  obtain ⟨rv, row, k⟩ := d
  obtain ⟨A, c, _, _, e, _⟩ := hg.row.shape
  simp only at e hc
  subst e
  exact ⟨A, _, c, row, k, rfl, hg, hc, fun w' hw => ⟨(hw.cell (p := ⟨g, i * 2, none⟩) hlt id).trans hc.1, (hw.cell (p := ⟨g, i * 2 + 1, none⟩) hlt id).trans hc.2⟩⟩
theorem ST.frozen (h : ST g cap F n w0 wr l) (i : Nat) : wr.frozen? ⟨g, i, none⟩ = false := h.own.frozen i
end

theorem under23 : Tryz.prog.underlying 23 = some (.slice 86) := by kernel_rfl

set_option maxHeartbeats 2000000 in
theorem swapRange_any (g cap : Nat) (F : Nat → Prop) (l : List DE) (w0 w : World) (n : Nat) (st : ST g cap F n w0 w l) (a b m : Nat) (hab : a + m ≤ b) (hb : b + m ≤ n) (fv : Value) :
    Calls Tryz.prog 238 #[.slice (some ⟨g, 0, none⟩) n cap, .int .i64 a, .int .i64 b, .int .i64 m, fv] w fun e w' => e = .returned (.tuple #[]) ∧ ∃ l', ST g cap F n w0 w' l' ∧ Swr l l' a b m := by
  obtain ⟨hcap, hmax⟩ := st.caps
  have hsm := st.small
  have HST := Lib.hid st
  clear st
  go_enter Tryz.func238, Tryz.ntmps238
  go_wp2_with fail
  go_loopw [10] (fun i wr => ∃ (k : Nat) (l' : List DE), k ≤ m ∧ i = .int .i64 k ∧ ST g cap F n w0 wr l' ∧ Swr l l' a b k) (fun i _ => m - (intOf i).toNat)
  case atStart => exact ⟨0, l, Nat.zero_le _, rfl, HST.out, Swr.start _ _ _⟩
  case round =>
    obtain ⟨k, l', hk, rfl, hs, hr⟩ := hrel
    have HS := Lib.hid hs
    have HR := Lib.hid hr
    by_cases hlt : k < m
    · have HL := Lib.hid hr.perm.length_eq
      obtain ⟨A1, m1, c1, r1, n1, e1, g1, p1, -⟩ := hs.at_ (i := a + k) (by omega)
      obtain ⟨A2, m2, c2, r2, n2, e2, g2, p2, -⟩ := hs.at_ (i := b + k) (by omega)
      have hfz := fun i => hs.frozen i
      have HSW := Lib.hid (hs.swap (i := a + k) (j := b + k) (by omega) (by omega))
      rw [e1, e2] at HSW
      have HR2 := Lib.hid (hr.step hlt hab (by rw [← HL.out, hs.len]; exact hb))
      have wi := IntWalk.i64_in ((a : Int) + k) (by omega)
      have wj := IntWalk.i64_in ((b : Int) + k) (by omega)
      have gi : (0 : Int) ≤ (a : Int) + k ∧ (a : Int) + k < n := by omega
      have gj : (0 : Int) ≤ (b : Int) + k ∧ (b : Int) + k < n := by omega
      have ti : ((a : Int) + k).toNat = a + k := by omega
      have tj : ((b : Int) + k).toNat = b + k := by omega
      clear hs hr e1 e2 g1 g2
      go_wp2_with fail
      refine Tab.wp_region_tabC (fun _ _ => True) (Tab.stage2C 21 23 (fun b1_ b2_ w_' => w_' = if b2_ = true then ((((wr.drew.setCell ⟨g, (a + k) * 2, none⟩ (.slice A2 m2 c2)).setCell ⟨g, (a + k) * 2 + 1, none⟩ (.int .i64 n2)).setCell ⟨g, (b + k) * 2, none⟩ (.slice A1 m1 c1)).setCell ⟨g, (b + k) * 2 + 1, none⟩ (.int .i64 n1)) else if b1_ = true then ((wr.drew.setCell ⟨g, (a + k) * 2, none⟩ (.slice A2 m2 c2)).setCell ⟨g, (a + k) * 2 + 1, none⟩ (.int .i64 n2)) else wr.drew)) (by kernel_rfl) (by kernel_rfl) (fun _ => trivial) (fun _ _ _ _ _ => trivial) (Tab.stage2C_start rfl) ?_
      iterate 21 (first | (refine Tab.tab_moveE _ rfl (Tab.silent_at2 (by decide)) (.inl rfl) rfl rfl (fun _ => trivial) ?_; apply Exists.intro; refine And.intro ?_ ?_; focus (simp [Tab.Env.ev, Tab.Env.get]; rfl)) | (refine Tab.tab_moveE _ rfl (Tab.silent_at2 (by decide)) (.inr rfl) rfl rfl (fun _ => trivial) ?_; apply Exists.intro; refine And.intro ?_ ?_; focus (simp [Tab.Env.ev, Tab.Env.get]; rfl)) | refine Tab.tab_skip rfl (Tab.silent_at2 (by decide)) rfl ?_ | (refine Tab.tab_repE rfl (Tab.silent_at2 (by decide)) rfl (fun _ _ h => by cases h) rfl (fun _ => trivial) ?_; apply Exists.intro; refine And.intro (fun l w' _ _ hw => ?_) ?_; focus (go_simp; rfl)) | (refine Tab.tab_repE rfl (Tab.silent_at2 (by decide)) rfl (fun _ _ h => by cases h) rfl (fun _ => trivial) ?_; apply Exists.intro; refine And.intro (fun l w' hs hc hw => ?_) ?_; focus (first | (go_simp; rfl) | (have h := Tab.stage2C_before hc hs ⟨by kernel_rfl, by kernel_rfl⟩; simp only [Bool.false_eq_true, if_false] at h; subst h; go_simp; rfl))))
      (refine Tab.tab_act rfl rfl (fun _ _ h => by cases h) rfl (fun l w' hsz hs hc hw => ?_) ?_; focus (obtain ⟨h2_, h⟩ := Tab.stage2C_first hc hs (by kernel_rfl); simp only [Bool.false_eq_true, if_false] at h; subst h; refine ⟨((wr.drew.setCell ⟨g, (a + k) * 2, none⟩ (.slice A2 m2 c2)).setCell ⟨g, (a + k) * 2 + 1, none⟩ (.int .i64 n2)), ?_, trivial, Tab.stage2C_done1 rfl h2_ (by rw [hsz]; decide) (by decide)⟩; go_simp; done))
      iterate 1 (first | (refine Tab.tab_moveE _ rfl (Tab.silent_at2 (by decide)) (.inl rfl) rfl rfl (fun _ => trivial) ?_; apply Exists.intro; refine And.intro ?_ ?_; focus (simp [Tab.Env.ev, Tab.Env.get]; rfl)) | (refine Tab.tab_moveE _ rfl (Tab.silent_at2 (by decide)) (.inr rfl) rfl rfl (fun _ => trivial) ?_; apply Exists.intro; refine And.intro ?_ ?_; focus (simp [Tab.Env.ev, Tab.Env.get]; rfl)) | refine Tab.tab_skip rfl (Tab.silent_at2 (by decide)) rfl ?_ | (refine Tab.tab_repE rfl (Tab.silent_at2 (by decide)) rfl (fun _ _ h => by cases h) rfl (fun _ => trivial) ?_; apply Exists.intro; refine And.intro (fun l w' _ _ hw => ?_) ?_; focus (go_simp; rfl)) | (refine Tab.tab_repE rfl (Tab.silent_at2 (by decide)) rfl (fun _ _ h => by cases h) rfl (fun _ => trivial) ?_; apply Exists.intro; refine And.intro (fun l w' hs hc hw => ?_) ?_; focus (go_simp; rfl)))
      (refine Tab.tab_act rfl rfl (fun _ _ h => by cases h) rfl (fun l w' hsz hs hc hw => ?_) ?_; focus (obtain ⟨h1_, h⟩ := Tab.stage2C_second hc hs (by kernel_rfl); simp only [Bool.false_eq_true, if_false, if_true] at h; subst h; refine ⟨((((wr.drew.setCell ⟨g, (a + k) * 2, none⟩ (.slice A2 m2 c2)).setCell ⟨g, (a + k) * 2 + 1, none⟩ (.int .i64 n2)).setCell ⟨g, (b + k) * 2, none⟩ (.slice A1 m1 c1)).setCell ⟨g, (b + k) * 2 + 1, none⟩ (.int .i64 n1)), ?_, trivial, Tab.stage2C_done2 rfl h1_ (by rw [hsz]; decide) (by decide)⟩; go_simp; done))
      intro l_ a_ w_ hall_ hcl_ _ hsat_
      have hw_ := Tab.stage2C_end hcl_ hall_ (by decide)
      simp only [if_true] at hw_
      subst hw_
      refine Tab.fin_of_sat rfl ?_ hsat_
      simp only [Tab.fin, Act.put, List.setIfInBounds_toArray, List.set_cons_succ, List.set_cons_zero]
      go_wp2_with fail
      go_roundw
      case rel => exact ⟨k + 1, _, hlt, by go_num, HSW.out, HR2.out⟩
      case measure => simp [intOf]; omega
    · go_wp2_with fail
      obtain rfl : k = m := by omega
      exact bodyPost_end (results_none rfl _ _ _) rfl ⟨rfl, l', HS.out, HR.out⟩
end Go.Proofs.YthejmnmkbldacaaGreatDoor
