/-
  What is proved: the state of a sort of a row of differences; swapRange exchanges two parts. Conditions: none.
  What is proved: slices.DeleteFunc on a row of differences of the call's own. Conditions: none.
  What is proved: how often the reference says that a row occurs. Conditions: fewer than 2^22 differences.
-/
import Derived.Test.YthejmnmkbldacaaGreatDoorAp17
import Derived.Laws.IdiomCopy
import Derived.Test.YthejmnmkbldacaaGreatDoorAp16
import Derived.Test.YthejmnmkbldacaaGreatDoorAp15
set_option linter.all false
namespace Go.Proofs.YthejmnmkbldacaaGreatDoor
open Go.RowKit
attribute [local go_sem] Tab.Env.ev Tab.Env.get

/-- a function that compares two differences by their rows -/
structure CmpOK (f : FuncId) : Prop where
  cf : ∀ (args : Array Value) (w : World), (callFunc f args).run Tryz.prog w = .ok (.enter f args) w
  calls : ∀ (F F' : Nat → Prop) (d e : DE) (w : World), d.good w F → e.good w F' → Calls Tryz.prog f #[d.val, e.val] w fun r w' => r = .returned (.int .i64 (cmpD d e)) ∧ Below w.heap.size w w'
theorem canonical1_ok : CmpOK 113 := ⟨fun _ _ => by simp [go_sem], canonical1_any⟩
theorem good_dat {l : List DE} {w : World} {F : Nat → Prop} (hg : ∀ d, d ∈ l → d.good w F) {i : Nat} (hi : i < l.length) : (dat l i).good w F := hg _ (dat_mem hi)

theorem ext_set2 {g : Nat} {w w' : World} (h : Tab.Ext (fun k => k = g) w w') (i : Nat) (u v : Value) : Tab.Ext (fun k => k = g) w ((w'.setCell ⟨g, i, none⟩ u).setCell ⟨g, i + 1, none⟩ v) :=
  (h.setCell (p := ⟨g, i, none⟩) (.inl rfl) u).setCell (p := ⟨g, i + 1, none⟩) (.inl rfl) v
/-- a row of differences that is being sorted: w0 the world at first, l0 the row at first -/
structure ST (g cap : Nat) (F : Nat → Prop) (n : Nat) (w0 wr : World) (l : List DE) : Prop where
  own : OwnD wr g cap l
  len : l.length = n
  small : n < 1073741824
  good : ∀ d, d ∈ l → d.good wr F
  far : ∀ b, F b → b ≠ g
  ext : Tab.Ext (fun k => k = g) w0 wr
section
variable {g cap n : Nat} {F : Nat → Prop} {w0 wr w' : World} {l : List DE}
theorem ST.lt (h : ST g cap F n w0 wr l) : g < wr.heap.size := h.own.lt
theorem ST.caps (h : ST g cap F n w0 wr l) : n ≤ cap ∧ cap ≤ 9223372036854775807 := by
  obtain ⟨_, _, h1, h2⟩ := h.own
  rw [h.len] at h1
  exact ⟨h1, h2⟩
theorem ST.start {w : World} (h : OwnD w g cap l) (hs : l.length < 1073741824) (hg : ∀ d, d ∈ l → d.good w F) (hF : ∀ b, F b → b ≠ g) : ST g cap F l.length w w l := ⟨h, rfl, hs, hg, hF, Tab.Ext.refl _ _⟩
theorem ST.rebase (h : ST g cap F n w0 wr l) : ST g cap F n wr wr l := ⟨h.own, h.len, h.small, h.good, h.far, Tab.Ext.refl _ _⟩
theorem ST.onto {w : World} (h : ST g cap F n w0 wr l) (h0 : Tab.Ext (fun k => k = g) w w0) : ST g cap F n w wr l := ⟨h.own, h.len, h.small, h.good, h.far, h0.trans h.ext⟩
/-- nothing that stood has changed -/
theorem ST.later (h : ST g cap F n w0 wr l) (hw : Tab.Ext (fun _ => False) wr w') : ST g cap F n w0 w' l :=
  ⟨h.own.ext hw id, h.len, h.small, fun d hd => (h.good d hd).ext hw (fun _ _ => id), h.far, h.ext.trans (hw.mono fun _ _ h => h.elim)⟩
theorem ST.laterd (h : ST g cap F n w0 wr l) (hw : Tab.Ext (fun _ => False) wr.drew w') : ST g cap F n w0 w' l := h.later ((Tab.Ext.refl _ wr).drew.trans hw)
/-- the two at i and j have changed places -/
theorem ST.swap (h : ST g cap F n w0 wr l) {i j : Nat} (hi : i < n) (hj : j < n) : ST g cap F n w0 ((((wr.drew.setCell ⟨g, i * 2, none⟩ (dat l j).rv).setCell ⟨g, i * 2 + 1, none⟩ (.int .i64 (dat l j).n)).setCell ⟨g, j * 2, none⟩ (dat l i).rv).setCell ⟨g, j * 2 + 1, none⟩ (.int .i64 (dat l i).n)) (swapD l i j) := by
  have hl := h.len
  have e1 : Tab.Ext (fun k => k = g) wr ((((wr.drew.setCell ⟨g, i * 2, none⟩ (dat l j).rv).setCell ⟨g, i * 2 + 1, none⟩ (.int .i64 (dat l j).n)).setCell ⟨g, j * 2, none⟩ (dat l i).rv).setCell ⟨g, j * 2 + 1, none⟩ (.int .i64 (dat l i).n)) :=
    ext_set2 (ext_set2 (Tab.Ext.refl _ wr).drew _ _ _) _ _ _
  have ho : OwnD wr.drew g cap l := h.own.keep rfl
  have h1 := ho.set (i := i) (by omega) (dat l j)
  have h2 := h1.set (i := j) (by simpa using (by omega : j < l.length)) (dat l i)
  refine ⟨h2, by rw [swapD_length]; exact hl, h.small, fun d hd => ?_, h.far, h.ext.trans e1⟩
  exact (h.good d ((swapD_perm (by omega) (by omega)).mem_iff.1 hd)).ext e1 h.far
/-- what lies at i -/
theorem ST.at_ (h : ST g cap F n w0 wr l) {i : Nat} (hi : i < n) : ∃ (A : Option Addr) (m c : Nat) (row : List VD) (k : Int), dat l i = ⟨.slice A m c, row, k⟩ ∧ (DE.mk (.slice A m c) row k).good wr F ∧
    (wr.cell? ⟨g, i * 2, none⟩ = some (.slice A m c) ∧ wr.cell? ⟨g, i * 2 + 1, none⟩ = some (.int .i64 k)) ∧ ∀ w', Tab.Ext (fun _ => False) wr.drew w' → w'.cell? ⟨g, i * 2, none⟩ = some (.slice A m c) ∧ w'.cell? ⟨g, i * 2 + 1, none⟩ = some (.int .i64 k) := by
  have hl := h.len
  have hg := good_dat h.good (i := i) (by omega)
  have hc := h.own.cells (i := i) (by omega)
  have hlt := h.lt
  generalize dat l i = d at hg hc
  obtain ⟨rv, row, k⟩ := d
  obtain ⟨A, c, _, _, e, _⟩ := hg.row.shape
  simp only at e hc
  subst e
  exact ⟨A, _, c, row, k, rfl, hg, hc, fun w' hw => ⟨(hw.cell (p := ⟨g, i * 2, none⟩) hlt id).trans hc.1, (hw.cell (p := ⟨g, i * 2 + 1, none⟩) hlt id).trans hc.2⟩⟩
theorem ST.frozen (h : ST g cap F n w0 wr l) (i : Nat) : wr.frozen? ⟨g, i, none⟩ = false := h.own.frozen i
end

theorem under23 : Tryz.prog.underlying 23 = some (.slice 86) := by kernel_rfl

set_option maxHeartbeats 2000000 in
theorem swapRange_any (g cap : Nat) (F : Nat → Prop) (l : List DE) (w0 w : World) (n : Nat) (st : ST g cap F n w0 w l) (a b m : Nat) (hab : a + m ≤ b) (hb : b + m ≤ n) (fv : Value) :
    Calls Tryz.prog 238 #[.slice (some ⟨g, 0, none⟩) n cap, .int .i64 a, .int .i64 b, .int .i64 m, fv] w fun e w' => e = .returned (.tuple #[]) ∧ ∃ l', ST g cap F n w0 w' l' ∧ Swr l l' a b m := by
  obtain ⟨hcap, hmax⟩ := st.caps
  have hsm := st.small
  have HST := Lib.hid st
  clear st
  go_enter Tryz.func238, Tryz.ntmps238
  go_wp2_with fail
  go_loopw [10] (fun i wr => ∃ (k : Nat) (l' : List DE), k ≤ m ∧ i = .int .i64 k ∧ ST g cap F n w0 wr l' ∧ Swr l l' a b k) (fun i _ => m - (intOf i).toNat)
  case atStart => exact ⟨0, l, Nat.zero_le _, rfl, HST.out, Swr.start _ _ _⟩
  case round =>
    obtain ⟨k, l', hk, rfl, hs, hr⟩ := hrel
    have HS := Lib.hid hs
    have HR := Lib.hid hr
    by_cases hlt : k < m
    · have HL := Lib.hid hr.perm.length_eq
      obtain ⟨A1, m1, c1, r1, n1, e1, g1, p1, -⟩ := hs.at_ (i := a + k) (by omega)
      obtain ⟨A2, m2, c2, r2, n2, e2, g2, p2, -⟩ := hs.at_ (i := b + k) (by omega)
      have hfz := fun i => hs.frozen i
      have HSW := Lib.hid (hs.swap (i := a + k) (j := b + k) (by omega) (by omega))
      rw [e1, e2] at HSW
      have HR2 := Lib.hid (hr.step hlt hab (by rw [← HL.out, hs.len]; exact hb))
      have wi := IntWalk.i64_in ((a : Int) + k) (by omega)
      have wj := IntWalk.i64_in ((b : Int) + k) (by omega)
      have gi : (0 : Int) ≤ (a : Int) + k ∧ (a : Int) + k < n := by omega
      have gj : (0 : Int) ≤ (b : Int) + k ∧ (b : Int) + k < n := by omega
      have ti : ((a : Int) + k).toNat = a + k := by omega
      have tj : ((b : Int) + k).toNat = b + k := by omega
      clear hs hr e1 e2 g1 g2
      go_wp2_with fail
      refine Tab.wp_region_tabC (fun _ _ => True) (Tab.stage2C 21 23 (fun b1_ b2_ w_' => w_' = if b2_ = true then ((((wr.drew.setCell ⟨g, (a + k) * 2, none⟩ (.slice A2 m2 c2)).setCell ⟨g, (a + k) * 2 + 1, none⟩ (.int .i64 n2)).setCell ⟨g, (b + k) * 2, none⟩ (.slice A1 m1 c1)).setCell ⟨g, (b + k) * 2 + 1, none⟩ (.int .i64 n1)) else if b1_ = true then ((wr.drew.setCell ⟨g, (a + k) * 2, none⟩ (.slice A2 m2 c2)).setCell ⟨g, (a + k) * 2 + 1, none⟩ (.int .i64 n2)) else wr.drew)) (by kernel_rfl) (by kernel_rfl) (fun _ => trivial) (fun _ _ _ _ _ => trivial) (Tab.stage2C_start rfl) ?_
      iterate 21 (first | (refine Tab.tab_moveE _ rfl (Tab.silent_at2 (by decide)) (.inl rfl) rfl rfl (fun _ => trivial) ?_; apply Exists.intro; refine And.intro ?_ ?_; focus (simp [Tab.Env.ev, Tab.Env.get]; rfl)) | (refine Tab.tab_moveE _ rfl (Tab.silent_at2 (by decide)) (.inr rfl) rfl rfl (fun _ => trivial) ?_; apply Exists.intro; refine And.intro ?_ ?_; focus (simp [Tab.Env.ev, Tab.Env.get]; rfl)) | refine Tab.tab_skip rfl (Tab.silent_at2 (by decide)) rfl ?_ | (refine Tab.tab_repE rfl (Tab.silent_at2 (by decide)) rfl (fun _ _ h => by cases h) rfl (fun _ => trivial) ?_; apply Exists.intro; refine And.intro (fun l w' _ _ hw => ?_) ?_; focus (go_simp; rfl)) | (refine Tab.tab_repE rfl (Tab.silent_at2 (by decide)) rfl (fun _ _ h => by cases h) rfl (fun _ => trivial) ?_; apply Exists.intro; refine And.intro (fun l w' hs hc hw => ?_) ?_; focus (first | (go_simp; rfl) | (have h := Tab.stage2C_before hc hs ⟨by kernel_rfl, by kernel_rfl⟩; simp only [Bool.false_eq_true, if_false] at h; subst h; go_simp; rfl))))
      (refine Tab.tab_act rfl rfl (fun _ _ h => by cases h) rfl (fun l w' hsz hs hc hw => ?_) ?_; focus (obtain ⟨h2_, h⟩ := Tab.stage2C_first hc hs (by kernel_rfl); simp only [Bool.false_eq_true, if_false] at h; subst h; refine ⟨((wr.drew.setCell ⟨g, (a + k) * 2, none⟩ (.slice A2 m2 c2)).setCell ⟨g, (a + k) * 2 + 1, none⟩ (.int .i64 n2)), ?_, trivial, Tab.stage2C_done1 rfl h2_ (by rw [hsz]; decide) (by decide)⟩; go_simp; done))
      iterate 1 (first | (refine Tab.tab_moveE _ rfl (Tab.silent_at2 (by decide)) (.inl rfl) rfl rfl (fun _ => trivial) ?_; apply Exists.intro; refine And.intro ?_ ?_; focus (simp [Tab.Env.ev, Tab.Env.get]; rfl)) | (refine Tab.tab_moveE _ rfl (Tab.silent_at2 (by decide)) (.inr rfl) rfl rfl (fun _ => trivial) ?_; apply Exists.intro; refine And.intro ?_ ?_; focus (simp [Tab.Env.ev, Tab.Env.get]; rfl)) | refine Tab.tab_skip rfl (Tab.silent_at2 (by decide)) rfl ?_ | (refine Tab.tab_repE rfl (Tab.silent_at2 (by decide)) rfl (fun _ _ h => by cases h) rfl (fun _ => trivial) ?_; apply Exists.intro; refine And.intro (fun l w' _ _ hw => ?_) ?_; focus (go_simp; rfl)) | (refine Tab.tab_repE rfl (Tab.silent_at2 (by decide)) rfl (fun _ _ h => by cases h) rfl (fun _ => trivial) ?_; apply Exists.intro; refine And.intro (fun l w' hs hc hw => ?_) ?_; focus (go_simp; rfl)))
      (refine Tab.tab_act rfl rfl (fun _ _ h => by cases h) rfl (fun l w' hsz hs hc hw => ?_) ?_; focus (obtain ⟨h1_, h⟩ := Tab.stage2C_second hc hs (by kernel_rfl); simp only [Bool.false_eq_true, if_false, if_true] at h; subst h; refine ⟨((((wr.drew.setCell ⟨g, (a + k) * 2, none⟩ (.slice A2 m2 c2)).setCell ⟨g, (a + k) * 2 + 1, none⟩ (.int .i64 n2)).setCell ⟨g, (b + k) * 2, none⟩ (.slice A1 m1 c1)).setCell ⟨g, (b + k) * 2 + 1, none⟩ (.int .i64 n1)), ?_, trivial, Tab.stage2C_done2 rfl h1_ (by rw [hsz]; decide) (by decide)⟩; go_simp; done))
      intro l_ a_ w_ hall_ hcl_ _ hsat_
      have hw_ := Tab.stage2C_end hcl_ hall_ (by decide)
      simp only [if_true] at hw_
      subst hw_
      refine Tab.fin_of_sat rfl ?_ hsat_
      simp only [Tab.fin, Act.put, List.setIfInBounds_toArray, List.set_cons_succ, List.set_cons_zero]
      go_wp2_with fail
      go_roundw
      case rel => exact ⟨k + 1, _, hlt, by go_num, HSW.out, HR2.out⟩
      case measure => simp [intOf]; omega
    · go_wp2_with fail
      obtain rfl : k = m := by omega
      exact bodyPost_end (results_none rfl _ _ _) rfl ⟨rfl, l', HS.out, HR.out⟩
end Go.Proofs.YthejmnmkbldacaaGreatDoor

namespace Go.Proofs.YthejmnmkbldacaaGreatDoor
open Go.RowKit
attribute [local go_sem] Tab.Env.ev Tab.Env.get

theorem own_setCells {base size n g cap : Nat} {e : TypeId} : ∀ (us : List Value) (o : Nat) (w : World) (xs : List Value), w.ownsRow base e size (.slice (some ⟨g, 0, none⟩) n cap) n xs →
    ∃ xs', (w.setCells g o us).ownsRow base e size (.slice (some ⟨g, 0, none⟩) n cap) n xs' ∧ xs'.take o = xs.take o ∧ Tab.Ext (fun b => b = g) w (w.setCells g o us)
  | [], _, _, xs, h => ⟨xs, h, rfl, Tab.Ext.refl _ _⟩
  | u :: us, o, w, xs, h => by
    obtain ⟨h1, h2⟩ := h.stored o u
    obtain ⟨xs', h3, h4, h5⟩ := own_setCells us (o + 1) _ _ h1
    refine ⟨xs', h3, ?_, ((Tab.Ext.refl (fun b => b = g) w).setCell (p := ⟨g, o, none⟩) (.inl rfl) u).trans h5⟩
    have := congrArg (List.take o) h4
    rw [List.take_take, List.take_take, Nat.min_eq_left (Nat.le_succ o), List.take_set_of_le (Nat.le_refl o)] at this
    exact this
theorem own_shrink {base size n g cap i : Nat} {e : TypeId} {w : World} {xs : List Value} (h : w.ownsRow base e size (.slice (some ⟨g, 0, none⟩) n cap) n xs) (hi : i ≤ n) : w.ownsRow base e size (.slice (some ⟨g, 0, none⟩) i cap) i (xs.take (i * size)) := by
  have hm : i * size ≤ n * size := Nat.mul_le_mul_right _ hi
  refine ⟨by rw [List.length_take, h.1]; omega, ?_⟩
  rcases h.2 with ⟨h', _⟩ | ⟨g', cap', cur, h', hb, hg, hnc, hcm, hcs, htake⟩
  · cases h'
  · injection h' with e1 e2 e3
    injection e1 with e1
    injection e1 with e1
    subst e1
    subst e3
    refine .inr ⟨g, cap, cur, rfl, hb, hg, by omega, hcm, hcs, ?_⟩
    rw [← htake, List.take_take, Nat.min_eq_left hm]
theorem own_form {w : World} {base e size n : Nat} {v : Value} {xs : List Value} (h : w.ownsRow base e size v n xs) (hn : 0 < n) : ∃ g cap, v = .slice (some ⟨g, 0, none⟩) n cap ∧ base ≤ g ∧ g < w.heap.size ∧ n ≤ cap ∧ cap ≤ maxLen := by
  rcases h.2 with ⟨_, h0⟩ | ⟨g, cap, cur, rfl, hb, hg, hnc, hcm, _⟩
  · omega
  · exact ⟨g, cap, rfl, hb, lt_of_block hg, hnc, hcm⟩

/-- clear, elements of several cells -/
theorem run_clear_k {P : Program} (w : World) (t e ty : TypeId) (z : Value) (ht : P.underlying t = some (.slice e)) (hv : ∀ w, (zeroValue e).run P w = .ok z w) (h1 : ∀ u ∈ z.cells, u.oneCell' = true) (b o n c : Nat) (hn : 0 < n)
    (hc : ∀ j, j < n * z.cells.size → (w.cell? ⟨b, o + j, none⟩).isSome = true) (hf : ∀ j, j < n * z.cells.size → w.frozen? ⟨b, o + j, none⟩ = false) :
    (Builtin.clear_ #[t] ty #[.slice (some ⟨b, o, none⟩) n c]).run P w = .ok (.tuple #[]) (w.setCells b o (Builtin.zeroCells z.cells n).toList) := by
  have hsz := size_zeroCells z.cells n
  have hst := run_storeCells_cells (P := P) b o (Builtin.zeroCells z.cells n).toList 0 w (by simpa [hsz] using hc) (by simpa [hsz] using hf) (by
    intro v hv'
    unfold Builtin.zeroCells at hv'
    rw [Array.mem_toList_iff, Array.mem_map] at hv'
    obtain ⟨i, hi, rfl⟩ := hv'
    have hs : 0 < z.cells.size := by
      rcases Nat.eq_zero_or_pos z.cells.size with h | h
      · rw [Array.mem_range, h, Nat.mul_zero] at hi; omega
      · exact h
    have hlt : i % z.cells.size < z.cells.size := Nat.mod_lt _ hs
    rw [getElem!_pos z.cells _ hlt]
    exact h1 _ (Array.getElem_mem hlt))
  simp only [Nat.add_zero] at hst
  obtain ⟨m, rfl⟩ : ∃ m, n = m + 1 := ⟨n - 1, by omega⟩
  simp [Builtin.clear_, run_underlying ht, hv, hst]

theorem own_cellsD {w : World} {base g n cap : Nat} {cur : List DE} (h : w.ownsRow base 86 2 (.slice (some ⟨g, 0, none⟩) n cap) n (dcells cur)) (hl : cur.length = n) {i : Nat} (hi : i < n) :
    w.cell? ⟨g, i * 2, none⟩ = some (dat cur i).rv ∧ w.cell? ⟨g, i * 2 + 1, none⟩ = some (.int .i64 (dat cur i).n) := by
  have hd := dcells_get cur i
  rw [dat_some (l := cur) (i := i) (by omega)] at hd
  exact ⟨(h.cellAt (i * 2) (by omega)).trans hd.1, (h.cellAt (i * 2 + 1) (by omega)).trans hd.2⟩
theorem own_setD {w : World} {base g n cap : Nat} {cur : List DE} (h : w.ownsRow base 86 2 (.slice (some ⟨g, 0, none⟩) n cap) n (dcells cur)) (i : Nat) (d : DE) :
    ((w.setCell ⟨g, i * 2, none⟩ d.rv).setCell ⟨g, i * 2 + 1, none⟩ (.int .i64 d.n)).ownsRow base 86 2 (.slice (some ⟨g, 0, none⟩) n cap) n (dcells (cur.set i d)) := by
  rw [dcells_set]
  exact ((h.stored _ _).1.stored _ _).1

/-- where the deleting stands: i elements kept of the first j -/
structure Del (q : DE → Bool) (es cur : List DE) (i j : Nat) : Prop where
  len : cur.length = es.length
  ij : i < j
  kept : cur.take i = (es.take j).filter fun d => !q d
  rest : ∀ k, j ≤ k → dat cur k = dat es k
  mem : ∀ d, d ∈ cur → d ∈ es
theorem take_snocD {es : List DE} {j : Nat} (hj : j < es.length) : es.take (j + 1) = es.take j ++ [dat es j] := by
  rw [List.take_succ_eq_append_getElem hj, dat_eq hj]
theorem Del.start {q : DE → Bool} {es : List DE} {i : Nat} (hi : i < es.length) (h1 : ∀ j, j < i → q (dat es j) = false) (h2 : q (dat es i) = true) : Del q es es i (i + 1) := by
  refine ⟨rfl, Nat.lt_succ_self _, ?_, fun _ _ => rfl, fun _ h => h⟩
  rw [take_snocD hi, List.filter_append]
  have e1 : (es.take i).filter (fun d => !q d) = es.take i := List.filter_eq_self.2 fun d hd => by
    obtain ⟨j, hj, rfl⟩ := List.mem_take_iff_getElem.1 hd
    have := h1 j (by omega)
    rw [dat_eq (by omega)] at this
    simp [this]
  rw [e1]
  simp [h2]
theorem Del.skip {q : DE → Bool} {es cur : List DE} {i j : Nat} (h : Del q es cur i j) (hj : j < es.length) (hq : q (dat es j) = true) : Del q es cur i (j + 1) := by
  refine ⟨h.len, by have := h.ij; omega, ?_, fun k hk => h.rest k (by omega), h.mem⟩
  rw [take_snocD hj, List.filter_append, ← h.kept]
  simp [hq]
theorem Del.keep {q : DE → Bool} {es cur : List DE} {i j : Nat} (h : Del q es cur i j) (hj : j < es.length) (hq : q (dat es j) = false) : Del q es (cur.set i (dat es j)) (i + 1) (j + 1) := by
  have h1 := h.ij
  have h2 := h.len
  refine ⟨by rw [List.length_set]; exact h.len, by omega, ?_, fun k hk => ?_, fun d hd => ?_⟩
  · rw [take_snocD hj, List.filter_append, ← h.kept, take_snocD (by rw [List.length_set]; omega), List.take_set_of_le (Nat.le_refl i), dat_set _ (by omega), if_pos rfl]
    simp [hq]
  · rw [dat_set _ (by omega), if_neg (by omega)]
    exact h.rest k (by omega)
  · rcases List.mem_or_eq_of_mem_set hd with hd | hd
    · exact h.mem d hd
    · rw [hd]; exact dat_mem hj
theorem Del.last {q : DE → Bool} {es cur : List DE} {i : Nat} (h : Del q es cur i es.length) : cur.take i = es.filter fun d => !q d := by
  rw [h.kept, List.take_length]
theorem dcells_take (l : List DE) (i : Nat) : (dcells l).take (i * 2) = dcells (l.take i) := by
  induction l generalizing i with
  | nil => simp [dcells]
  | cons d l ih =>
    cases i with
    | zero => simp [dcells]
    | succ i => rw [dcells_cons, show (i + 1) * 2 = i * 2 + 1 + 1 by omega, List.take_succ_cons, List.take_succ_cons, ih, List.take_succ_cons, dcells_cons]

/-- what DeleteFunc leaves -/
def DelPost (base : Nat) (F : Nat → Prop) (v : Value) (es : List DE) (q : DE → Bool) (w : World) (e : Ending) (w' : World) : Prop :=
  ∃ v', e = .returned v' ∧ OwnDs w' base F v' (es.filter fun d => !q d) ∧ Tab.Ext (fun b => v.ownBlock = some b) w w'

set_option maxHeartbeats 2000000 in
theorem deleteD_any (f : FuncId) (hcf : ∀ (args : Array Value) (w : World), (callFunc f args).run Tryz.prog w = .ok (.enter f args) w) (q : DE → Bool)
    (hf : ∀ (F : Nat → Prop) (d : DE) (w : World), d.good w F → Calls Tryz.prog f #[d.val] w fun e w' => e = .returned (.bool (q d)) ∧ Below w.heap.size w w')
    (base : Nat) (F : Nat → Prop) (v : Value) (es : List DE) (w : World) (ho : OwnDs w base F v es) (hn : es.length < 1073741824) :
    Calls Tryz.prog 114 #[v, .func (.func f) #[] #[]] w (DelPost base F v es q w) := by
  have hidx := indexD_any f hcf (fun b => base ≤ b) F v es hn (fun i => q (dat es i)) (fun _ w1 => Below w.heap.size w w1) (fun _ w1 => Below w.heap.size w w1) w (Below.refl _ _) (fun _ w1 h => ho.rd.later h) (fun i w1 hi h => by
    refine (hf F (dat es i) w1 ?_).mono ?_
    · exact ((ho.rd.later h).good _ (dat_mem hi))
    · rintro e w2 ⟨rfl, hb⟩
      exact ⟨rfl, fun _ => h.trans (hb.mono h.size), fun _ => h.trans (hb.mono h.size)⟩)
  have HIDX := Lib.hid hidx
  have HF := Lib.hid hf
  have HO := Lib.hid ho
  obtain ⟨hl, A, c, rfl, g1, g2, -⟩ := SL.of_own ho.own
  unfold maxLen at g2
  clear hidx hf ho hl
  obtain ⟨n, hln⟩ : ∃ n, es.length = n := ⟨_, rfl⟩
  have HN := Lib.hid hln
  rw [hln] at g1 hn ⊢
  have HIDX2 := Lib.hid (hln ▸ HIDX.out : Calls Tryz.prog _ #[.slice A n c, _] w _)
  clear hln HIDX
  go_enter Tryz.func114, Tryz.ntmps114
  go_wp2_with fail
  refine HIDX2.out.mono ?_
  rintro e w1 (⟨rfl, o1, o2⟩ | ⟨i, hi, rfl, o1, o2, o3⟩)
  · have O := Lib.hid (And.intro o1 o2)
    clear o1 o2
    go_wp2_with fail
    go_ret
    refine ⟨_, rfl, ?_, Tab.Ext.of_below O.out.2⟩
    have e1 : es.filter (fun d => !q d) = es := List.filter_eq_self.2 fun d hd => by
      obtain ⟨j, hj, rfl⟩ := List.mem_iff_getElem.1 hd
      have := O.out.1 j (by rw [← HN.out]; exact hj)
      rw [dat_eq hj] at this
      simp [this]
    rw [e1]
    have := HO.out.later O.out.2
    rw [HN.out] at this
    exact this
  · have O := Lib.hid (And.intro o1 (And.intro o2 o3))
    clear o1 o2 o3
    obtain ⟨g, cap, hv, hbg, hgl, -, -⟩ := own_form HO.out.own (by rw [HN.out]; omega)
    injection hv with e1 _ e2
    subst e1
    subst e2
    have hne : ((i : Int) == -1) = false := by simp
    have HO1 := Lib.hid (HO.out.later O.out.2.2)
    have hw1 : w.heap.size ≤ w1.heap.size := O.out.2.2.size
    rw [HN.out] at HO1
    go_wp2_with fail
    go_loopw [5, 6, 7] (fun a b _ wr => ∃ (x j : Nat) (cur : List DE), a = .int .i64 x ∧ b = .int .i64 j ∧ x < j ∧ j ≤ n ∧ Del q es cur x j ∧ wr.ownsRow base 86 2 (.slice (some ⟨g, 0, none⟩) n c) n (dcells cur) ∧ Tab.Ext (fun b => b = g) w1 wr) (fun _ b _ _ => n - (intOf b).toNat)
    case atStart => exact ⟨i, i + 1, es, rfl, by go_num, by omega, by omega, Del.start (by rw [HN.out]; exact hi) O.out.2.1 O.out.1, by have := HO1.out.own; rw [HN.out] at this; exact this, Tab.Ext.refl _ _⟩
    case round =>
      obtain ⟨x, j, cur, rfl, rfl, hxj, hjn, hd, hown, hext⟩ := hrel
      have HD := Lib.hid hd
      have HOWN := Lib.hid hown
      have hlen : cur.length = n := hd.len.trans HN.out
      have HLEN := Lib.hid hlen
      have hgw : g < wr.heap.size := by have := hext.size; omega
      have hfz := fun k => hown.frozenAt k
      by_cases hlt : j < n
      · have C := own_cellsD hown hlen hlt
        have hr := hd.rest j (Nat.le_refl _)
        rw [hr] at C
        have hgd := (HO1.out.good _ (dat_mem (l := es) (i := j) (by rw [HN.out]; exact hlt)))
        have hgd2 : (dat es j).good wr (fun b => F b ∧ b ≠ g) := ⟨(hgd.row.mono (F' := fun b => F b ∧ b ≠ g) (fun b hb _ => ⟨hb.1, fun e => hb.2 (by simp [Value.ownBlock, e])⟩)).ext hext (fun b hb => hb.2), hgd.n⟩
        have CX := own_cellsD hown hlen (show x < n by omega)
        have HK := Lib.hid (fun hq => hd.keep (q := q) (by rw [HN.out]; exact hlt) hq)
        have HS := Lib.hid (fun hq => hd.skip (q := q) (by rw [HN.out]; exact hlt) hq)
        generalize dat es j = d at *
        obtain ⟨rv, row, k⟩ := d
        obtain ⟨A1, c1, _, _, e1, _⟩ := hgd2.row.shape
        simp only at e1 C
        subst e1
        obtain ⟨C1, C2⟩ := C
        obtain ⟨CX1, CX2⟩ := CX
        have HGD := Lib.hid hgd2
        clear hgd hgd2 hr hd hown hlen
        go_wp2_with fail
        have hbn : Below wr.heap.size wr (wr.alloc (.cells #[.slice A1 row.length c1, .int .i64 k] 86)) := below_new wr _
        have hb0 : Blk (wr.alloc (.cells #[.slice A1 row.length c1, .int .i64 k] 86)) wr.heap.size 86 [.slice A1 row.length c1, .int .i64 k] := Blk.new wr _ _
        have hsW : (wr.alloc (.cells #[.slice A1 row.length c1, .int .i64 k] 86)).heap.size = wr.heap.size + 1 := by simp
        refine (HF.out F ⟨.slice A1 row.length c1, row, k⟩ _ ⟨(HGD.out.row.mono (fun b hb _ => hb.1)).later hbn, HGD.out.n⟩).mono ?_
        rintro e w2 ⟨rfl, hb⟩
        have q1 := wcell2 (hb0.below hb (by rw [hsW]; omega))
        have hbw := hbn.trans (hb.mono (by rw [hsW]; omega))
        have hgw2 : g < w2.heap.size := by have := hbw.size; omega
        have z1 : w2.cell? ⟨g, x * 2, none⟩ = some (dat cur x).rv := (hbw.cell (p := ⟨g, x * 2, none⟩) hgw).trans CX1
        have z2 : w2.cell? ⟨g, x * 2 + 1, none⟩ = some (.int .i64 (dat cur x).n) := (hbw.cell (p := ⟨g, x * 2 + 1, none⟩) hgw).trans CX2
        have hfz2 : ∀ k, w2.frozen? ⟨g, k, none⟩ = false := fun k => (hbw.frozen (p := ⟨g, k, none⟩) hgw).trans (hfz k)
        have hext2 : Tab.Ext (fun b => b = g) w1 w2 := hext.trans (Tab.Ext.of_below hbw)
        have HOWN2 := Lib.hid (ownsRow_ext HOWN.out (Tab.Ext.of_below hbw))
        cases hq : q ⟨.slice A1 row.length c1, row, k⟩ with
        | true =>
          have HS2 := Lib.hid (HS.out hq)
          have hxx : x < j + 1 := by omega
          clear hq hb hb0 hbn hfz C1 C2 CX1 CX2 hsW hbw
          go_wp2_with fail
          go_roundw
          case rel => exact ⟨x, j + 1, cur, rfl, by go_num, hxx, hlt, HS2.out, HOWN2.out, hext2⟩
          case measure => simp [intOf] <;> omega
        | false =>
          have HK2 := Lib.hid (HK.out hq)
          have HOWN3 := Lib.hid (own_setD HOWN2.out x ⟨.slice A1 row.length c1, row, k⟩)
          have hext3 := hext2.trans (ext_set2 (g := g) (Tab.Ext.refl _ w2) (x * 2) (.slice A1 row.length c1) (.int .i64 k))
          have hxn : x < n := by omega
          clear hq hb hb0 hbn hfz C1 C2 CX1 CX2 hsW hbw
          go_wp2_with fail
          go_roundw
          case rel => exact ⟨x + 1, j + 1, _, by go_num, by go_num, by omega, hlt, HK2.out, HOWN3.out, hext3⟩
          case measure => simp [intOf] <;> omega
      · obtain rfl : j = n := by omega
        have hcl : ∀ ty, (Builtin.clear_ #[23] ty #[.slice (some ⟨g, x * 2, none⟩) (j - x) (c - x)]).run Tryz.prog wr = .ok (.tuple #[]) (wr.setCells g (x * 2) (Builtin.zeroCells (Value.agg #[.slice none 0 0, .int .i64 0]).cells (j - x)).toList) :=
          fun ty => run_clear_k wr 23 86 ty (.agg #[.slice none 0 0, .int .i64 0]) underD (fun w => by kernel_rfl) (by simp [Value.cells, Value.oneCell']) g (x * 2) (j - x) (c - x) (by omega)
            (fun t ht => by
              have ht' : t < (j - x) * 2 := ht
              have := hown.cellAt (x * 2 + t) (by omega)
              rw [this, List.getElem?_eq_getElem (by rw [dcells_length, hlen]; omega)]
              rfl) (fun t ht => hfz _)
        obtain ⟨xs', p1, p2, p3⟩ := own_setCells (base := base) (Builtin.zeroCells (Value.agg #[.slice none 0 0, .int .i64 0]).cells (j - x)).toList (x * 2) wr _ hown
        have P1 := Lib.hid (own_shrink p1 (i := x) (by omega))
        rw [p2, dcells_take] at P1
        have P3 := Lib.hid (hext.trans p3)
        have hlt2 : ¬ ((j : Int) < (j : Int)) := by omega
        generalize wr.setCells g (x * 2) (Builtin.zeroCells (Value.agg #[.slice none 0 0, .int .i64 0]).cells (j - x)).toList = wf at *
        clear p1 p2 p3 hd hown hlen hfz
        go_wp2_with fail
        go_ret
        have e1 : dcells (cur.take x) = dcells (es.filter fun d => !q d) := by
          have := HD.out
          rw [← HN.out] at this
          rw [this.last]
        have e2 : x = (es.filter fun d => !q d).length := by
          have := HD.out
          rw [← HN.out] at this
          have h2 := congrArg List.length this.last
          rw [List.length_take, HLEN.out] at h2
          omega
        have hp := P1.out
        rw [e1] at hp
        refine ⟨_, rfl, ⟨by rw [← e2]; exact hp, fun d hd => ?_⟩, ?_⟩
        · have hm := (List.mem_filter.1 hd).1
          have hg := HO1.out.good d hm
          exact ⟨(hg.row.mono (F' := fun b => F b ∧ b ≠ g) (fun b hb _ => ⟨hb.1, fun e => hb.2 (by simp [Value.ownBlock, e])⟩)).ext P3.out (fun b hb => hb.2) |>.mono (fun b hb _ => ⟨hb.1, fun e => hb.2 (by simpa [Value.ownBlock] using e.symm)⟩), hg.n⟩
        · exact (Tab.Ext.of_below O.out.2.2).trans (P3.out.mono fun k _ e => by simp [Value.ownBlock, e])
end Go.Proofs.YthejmnmkbldacaaGreatDoor

namespace Go.Proofs.YthejmnmkbldacaaGreatDoor
open Go.RowKit
attribute [local go_sem] Tab.Env.ev Tab.Env.get

set_option maxHeartbeats 400000 in
theorem within9_any (n low high : Int) (w : World) : Calls Tryz.prog 70 #[.int .i64 n, .int .i64 low, .int .i64 high] w fun e w' => e = .returned (.bool (decide (low ≤ n ∧ n ≤ high))) ∧ w = w' := by
  by_cases h : low ≤ n
  · by_cases h2 : n ≤ high
    · rw [decide_eq_true (And.intro h h2)]
      go_enter Tryz.func70, Tryz.ntmps70
      go_wp2
      go_ret
      exact ⟨rfl, rfl⟩
    · rw [decide_eq_false (fun h' => h2 h'.2)]
      have h3 : high < n := by omega
      clear h2
      go_enter Tryz.func70, Tryz.ntmps70
      go_wp2
      go_ret
      exact ⟨ret_bool (decide_eq_false (by omega)), rfl⟩
  · rw [decide_eq_false (fun h' => h h'.1)]
    have h3 : n < low := by omega
    clear h
    go_enter Tryz.func70, Tryz.ntmps70
    go_wp2
    go_ret
    exact ⟨rfl, rfl⟩

/-- how often a row occurs -/
def totR (row : List VD) (l : List DE) : Int := tot cmpD DE.n ⟨undef, row, 0⟩ l
def hiN (row : List VD) (d : DE) : Int := if cmpL d.row row = 0 then d.n / 4294967296 else 0
def loN (row : List VD) (d : DE) : Int := if cmpL d.row row = 0 then d.n % 4294967296 else 0
theorem hi_lo (row : List VD) : ∀ l : List DE, sumN (hiN row) l * 4294967296 + sumN (loN row) l = totR row l
  | [] => rfl
  | d :: l => by
    have ih := hi_lo row l
    unfold totR at ih ⊢
    simp only [sumN, tot]
    have e : cmpD d ⟨undef, row, 0⟩ = cmpL d.row row := rfl
    rw [e, ← ih]
    unfold hiN loN
    split <;> omega
theorem hi_bound (row : List VD) : ∀ l : List DE, (∀ d, d ∈ l → I64 d.n) → -(l.length : Int) * 2147483648 ≤ sumN (hiN row) l ∧ sumN (hiN row) l ≤ l.length * 2147483648 ∧ 0 ≤ sumN (loN row) l ∧ sumN (loN row) l ≤ l.length * 4294967296
  | [], _ => by simp [sumN]
  | d :: l, h => by
    have ih := hi_bound row l fun x hx => h x (List.mem_cons_of_mem _ hx)
    have hd := h d (by simp)
    unfold I64 at hd
    simp only [sumN, List.length_cons]
    unfold hiN loN at *
    split <;> omega

/-- what wideTimes answers of a sum -/
def wideP (t : Int) : Int × Bool := if -2199023255552 ≤ t ∧ t < 2199023255552 then (t, false) else (0, true)
theorem wideP_timesR (t : Int) : timesR t = if (wideP t).2 = true then 1099511627777 else (wideP t).1 := by
  unfold timesR wideP
  split <;> simp
set_option maxHeartbeats 1000000 in
theorem wideTimes_any (F F' F2 : Nat → Prop) (v : Value) (l : List DE) (vr : Value) (row : List VD) (w : World) (h : RD w F F' v l) (hr : RI w F2 vr row) (hn : l.length < 4194304) :
    Calls Tryz.prog 108 #[v, vr] w fun e w' => e = .returned (.tuple #[.int .i64 (wideP (totR row l)).1, .bool (wideP (totR row l)).2]) ∧ Below w.heap.size w w' := by
  obtain ⟨A, c, rfl, hc, hm⟩ := rd_shape h
  obtain ⟨Ar, cr, _, _, er, _⟩ := hr.shape
  subst er
  have HR := Lib.hid h
  have HRR := Lib.hid hr
  clear h hr
  unfold maxLen at hm
  obtain ⟨n, hln⟩ : ∃ n, l.length = n := ⟨_, rfl⟩
  rw [hln] at hc hn ⊢
  have HN := Lib.hid hln
  clear hln
  obtain ⟨⟨pn, pw⟩, hp⟩ : ∃ p, wideP (totR row l) = p := ⟨_, rfl⟩
  rw [hp]
  have HPP := Lib.hid hp
  clear hp
  go_enter Tryz.func108, Tryz.ntmps108
  go_wp2_with fail
  go_loopw [6, 7, 9, 12] (fun hv lv _ i wr => ∃ (k : Nat) (H L : Int), k ≤ n ∧ i = .int .i64 k ∧ hv = .int .i64 H ∧ lv = .int .i64 L ∧ Hid (H = sumN (hiN row) (l.take k) ∧ L = sumN (loN row) (l.take k)) ∧ Below w.heap.size w wr) (fun _ _ _ i _ => n - (intOf i).toNat)
  case atStart => exact ⟨0, 0, 0, Nat.zero_le _, rfl, rfl, rfl, Lib.hid ⟨rfl, rfl⟩, Below.refl _ _⟩
  case round =>
    obtain ⟨k, H, L, hk, rfl, rfl, rfl, HI, hbel⟩ := hrel
    have HB := Lib.hid hbel
    have hbd := hi_bound row (l.take k) (fun d hd => (HR.out.good d (List.mem_of_mem_take hd)).n)
    rw [← HI.out.1, ← HI.out.2, List.length_take, HN.out, Nat.min_eq_left hk] at hbd
    by_cases hlt : k < n
    · have hkl : k < l.length := by rw [HN.out]; exact hlt
      obtain ⟨b, off, c', A1, m1, c1, rw1, nk, hv, -, -, hb, he, hg, x0, x1⟩ := (HR.out.later hbel).at_ (i := k) hkl
      injection hv with e1 e0 e2
      subst e1
      subst e2
      have HT := Lib.hid (show l.take (k + 1) = l.take k ++ [⟨.slice A1 m1 c1, rw1, nk⟩] by rw [take_snocD hkl, he])
      have HROW := Lib.hid (show RI wr F' (.slice A1 m1 c1) rw1 from hg.row)
      have hnk := hg.n
      unfold I64 at hnk
      simp only at hnk
      have HCALL := Lib.hid (fun W (hW : Below wr.heap.size wr W) => compareRowsR_any F' F2 _ _ rw1 row W (HROW.out.later hW) ((HRR.out.later hbel).later hW))
      clear e0 he hg hbel
      go_wp2_with fail
      have hbn := below_new wr (.cells #[.slice A1 m1 c1, .int .i64 nk] 86)
      have bo := Blk.new wr 86 [.slice A1 m1 c1, .int .i64 nk]
      refine (HCALL.out _ hbn).mono ?_
      rintro e w1 ⟨rfl, hb1⟩
      have q := wcell2 (bo.below hb1 bo.lt)
      have HB2 := Lib.hid ((HB.out.trans (hbn.mono HB.out.size)).trans (hb1.mono (HB.out.trans (hbn.mono HB.out.size)).size))
      clear hb1 HCALL hbn bo
      by_cases hz : cmpL rw1 row = 0
      · have hd : (cmpL rw1 row == 0) = true := by simp [hz]
        have HX := Lib.hid (show H + nk / 4294967296 = sumN (hiN row) (l.take (k + 1)) ∧ L + (nk - nk / 4294967296 * 4294967296) = sumN (loN row) (l.take (k + 1)) by
          rw [HT.out, sumN_append, sumN_append, ← HI.out.1, ← HI.out.2]
          simp only [sumN, hiN, loN, if_pos hz]
          omega)
        clear hz
        go_wp2_with fail
        go_roundw
        case rel => exact ⟨k + 1, _, _, hlt, by go_num, rfl, rfl, HX, HB2.out⟩
        case measure => simp [intOf] <;> omega
      · have hd : (cmpL rw1 row == 0) = false := by simp [hz]
        have HX := Lib.hid (show H = sumN (hiN row) (l.take (k + 1)) ∧ L = sumN (loN row) (l.take (k + 1)) by
          rw [HT.out, sumN_append, sumN_append, ← HI.out.1, ← HI.out.2]
          simp only [sumN, hiN, loN, if_neg hz]
          omega)
        clear hz
        go_wp2_with fail
        go_roundw
        case rel => exact ⟨k + 1, _, _, hlt, by go_num, rfl, rfl, HX, HB2.out⟩
        case measure => simp [intOf] <;> omega
    · obtain rfl : k = n := by omega
      have htot := hi_lo row l
      have htk : l.take k = l := List.take_of_length_le (by rw [HN.out]; omega)
      rw [htk] at HI
      rw [← HI.out.1, ← HI.out.2] at htot
      generalize totR row l = t at htot HPP
      clear HI
      have HTT := Lib.hid htot
      go_wp2_with fail
      refine (within9_any _ _ _ _).mono ?_
      rintro e w1 ⟨rfl, rfl⟩
      by_cases hin : -512 ≤ H + L / 4294967296 ∧ H + L / 4294967296 ≤ 511
      · have hd : decide ((-512 : Int) ≤ H + L / 4294967296 ∧ H + L / 4294967296 ≤ 511) = true := decide_eq_true hin
        have HE := Lib.hid (show (H + L / 4294967296) * 4294967296 + (L - L / 4294967296 * 4294967296) = t by omega)
        have HP := HPP.out.symm.trans (show wideP t = (t, false) from if_pos (by omega))
        injection HP with p1 p2
        subst p1
        subst p2
        have hs := IntWalk.i64_in ((H + L / 4294967296) * 4294967296) (by omega)
        rw [hd]
        clear hd htot
        go_wp2_with fail
        go_ret2
        exact ⟨ret_eq (by rw [← HE.out]; rfl), HB.out⟩
      · have hd : decide ((-512 : Int) ≤ H + L / 4294967296 ∧ H + L / 4294967296 ≤ 511) = false := decide_eq_false hin
        have HP := HPP.out.symm.trans (show wideP t = (0, true) from if_neg (by omega))
        injection HP with p1 p2
        subst p1
        subst p2
        rw [hd]
        clear hd hin htot
        go_wp2_with fail
        go_ret2
        exact ⟨rfl, HB.out⟩

theorem totR_filter (row : List VD) (l : List DE) : totR row (l.filter fun d => cmpL d.row row == 0) = totR row l := by
  induction l with
  | nil => rfl
  | cons d l ih =>
    unfold totR at ih ⊢
    have e : ∀ d : DE, cmpD d ⟨undef, row, 0⟩ = cmpL d.row row := fun _ => rfl
    by_cases hz : cmpL d.row row = 0
    · rw [List.filter_cons_of_pos (by simp [hz])]
      simp only [tot]
      rw [ih]
    · rw [List.filter_cons_of_neg (by simp [hz])]
      simp only [tot]
      rw [ih, e, if_neg hz, Int.zero_add]

set_option maxHeartbeats 1000000 in
theorem times9_any (F F' F2 : Nat → Prop) (v : Value) (l : List DE) (vr : Value) (row : List VD) (w : World) (h : RD w F F' v l) (hr : RI w F2 vr row) (hn : l.length < 4194304) :
    Calls Tryz.prog 60 #[v, vr] w fun e w' => e = .returned (.int .i64 (timesR (totR row l))) ∧ Below w.heap.size w w' := by
  obtain ⟨A, c, rfl, hc, hm⟩ := rd_shape h
  obtain ⟨Ar, cr, _, _, er, _⟩ := hr.shape
  subst er
  have HR := Lib.hid h
  have HRR := Lib.hid hr
  clear h hr
  unfold maxLen at hm
  obtain ⟨n, hln⟩ : ∃ n, l.length = n := ⟨_, rfl⟩
  rw [hln] at hc hn ⊢
  have HN := Lib.hid hln
  clear hln
  obtain ⟨pn, hp⟩ : ∃ p, timesR (totR row l) = p := ⟨_, rfl⟩
  rw [hp]
  have HPP := Lib.hid hp
  clear hp
  go_enter Tryz.func60, Tryz.ntmps60
  go_wp2_with fail
  go_loopw [5, 7, 12] (fun s _ i wr => ∃ (k : Nat) (v : Value), k ≤ n ∧ v = s ∧ i = .int .i64 k ∧ OwnDs wr w.heap.size (fun b => F' b ∧ b < w.heap.size) v ((l.take k).filter fun d => cmpL d.row row == 0) ∧ Below w.heap.size w wr) (fun _ _ i _ => n - (intOf i).toNat)
  case atStart => exact ⟨0, _, Nat.zero_le _, rfl, rfl, OwnDs.nil _ _ _, Below.refl _ _⟩
  case round =>
    obtain ⟨k, v, hk, rfl, rfl, ho, hbel⟩ := hrel
    have HB := Lib.hid hbel
    have HO := Lib.hid ho
    have hfl : ((l.take k).filter fun d => cmpL d.row row == 0).length ≤ k := Nat.le_trans (List.length_filter_le _ _) (by rw [List.length_take]; omega)
    clear ho
    by_cases hlt : k < n
    · have hkl : k < l.length := by rw [HN.out]; exact hlt
      obtain ⟨b, off, c', A1, m1, c1, rw1, nk, hv, -, -, hb, he, hg, x0, x1⟩ := (HR.out.later hbel).at_ (i := k) hkl
      injection hv with e1 e0 e2
      subst e1
      subst e2
      have HT := Lib.hid (show l.take (k + 1) = l.take k ++ [⟨.slice A1 m1 c1, rw1, nk⟩] by rw [take_snocD hkl, he])
      have HROW := Lib.hid (show RI wr F' (.slice A1 m1 c1) rw1 from hg.row)
      have HG0 := Lib.hid (show (DE.mk (.slice A1 m1 c1) rw1 nk).good w F' by have := HR.out.good _ (dat_mem hkl); rwa [he] at this)
      have HCALL := Lib.hid (fun W (hW : Below wr.heap.size wr W) => compareRowsR_any F' F2 _ _ rw1 row W (HROW.out.later hW) ((HRR.out.later hbel).later hW))
      have hz0 := hbel.size
      clear e0 he hg hbel
      go_wp2_with fail
      have hbn := below_new wr (.cells #[.slice A1 m1 c1, .int .i64 nk] 86)
      have bo := Blk.new wr 86 [.slice A1 m1 c1, .int .i64 nk]
      refine (HCALL.out _ hbn).mono ?_
      rintro e w1 ⟨rfl, hb1⟩
      have q := wcell2 (bo.below hb1 bo.lt)
      have hbx := hbn.trans (hb1.mono hbn.size)
      have HB2 := Lib.hid (HB.out.trans (hbx.mono HB.out.size))
      have HO2 := Lib.hid (HO.out.later hbx)
      have hz1 := HB2.out.size
      clear hb1 HCALL hbn bo hbx
      by_cases hz : cmpL rw1 row = 0
      · have hd : (cmpL rw1 row == 0) = true := by simp [hz]
        have HF := Lib.hid (show (l.take (k + 1)).filter (fun d => cmpL d.row row == 0) = (l.take k).filter (fun d => cmpL d.row row == 0) ++ [⟨.slice A1 m1 c1, rw1, nk⟩] by
          rw [HT.out, List.filter_append]; simp [hz])
        clear hz
        go_wp2_with (at_builtin; refine append_own2 w1 rfl (.tmp 21) (.tmp 23) 23 rfl w.heap.size 86 underD infoD rfl (by decide) _ _ _ (DE.cells ⟨.slice A1 m1 c1, rw1, nk⟩) rfl HO2.out.own rfl rfl (by simp [DE.cells, Value.oneCell']) (by omega) (by decide) (by omega) ?_)
        intro v' w2 hown' hb2 hkept
        have hgood : (DE.mk (.slice A1 m1 c1) rw1 nk).good w1 (fun b => (F' b ∧ b < w.heap.size) ∧ v.ownBlock ≠ some b) := by
          refine ⟨((HG0.out.row.mono (F' := fun b => F' b ∧ b < w.heap.size) (fun b hb h => ⟨hb, h⟩)).later HB2.out).mono (fun b hb _ => ⟨hb, fun he => ?_⟩), HG0.out.n⟩
          have := (HO.out.own.lt b he).1
          have := hb.2
          omega
        have O3 := Lib.hid (show OwnDs w2 w.heap.size (fun b => F' b ∧ b < w.heap.size) v' ((l.take (k + 1)).filter fun d => cmpL d.row row == 0) by
          rw [HF.out]
          exact HO2.out.add (e := DE.mk (.slice A1 m1 c1) rw1 nk) hown' hkept hgood)
        have hbel2 := HB2.out.trans hb2
        clear hown' hb2 hkept hgood
        go_wp2_with fail
        go_roundw
        case rel => exact ⟨k + 1, _, hlt, rfl, by go_num, O3.out, hbel2⟩
        case measure => simp [intOf] <;> omega
      · have hd : (cmpL rw1 row == 0) = false := by simp [hz]
        have O3 := Lib.hid (show OwnDs w1 w.heap.size (fun b => F' b ∧ b < w.heap.size) v ((l.take (k + 1)).filter fun d => cmpL d.row row == 0) by
          have : (l.take (k + 1)).filter (fun d => cmpL d.row row == 0) = (l.take k).filter (fun d => cmpL d.row row == 0) := by
            rw [HT.out, List.filter_append]; simp [hz]
          rw [this]
          exact HO2.out)
        clear hz
        go_wp2_with fail
        go_roundw
        case rel => exact ⟨k + 1, _, hlt, rfl, by go_num, O3.out, HB2.out⟩
        case measure => simp [intOf] <;> omega
    · obtain rfl : k = n := by omega
      have htk : l.take k = l := List.take_of_length_le (by rw [HN.out]; omega)
      rw [htk] at HO
      rw [htk] at hfl
      have HCALL := Lib.hid (wideTimes_any _ _ F2 v _ (.slice Ar row.length cr) row wr HO.out.rd (HRR.out.later hbel) (by omega))
      rw [totR_filter] at HCALL
      have HP := Lib.hid (HPP.out.symm.trans (wideP_timesR (totR row l)))
      obtain ⟨⟨x, y⟩, hxy⟩ : ∃ p, wideP (totR row l) = p := ⟨_, rfl⟩
      rw [hxy] at HCALL HP
      clear hxy
      go_wp2_with fail
      refine HCALL.out.mono ?_
      rintro e w1 ⟨rfl, hb1⟩
      have HB2 := Lib.hid (HB.out.trans (hb1.mono HB.out.size))
      clear hb1 HCALL
      cases y with
      | true =>
        go_wp2_with fail
        go_ret
        exact ⟨ret_int HP.out.symm, HB2.out⟩
      | false =>
        go_wp2_with fail
        go_ret
        exact ⟨ret_int HP.out.symm, HB2.out⟩
end Go.Proofs.YthejmnmkbldacaaGreatDoor
