/-
  What is proved: the state of a sort of a row of differences; swapRange exchanges two parts. Conditions: none.
  What is proved: slices.DeleteFunc on a row of differences of the call's own. Conditions: none.
  What is proved: NewGate, Mark, Idle of a gate. Conditions: none.
  What is proved: what utf8.ValidString answers, laid from the library's contract. Conditions: the tables of unicode/utf8 lie as they are laid.
-/
import Derived.Test.YthejmnmkbldacaaDoorPk14
import Derived.Laws.IdiomCopy
import Derived.Test.YthejmnmkbldacaaDoorPk13
import Derived.Lib.ValidLaws
import Derived.Shelf.Unicode.ValidAny
set_option linter.all false
namespace Go.Proofs.YthejmnmkbldacaaDoor
open Go.RowKit
attribute [local go_sem] Tab.Env.ev Tab.Env.get

/-- a function that compares two differences by their rows -/
structure CmpOK (f : FuncId) : Prop where
  cf : ∀ (args : Array Value) (w : World), (callFunc f args).run Tryd.prog w = .ok (.enter f args) w
  calls : ∀ (F F' : Nat → Prop) (d e : DE) (w : World), d.good w F → e.good w F' → Calls Tryd.prog f #[d.val, e.val] w fun r w' => r = .returned (.int .i64 (cmpD d e)) ∧ Below w.heap.size w w'
theorem canonical1_ok : CmpOK 77 := ⟨fun _ _ => by simp [go_sem], canonical1_any⟩
theorem good_dat {l : List DE} {w : World} {F : Nat → Prop} (hg : ∀ d, d ∈ l → d.good w F) {i : Nat} (hi : i < l.length) : (dat l i).good w F := hg _ (dat_mem hi)

theorem ext_set2 {g : Nat} {w w' : World} (h : Tab.Ext (fun k => k = g) w w') (i : Nat) (u v : Value) : Tab.Ext (fun k => k = g) w ((w'.setCell ⟨g, i, none⟩ u).setCell ⟨g, i + 1, none⟩ v) :=
  (h.setCell (p := ⟨g, i, none⟩) (.inl rfl) u).setCell (p := ⟨g, i + 1, none⟩) (.inl rfl) v
/-- a row of differences that is being sorted: w0 the world at first, l0 the row at first -/
structure ST (g cap : Nat) (F : Nat → Prop) (n : Nat) (w0 wr : World) (l : List DE) : Prop where
  own : OwnD wr g cap l
  len : l.length = n
  small : n < 1073741824
  good : ∀ d, d ∈ l → d.good wr F
  far : ∀ b, F b → b ≠ g
  ext : Tab.Ext (fun k => k = g) w0 wr
section
variable {g cap n : Nat} {F : Nat → Prop} {w0 wr w' : World} {l : List DE}
theorem ST.lt (h : ST g cap F n w0 wr l) : g < wr.heap.size := h.own.lt
theorem ST.caps (h : ST g cap F n w0 wr l) : n ≤ cap ∧ cap ≤ 9223372036854775807 := by
  obtain ⟨_, _, h1, h2⟩ := h.own
  rw [h.len] at h1
  exact ⟨h1, h2⟩
theorem ST.start {w : World} (h : OwnD w g cap l) (hs : l.length < 1073741824) (hg : ∀ d, d ∈ l → d.good w F) (hF : ∀ b, F b → b ≠ g) : ST g cap F l.length w w l := ⟨h, rfl, hs, hg, hF, Tab.Ext.refl _ _⟩
theorem ST.rebase (h : ST g cap F n w0 wr l) : ST g cap F n wr wr l := ⟨h.own, h.len, h.small, h.good, h.far, Tab.Ext.refl _ _⟩
theorem ST.onto {w : World} (h : ST g cap F n w0 wr l) (h0 : Tab.Ext (fun k => k = g) w w0) : ST g cap F n w wr l := ⟨h.own, h.len, h.small, h.good, h.far, h0.trans h.ext⟩
/-- nothing that stood has changed -/
theorem ST.later (h : ST g cap F n w0 wr l) (hw : Tab.Ext (fun _ => False) wr w') : ST g cap F n w0 w' l :=
  ⟨h.own.ext hw id, h.len, h.small, fun d hd => (h.good d hd).ext hw (fun _ _ => id), h.far, h.ext.trans (hw.mono fun _ _ h => h.elim)⟩
theorem ST.laterd (h : ST g cap F n w0 wr l) (hw : Tab.Ext (fun _ => False) wr.drew w') : ST g cap F n w0 w' l := h.later ((Tab.Ext.refl _ wr).drew.trans hw)
/-- the two at i and j have changed places -/
theorem ST.swap (h : ST g cap F n w0 wr l) {i j : Nat} (hi : i < n) (hj : j < n) : ST g cap F n w0 ((((wr.drew.setCell ⟨g, i * 2, none⟩ (dat l j).rv).setCell ⟨g, i * 2 + 1, none⟩ (.int .i64 (dat l j).n)).setCell ⟨g, j * 2, none⟩ (dat l i).rv).setCell ⟨g, j * 2 + 1, none⟩ (.int .i64 (dat l i).n)) (swapD l i j) := by
  have hl := h.len
  have e1 : Tab.Ext (fun k => k = g) wr ((((wr.drew.setCell ⟨g, i * 2, none⟩ (dat l j).rv).setCell ⟨g, i * 2 + 1, none⟩ (.int .i64 (dat l j).n)).setCell ⟨g, j * 2, none⟩ (dat l i).rv).setCell ⟨g, j * 2 + 1, none⟩ (.int .i64 (dat l i).n)) :=
    ext_set2 (ext_set2 (Tab.Ext.refl _ wr).drew _ _ _) _ _ _
  have ho : OwnD wr.drew g cap l := h.own.keep rfl
  have h1 := ho.set (i := i) (by omega) (dat l j)
  have h2 := h1.set (i := j) (by simpa using (by omega : j < l.length)) (dat l i)
  refine ⟨h2, by rw [swapD_length]; exact hl, h.small, fun d hd => ?_, h.far, h.ext.trans e1⟩
  exact (h.good d ((swapD_perm (by omega) (by omega)).mem_iff.1 hd)).ext e1 h.far
/-- what lies at i -/
theorem ST.at_ (h : ST g cap F n w0 wr l) {i : Nat} (hi : i < n) : ∃ (A : Option Addr) (m c : Nat) (row : List VD) (k : Int), dat l i = ⟨.slice A m c, row, k⟩ ∧ (DE.mk (.slice A m c) row k).good wr F ∧
    (wr.cell? ⟨g, i * 2, none⟩ = some (.slice A m c) ∧ wr.cell? ⟨g, i * 2 + 1, none⟩ = some (.int .i64 k)) ∧ ∀ w', Tab.Ext (fun _ => False) wr.drew w' → w'.cell? ⟨g, i * 2, none⟩ = some (.slice A m c) ∧ w'.cell? ⟨g, i * 2 + 1, none⟩ = some (.int .i64 k) := by
  have hl := h.len
  have hg := good_dat h.good (i := i) (by omega)
  have hc := h.own.cells (i := i) (by omega)
  have hlt := h.lt
  generalize dat l i = d at hg hc
  obtain ⟨rv, row, k⟩ := d
  obtain ⟨A, c, _, _, e, _⟩ := hg.row.shape
  simp only at e hc
  subst e
  exact ⟨A, _, c, row, k, rfl, hg, hc, fun w' hw => ⟨(hw.cell (p := ⟨g, i * 2, none⟩) hlt id).trans hc.1, (hw.cell (p := ⟨g, i * 2 + 1, none⟩) hlt id).trans hc.2⟩⟩
theorem ST.frozen (h : ST g cap F n w0 wr l) (i : Nat) : wr.frozen? ⟨g, i, none⟩ = false := h.own.frozen i
end

theorem under23 : Tryd.prog.underlying 35 = some (.slice 39) := by kernel_rfl

set_option maxHeartbeats 2000000 in
theorem swapRange_any (g cap : Nat) (F : Nat → Prop) (l : List DE) (w0 w : World) (n : Nat) (st : ST g cap F n w0 w l) (a b m : Nat) (hab : a + m ≤ b) (hb : b + m ≤ n) (fv : Value) :
    Calls Tryd.prog 214 #[.slice (some ⟨g, 0, none⟩) n cap, .int .i64 a, .int .i64 b, .int .i64 m, fv] w fun e w' => e = .returned (.tuple #[]) ∧ ∃ l', ST g cap F n w0 w' l' ∧ Swr l l' a b m := by
  obtain ⟨hcap, hmax⟩ := st.caps
  have hsm := st.small
  have HST := Lib.hid st
  clear st
  go_enter Tryd.func214, Tryd.ntmps214
  go_wp2_with fail
  go_loopw [10] (fun i wr => ∃ (k : Nat) (l' : List DE), k ≤ m ∧ i = .int .i64 k ∧ ST g cap F n w0 wr l' ∧ Swr l l' a b k) (fun i _ => m - (intOf i).toNat)
  case atStart => exact ⟨0, l, Nat.zero_le _, rfl, HST.out, Swr.start _ _ _⟩
  case round =>
    obtain ⟨k, l', hk, rfl, hs, hr⟩ := hrel
    have HS := Lib.hid hs
    have HR := Lib.hid hr
    by_cases hlt : k < m
    · have HL := Lib.hid hr.perm.length_eq
      obtain ⟨A1, m1, c1, r1, n1, e1, g1, p1, -⟩ := hs.at_ (i := a + k) (by omega)
      obtain ⟨A2, m2, c2, r2, n2, e2, g2, p2, -⟩ := hs.at_ (i := b + k) (by omega)
      have hfz := fun i => hs.frozen i
      have HSW := Lib.hid (hs.swap (i := a + k) (j := b + k) (by omega) (by omega))
      rw [e1, e2] at HSW
      have HR2 := Lib.hid (hr.step hlt hab (by rw [← HL.out, hs.len]; exact hb))
      have wi := IntWalk.i64_in ((a : Int) + k) (by omega)
      have wj := IntWalk.i64_in ((b : Int) + k) (by omega)
      have gi : (0 : Int) ≤ (a : Int) + k ∧ (a : Int) + k < n := by omega
      have gj : (0 : Int) ≤ (b : Int) + k ∧ (b : Int) + k < n := by omega
      have ti : ((a : Int) + k).toNat = a + k := by omega
      have tj : ((b : Int) + k).toNat = b + k := by omega
      clear hs hr e1 e2 g1 g2
      go_wp2_with fail
      refine Tab.wp_region_tabC (fun _ _ => True) (Tab.stage2C 21 23 (fun b1_ b2_ w_' => w_' = if b2_ = true then ((((wr.drew.setCell ⟨g, (a + k) * 2, none⟩ (.slice A2 m2 c2)).setCell ⟨g, (a + k) * 2 + 1, none⟩ (.int .i64 n2)).setCell ⟨g, (b + k) * 2, none⟩ (.slice A1 m1 c1)).setCell ⟨g, (b + k) * 2 + 1, none⟩ (.int .i64 n1)) else if b1_ = true then ((wr.drew.setCell ⟨g, (a + k) * 2, none⟩ (.slice A2 m2 c2)).setCell ⟨g, (a + k) * 2 + 1, none⟩ (.int .i64 n2)) else wr.drew)) (by kernel_rfl) (by kernel_rfl) (fun _ => trivial) (fun _ _ _ _ _ => trivial) (Tab.stage2C_start rfl) ?_
      iterate 21 (first | (refine Tab.tab_moveE _ rfl (Tab.silent_at2 (by decide)) (.inl rfl) rfl rfl (fun _ => trivial) ?_; apply Exists.intro; refine And.intro ?_ ?_; focus (simp [Tab.Env.ev, Tab.Env.get]; rfl)) | (refine Tab.tab_moveE _ rfl (Tab.silent_at2 (by decide)) (.inr rfl) rfl rfl (fun _ => trivial) ?_; apply Exists.intro; refine And.intro ?_ ?_; focus (simp [Tab.Env.ev, Tab.Env.get]; rfl)) | refine Tab.tab_skip rfl (Tab.silent_at2 (by decide)) rfl ?_ | (refine Tab.tab_repE rfl (Tab.silent_at2 (by decide)) rfl (fun _ _ h => by cases h) rfl (fun _ => trivial) ?_; apply Exists.intro; refine And.intro (fun l w' _ _ hw => ?_) ?_; focus (go_simp; rfl)) | (refine Tab.tab_repE rfl (Tab.silent_at2 (by decide)) rfl (fun _ _ h => by cases h) rfl (fun _ => trivial) ?_; apply Exists.intro; refine And.intro (fun l w' hs hc hw => ?_) ?_; focus (first | (go_simp; rfl) | (have h := Tab.stage2C_before hc hs ⟨by kernel_rfl, by kernel_rfl⟩; simp only [Bool.false_eq_true, if_false] at h; subst h; go_simp; rfl))))
      (refine Tab.tab_act rfl rfl (fun _ _ h => by cases h) rfl (fun l w' hsz hs hc hw => ?_) ?_; focus (obtain ⟨h2_, h⟩ := Tab.stage2C_first hc hs (by kernel_rfl); simp only [Bool.false_eq_true, if_false] at h; subst h; refine ⟨((wr.drew.setCell ⟨g, (a + k) * 2, none⟩ (.slice A2 m2 c2)).setCell ⟨g, (a + k) * 2 + 1, none⟩ (.int .i64 n2)), ?_, trivial, Tab.stage2C_done1 rfl h2_ (by rw [hsz]; decide) (by decide)⟩; go_simp; done))
      iterate 1 (first | (refine Tab.tab_moveE _ rfl (Tab.silent_at2 (by decide)) (.inl rfl) rfl rfl (fun _ => trivial) ?_; apply Exists.intro; refine And.intro ?_ ?_; focus (simp [Tab.Env.ev, Tab.Env.get]; rfl)) | (refine Tab.tab_moveE _ rfl (Tab.silent_at2 (by decide)) (.inr rfl) rfl rfl (fun _ => trivial) ?_; apply Exists.intro; refine And.intro ?_ ?_; focus (simp [Tab.Env.ev, Tab.Env.get]; rfl)) | refine Tab.tab_skip rfl (Tab.silent_at2 (by decide)) rfl ?_ | (refine Tab.tab_repE rfl (Tab.silent_at2 (by decide)) rfl (fun _ _ h => by cases h) rfl (fun _ => trivial) ?_; apply Exists.intro; refine And.intro (fun l w' _ _ hw => ?_) ?_; focus (go_simp; rfl)) | (refine Tab.tab_repE rfl (Tab.silent_at2 (by decide)) rfl (fun _ _ h => by cases h) rfl (fun _ => trivial) ?_; apply Exists.intro; refine And.intro (fun l w' hs hc hw => ?_) ?_; focus (go_simp; rfl)))
      (refine Tab.tab_act rfl rfl (fun _ _ h => by cases h) rfl (fun l w' hsz hs hc hw => ?_) ?_; focus (obtain ⟨h1_, h⟩ := Tab.stage2C_second hc hs (by kernel_rfl); simp only [Bool.false_eq_true, if_false, if_true] at h; subst h; refine ⟨((((wr.drew.setCell ⟨g, (a + k) * 2, none⟩ (.slice A2 m2 c2)).setCell ⟨g, (a + k) * 2 + 1, none⟩ (.int .i64 n2)).setCell ⟨g, (b + k) * 2, none⟩ (.slice A1 m1 c1)).setCell ⟨g, (b + k) * 2 + 1, none⟩ (.int .i64 n1)), ?_, trivial, Tab.stage2C_done2 rfl h1_ (by rw [hsz]; decide) (by decide)⟩; go_simp; done))
      intro l_ a_ w_ hall_ hcl_ _ hsat_
      have hw_ := Tab.stage2C_end hcl_ hall_ (by decide)
      simp only [if_true] at hw_
      subst hw_
      refine Tab.fin_of_sat rfl ?_ hsat_
      simp only [Tab.fin, Act.put, List.setIfInBounds_toArray, List.set_cons_succ, List.set_cons_zero]
      go_wp2_with fail
      go_roundw
      case rel => exact ⟨k + 1, _, hlt, by go_num, HSW.out, HR2.out⟩
      case measure => simp [intOf]; omega
    · go_wp2_with fail
      obtain rfl : k = m := by omega
      exact bodyPost_end (results_none rfl _ _ _) rfl ⟨rfl, l', HS.out, HR.out⟩
end Go.Proofs.YthejmnmkbldacaaDoor

namespace Go.Proofs.YthejmnmkbldacaaDoor
open Go.RowKit
attribute [local go_sem] Tab.Env.ev Tab.Env.get

theorem own_setCells {base size n g cap : Nat} {e : TypeId} : ∀ (us : List Value) (o : Nat) (w : World) (xs : List Value), w.ownsRow base e size (.slice (some ⟨g, 0, none⟩) n cap) n xs →
    ∃ xs', (w.setCells g o us).ownsRow base e size (.slice (some ⟨g, 0, none⟩) n cap) n xs' ∧ xs'.take o = xs.take o ∧ Tab.Ext (fun b => b = g) w (w.setCells g o us)
  | [], _, _, xs, h => ⟨xs, h, rfl, Tab.Ext.refl _ _⟩
  | u :: us, o, w, xs, h => by
    obtain ⟨h1, h2⟩ := h.stored o u
    obtain ⟨xs', h3, h4, h5⟩ := own_setCells us (o + 1) _ _ h1
    refine ⟨xs', h3, ?_, ((Tab.Ext.refl (fun b => b = g) w).setCell (p := ⟨g, o, none⟩) (.inl rfl) u).trans h5⟩
    have := congrArg (List.take o) h4
    rw [List.take_take, List.take_take, Nat.min_eq_left (Nat.le_succ o), List.take_set_of_le (Nat.le_refl o)] at this
    exact this
theorem own_shrink {base size n g cap i : Nat} {e : TypeId} {w : World} {xs : List Value} (h : w.ownsRow base e size (.slice (some ⟨g, 0, none⟩) n cap) n xs) (hi : i ≤ n) : w.ownsRow base e size (.slice (some ⟨g, 0, none⟩) i cap) i (xs.take (i * size)) := by
  have hm : i * size ≤ n * size := Nat.mul_le_mul_right _ hi
  refine ⟨by rw [List.length_take, h.1]; omega, ?_⟩
  rcases h.2 with ⟨h', _⟩ | ⟨g', cap', cur, h', hb, hg, hnc, hcm, hcs, htake⟩
  · cases h'
  · injection h' with e1 e2 e3
    injection e1 with e1
    injection e1 with e1
    subst e1
    subst e3
    refine .inr ⟨g, cap, cur, rfl, hb, hg, by omega, hcm, hcs, ?_⟩
    rw [← htake, List.take_take, Nat.min_eq_left hm]
theorem own_form {w : World} {base e size n : Nat} {v : Value} {xs : List Value} (h : w.ownsRow base e size v n xs) (hn : 0 < n) : ∃ g cap, v = .slice (some ⟨g, 0, none⟩) n cap ∧ base ≤ g ∧ g < w.heap.size ∧ n ≤ cap ∧ cap ≤ maxLen := by
  rcases h.2 with ⟨_, h0⟩ | ⟨g, cap, cur, rfl, hb, hg, hnc, hcm, _⟩
  · omega
  · exact ⟨g, cap, rfl, hb, lt_of_block hg, hnc, hcm⟩

/-- clear, elements of several cells -/
theorem run_clear_k {P : Program} (w : World) (t e ty : TypeId) (z : Value) (ht : P.underlying t = some (.slice e)) (hv : ∀ w, (zeroValue e).run P w = .ok z w) (h1 : ∀ u ∈ z.cells, u.oneCell' = true) (b o n c : Nat) (hn : 0 < n)
    (hc : ∀ j, j < n * z.cells.size → (w.cell? ⟨b, o + j, none⟩).isSome = true) (hf : ∀ j, j < n * z.cells.size → w.frozen? ⟨b, o + j, none⟩ = false) :
    (Builtin.clear_ #[t] ty #[.slice (some ⟨b, o, none⟩) n c]).run P w = .ok (.tuple #[]) (w.setCells b o (Builtin.zeroCells z.cells n).toList) := by
  have hsz := size_zeroCells z.cells n
  have hst := run_storeCells_cells (P := P) b o (Builtin.zeroCells z.cells n).toList 0 w (by simpa [hsz] using hc) (by simpa [hsz] using hf) (by
    intro v hv'
    unfold Builtin.zeroCells at hv'
    rw [Array.mem_toList_iff, Array.mem_map] at hv'
    obtain ⟨i, hi, rfl⟩ := hv'
    have hs : 0 < z.cells.size := by
      rcases Nat.eq_zero_or_pos z.cells.size with h | h
      · rw [Array.mem_range, h, Nat.mul_zero] at hi; omega
      · exact h
    have hlt : i % z.cells.size < z.cells.size := Nat.mod_lt _ hs
    rw [getElem!_pos z.cells _ hlt]
    exact h1 _ (Array.getElem_mem hlt))
  simp only [Nat.add_zero] at hst
  obtain ⟨m, rfl⟩ : ∃ m, n = m + 1 := ⟨n - 1, by omega⟩
  simp [Builtin.clear_, run_underlying ht, hv, hst]

theorem own_cellsD {w : World} {base g n cap : Nat} {cur : List DE} (h : w.ownsRow base 39 2 (.slice (some ⟨g, 0, none⟩) n cap) n (dcells cur)) (hl : cur.length = n) {i : Nat} (hi : i < n) :
    w.cell? ⟨g, i * 2, none⟩ = some (dat cur i).rv ∧ w.cell? ⟨g, i * 2 + 1, none⟩ = some (.int .i64 (dat cur i).n) := by
  have hd := dcells_get cur i
  rw [dat_some (l := cur) (i := i) (by omega)] at hd
  exact ⟨(h.cellAt (i * 2) (by omega)).trans hd.1, (h.cellAt (i * 2 + 1) (by omega)).trans hd.2⟩
theorem own_setD {w : World} {base g n cap : Nat} {cur : List DE} (h : w.ownsRow base 39 2 (.slice (some ⟨g, 0, none⟩) n cap) n (dcells cur)) (i : Nat) (d : DE) :
    ((w.setCell ⟨g, i * 2, none⟩ d.rv).setCell ⟨g, i * 2 + 1, none⟩ (.int .i64 d.n)).ownsRow base 39 2 (.slice (some ⟨g, 0, none⟩) n cap) n (dcells (cur.set i d)) := by
  rw [dcells_set]
  exact ((h.stored _ _).1.stored _ _).1

/-- where the deleting stands: i elements kept of the first j -/
structure Del (q : DE → Bool) (es cur : List DE) (i j : Nat) : Prop where
  len : cur.length = es.length
  ij : i < j
  kept : cur.take i = (es.take j).filter fun d => !q d
  rest : ∀ k, j ≤ k → dat cur k = dat es k
  mem : ∀ d, d ∈ cur → d ∈ es
theorem take_snocD {es : List DE} {j : Nat} (hj : j < es.length) : es.take (j + 1) = es.take j ++ [dat es j] := by
  rw [List.take_succ_eq_append_getElem hj, dat_eq hj]
theorem Del.start {q : DE → Bool} {es : List DE} {i : Nat} (hi : i < es.length) (h1 : ∀ j, j < i → q (dat es j) = false) (h2 : q (dat es i) = true) : Del q es es i (i + 1) := by
  refine ⟨rfl, Nat.lt_succ_self _, ?_, fun _ _ => rfl, fun _ h => h⟩
  rw [take_snocD hi, List.filter_append]
  have e1 : (es.take i).filter (fun d => !q d) = es.take i := List.filter_eq_self.2 fun d hd => by
    obtain ⟨j, hj, rfl⟩ := List.mem_take_iff_getElem.1 hd
    have := h1 j (by omega)
    rw [dat_eq (by omega)] at this
    simp [this]
  rw [e1]
  simp [h2]
theorem Del.skip {q : DE → Bool} {es cur : List DE} {i j : Nat} (h : Del q es cur i j) (hj : j < es.length) (hq : q (dat es j) = true) : Del q es cur i (j + 1) := by
  refine ⟨h.len, by have := h.ij; omega, ?_, fun k hk => h.rest k (by omega), h.mem⟩
  rw [take_snocD hj, List.filter_append, ← h.kept]
  simp [hq]
theorem Del.keep {q : DE → Bool} {es cur : List DE} {i j : Nat} (h : Del q es cur i j) (hj : j < es.length) (hq : q (dat es j) = false) : Del q es (cur.set i (dat es j)) (i + 1) (j + 1) := by
  have h1 := h.ij
  have h2 := h.len
  refine ⟨by rw [List.length_set]; exact h.len, by omega, ?_, fun k hk => ?_, fun d hd => ?_⟩
  · rw [take_snocD hj, List.filter_append, ← h.kept, take_snocD (by rw [List.length_set]; omega), List.take_set_of_le (Nat.le_refl i), dat_set _ (by omega), if_pos rfl]
    simp [hq]
  · rw [dat_set _ (by omega), if_neg (by omega)]
    exact h.rest k (by omega)
  · rcases List.mem_or_eq_of_mem_set hd with hd | hd
    · exact h.mem d hd
    · rw [hd]; exact dat_mem hj
theorem Del.last {q : DE → Bool} {es cur : List DE} {i : Nat} (h : Del q es cur i es.length) : cur.take i = es.filter fun d => !q d := by
  rw [h.kept, List.take_length]
theorem dcells_take (l : List DE) (i : Nat) : (dcells l).take (i * 2) = dcells (l.take i) := by
  induction l generalizing i with
  | nil => simp [dcells]
  | cons d l ih =>
    cases i with
    | zero => simp [dcells]
    | succ i => rw [dcells_cons, show (i + 1) * 2 = i * 2 + 1 + 1 by omega, List.take_succ_cons, List.take_succ_cons, ih, List.take_succ_cons, dcells_cons]

/-- what DeleteFunc leaves -/
def DelPost (base : Nat) (F : Nat → Prop) (v : Value) (es : List DE) (q : DE → Bool) (w : World) (e : Ending) (w' : World) : Prop :=
  ∃ v', e = .returned v' ∧ OwnDs w' base F v' (es.filter fun d => !q d) ∧ Tab.Ext (fun b => v.ownBlock = some b) w w'

set_option maxHeartbeats 2000000 in
theorem deleteD_any (f : FuncId) (hcf : ∀ (args : Array Value) (w : World), (callFunc f args).run Tryd.prog w = .ok (.enter f args) w) (q : DE → Bool)
    (hf : ∀ (F : Nat → Prop) (d : DE) (w : World), d.good w F → Calls Tryd.prog f #[d.val] w fun e w' => e = .returned (.bool (q d)) ∧ Below w.heap.size w w')
    (base : Nat) (F : Nat → Prop) (v : Value) (es : List DE) (w : World) (ho : OwnDs w base F v es) (hn : es.length < 1073741824) :
    Calls Tryd.prog 79 #[v, .func (.func f) #[] #[]] w (DelPost base F v es q w) := by
  have hidx := indexD_any f hcf (fun b => base ≤ b) F v es hn (fun i => q (dat es i)) (fun _ w1 => Below w.heap.size w w1) (fun _ w1 => Below w.heap.size w w1) w (Below.refl _ _) (fun _ w1 h => ho.rd.later h) (fun i w1 hi h => by
    refine (hf F (dat es i) w1 ?_).mono ?_
    · exact ((ho.rd.later h).good _ (dat_mem hi))
    · rintro e w2 ⟨rfl, hb⟩
      exact ⟨rfl, fun _ => h.trans (hb.mono h.size), fun _ => h.trans (hb.mono h.size)⟩)
  have HIDX := Lib.hid hidx
  have HF := Lib.hid hf
  have HO := Lib.hid ho
  obtain ⟨hl, A, c, rfl, g1, g2, -⟩ := SL.of_own ho.own
  unfold maxLen at g2
  clear hidx hf ho hl
  obtain ⟨n, hln⟩ : ∃ n, es.length = n := ⟨_, rfl⟩
  have HN := Lib.hid hln
  rw [hln] at g1 hn ⊢
  have HIDX2 := Lib.hid (hln ▸ HIDX.out : Calls Tryd.prog _ #[.slice A n c, _] w _)
  clear hln HIDX
  go_enter Tryd.func79, Tryd.ntmps79
  go_wp2_with fail
  refine HIDX2.out.mono ?_
  rintro e w1 (⟨rfl, o1, o2⟩ | ⟨i, hi, rfl, o1, o2, o3⟩)
  · have O := Lib.hid (And.intro o1 o2)
    clear o1 o2
    go_wp2_with fail
    go_ret
    refine ⟨_, rfl, ?_, Tab.Ext.of_below O.out.2⟩
    have e1 : es.filter (fun d => !q d) = es := List.filter_eq_self.2 fun d hd => by
      obtain ⟨j, hj, rfl⟩ := List.mem_iff_getElem.1 hd
      have := O.out.1 j (by rw [← HN.out]; exact hj)
      rw [dat_eq hj] at this
      simp [this]
    rw [e1]
    have := HO.out.later O.out.2
    rw [HN.out] at this
    exact this
  · have O := Lib.hid (And.intro o1 (And.intro o2 o3))
    clear o1 o2 o3
    obtain ⟨g, cap, hv, hbg, hgl, -, -⟩ := own_form HO.out.own (by rw [HN.out]; omega)
    injection hv with e1 _ e2
    subst e1
    subst e2
    have hne : ((i : Int) == -1) = false := by simp
    have HO1 := Lib.hid (HO.out.later O.out.2.2)
    have hw1 : w.heap.size ≤ w1.heap.size := O.out.2.2.size
    rw [HN.out] at HO1
    go_wp2_with fail
    go_loopw [5, 6, 7] (fun a b _ wr => ∃ (x j : Nat) (cur : List DE), a = .int .i64 x ∧ b = .int .i64 j ∧ x < j ∧ j ≤ n ∧ Del q es cur x j ∧ wr.ownsRow base 39 2 (.slice (some ⟨g, 0, none⟩) n c) n (dcells cur) ∧ Tab.Ext (fun b => b = g) w1 wr) (fun _ b _ _ => n - (intOf b).toNat)
    case atStart => exact ⟨i, i + 1, es, rfl, by go_num, by omega, by omega, Del.start (by rw [HN.out]; exact hi) O.out.2.1 O.out.1, by have := HO1.out.own; rw [HN.out] at this; exact this, Tab.Ext.refl _ _⟩
    case round =>
      obtain ⟨x, j, cur, rfl, rfl, hxj, hjn, hd, hown, hext⟩ := hrel
      have HD := Lib.hid hd
      have HOWN := Lib.hid hown
      have hlen : cur.length = n := hd.len.trans HN.out
      have HLEN := Lib.hid hlen
      have hgw : g < wr.heap.size := by have := hext.size; omega
      have hfz := fun k => hown.frozenAt k
      by_cases hlt : j < n
      · have C := own_cellsD hown hlen hlt
        have hr := hd.rest j (Nat.le_refl _)
        rw [hr] at C
        have hgd := (HO1.out.good _ (dat_mem (l := es) (i := j) (by rw [HN.out]; exact hlt)))
        have hgd2 : (dat es j).good wr (fun b => F b ∧ b ≠ g) := ⟨(hgd.row.mono (F' := fun b => F b ∧ b ≠ g) (fun b hb _ => ⟨hb.1, fun e => hb.2 (by simp [Value.ownBlock, e])⟩)).ext hext (fun b hb => hb.2), hgd.n⟩
        have CX := own_cellsD hown hlen (show x < n by omega)
        have HK := Lib.hid (fun hq => hd.keep (q := q) (by rw [HN.out]; exact hlt) hq)
        have HS := Lib.hid (fun hq => hd.skip (q := q) (by rw [HN.out]; exact hlt) hq)
        generalize dat es j = d at *
        obtain ⟨rv, row, k⟩ := d
        obtain ⟨A1, c1, _, _, e1, _⟩ := hgd2.row.shape
        simp only at e1 C
        subst e1
        obtain ⟨C1, C2⟩ := C
        obtain ⟨CX1, CX2⟩ := CX
        have HGD := Lib.hid hgd2
        clear hgd hgd2 hr hd hown hlen
        go_wp2_with fail
        have hbn : Below wr.heap.size wr (wr.alloc (.cells #[.slice A1 row.length c1, .int .i64 k] 39)) := below_new wr _
        have hb0 : Blk (wr.alloc (.cells #[.slice A1 row.length c1, .int .i64 k] 39)) wr.heap.size 39 [.slice A1 row.length c1, .int .i64 k] := Blk.new wr _ _
        have hsW : (wr.alloc (.cells #[.slice A1 row.length c1, .int .i64 k] 39)).heap.size = wr.heap.size + 1 := by simp
        refine (HF.out F ⟨.slice A1 row.length c1, row, k⟩ _ ⟨(HGD.out.row.mono (fun b hb _ => hb.1)).later hbn, HGD.out.n⟩).mono ?_
        rintro e w2 ⟨rfl, hb⟩
        have q1 := wcell2 (hb0.below hb (by rw [hsW]; omega))
        have hbw := hbn.trans (hb.mono (by rw [hsW]; omega))
        have hgw2 : g < w2.heap.size := by have := hbw.size; omega
        have z1 : w2.cell? ⟨g, x * 2, none⟩ = some (dat cur x).rv := (hbw.cell (p := ⟨g, x * 2, none⟩) hgw).trans CX1
        have z2 : w2.cell? ⟨g, x * 2 + 1, none⟩ = some (.int .i64 (dat cur x).n) := (hbw.cell (p := ⟨g, x * 2 + 1, none⟩) hgw).trans CX2
        have hfz2 : ∀ k, w2.frozen? ⟨g, k, none⟩ = false := fun k => (hbw.frozen (p := ⟨g, k, none⟩) hgw).trans (hfz k)
        have hext2 : Tab.Ext (fun b => b = g) w1 w2 := hext.trans (Tab.Ext.of_below hbw)
        have HOWN2 := Lib.hid (ownsRow_ext HOWN.out (Tab.Ext.of_below hbw))
        cases hq : q ⟨.slice A1 row.length c1, row, k⟩ with
        | true =>
          have HS2 := Lib.hid (HS.out hq)
          have hxx : x < j + 1 := by omega
          clear hq hb hb0 hbn hfz C1 C2 CX1 CX2 hsW hbw
          go_wp2_with fail
          go_roundw
          case rel => exact ⟨x, j + 1, cur, rfl, by go_num, hxx, hlt, HS2.out, HOWN2.out, hext2⟩
          case measure => simp [intOf] <;> omega
        | false =>
          have HK2 := Lib.hid (HK.out hq)
          have HOWN3 := Lib.hid (own_setD HOWN2.out x ⟨.slice A1 row.length c1, row, k⟩)
          have hext3 := hext2.trans (ext_set2 (g := g) (Tab.Ext.refl _ w2) (x * 2) (.slice A1 row.length c1) (.int .i64 k))
          have hxn : x < n := by omega
          clear hq hb hb0 hbn hfz C1 C2 CX1 CX2 hsW hbw
          go_wp2_with fail
          go_roundw
          case rel => exact ⟨x + 1, j + 1, _, by go_num, by go_num, by omega, hlt, HK2.out, HOWN3.out, hext3⟩
          case measure => simp [intOf] <;> omega
      · obtain rfl : j = n := by omega
        have hcl : ∀ ty, (Builtin.clear_ #[35] ty #[.slice (some ⟨g, x * 2, none⟩) (j - x) (c - x)]).run Tryd.prog wr = .ok (.tuple #[]) (wr.setCells g (x * 2) (Builtin.zeroCells (Value.agg #[.slice none 0 0, .int .i64 0]).cells (j - x)).toList) :=
          fun ty => run_clear_k wr 35 39 ty (.agg #[.slice none 0 0, .int .i64 0]) underD (fun w => by kernel_rfl) (by simp [Value.cells, Value.oneCell']) g (x * 2) (j - x) (c - x) (by omega)
            (fun t ht => by
              have ht' : t < (j - x) * 2 := ht
              have := hown.cellAt (x * 2 + t) (by omega)
              rw [this, List.getElem?_eq_getElem (by rw [dcells_length, hlen]; omega)]
              rfl) (fun t ht => hfz _)
        obtain ⟨xs', p1, p2, p3⟩ := own_setCells (base := base) (Builtin.zeroCells (Value.agg #[.slice none 0 0, .int .i64 0]).cells (j - x)).toList (x * 2) wr _ hown
        have P1 := Lib.hid (own_shrink p1 (i := x) (by omega))
        rw [p2, dcells_take] at P1
        have P3 := Lib.hid (hext.trans p3)
        have hlt2 : ¬ ((j : Int) < (j : Int)) := by omega
        generalize wr.setCells g (x * 2) (Builtin.zeroCells (Value.agg #[.slice none 0 0, .int .i64 0]).cells (j - x)).toList = wf at *
        clear p1 p2 p3 hd hown hlen hfz
        go_wp2_with fail
        go_ret
        have e1 : dcells (cur.take x) = dcells (es.filter fun d => !q d) := by
          have := HD.out
          rw [← HN.out] at this
          rw [this.last]
        have e2 : x = (es.filter fun d => !q d).length := by
          have := HD.out
          rw [← HN.out] at this
          have h2 := congrArg List.length this.last
          rw [List.length_take, HLEN.out] at h2
          omega
        have hp := P1.out
        rw [e1] at hp
        refine ⟨_, rfl, ⟨by rw [← e2]; exact hp, fun d hd => ?_⟩, ?_⟩
        · have hm := (List.mem_filter.1 hd).1
          have hg := HO1.out.good d hm
          exact ⟨(hg.row.mono (F' := fun b => F b ∧ b ≠ g) (fun b hb _ => ⟨hb.1, fun e => hb.2 (by simp [Value.ownBlock, e])⟩)).ext P3.out (fun b hb => hb.2) |>.mono (fun b hb _ => ⟨hb.1, fun e => hb.2 (by simpa [Value.ownBlock] using e.symm)⟩), hg.n⟩
        · exact (Tab.Ext.of_below O.out.2.2).trans (P3.out.mono fun k _ e => by simp [Value.ownBlock, e])
end Go.Proofs.YthejmnmkbldacaaDoor

namespace Go.Proofs.YthejmnmkbldacaaDoor
open Go.RowKit
attribute [local go_sem] Tab.Env.ev Tab.Env.get

theorem infoO : (Tryd.prog.info? 80).map (fun i => (i.zero, i.size, i.bytes)) = some (some (.agg #[.int .i64 0, .bool false]), 2, 16) := by kernel_rfl
theorem underO : Tryd.prog.underlying 76 = some (.slice 80) := by kernel_rfl
theorem Blk.ne_ {w : World} {g g' : Nat} {t t' : TypeId} {cs cs' : List Value} (h : Blk w g t cs) (h' : Blk w g' t' cs') (hne : t ≠ t') : g ≠ g' := by
  rintro rfl
  unfold Blk at h h'
  rw [h] at h'
  injection h' with h'
  injection h' with _ ht
  exact hne ht
theorem own_blk_ne {w : World} {g : Nat} {t : TypeId} {cs : List Value} {base : Nat} {e : TypeId} {size n : Nat} {v : Value} {xs : List Value} (h : w.ownsRow base e size v n xs) (hg : Blk w g t cs) (hne : e ≠ t) : v.ownBlock ≠ some g := by
  rcases h.2 with ⟨rfl, _⟩ | ⟨g', cap, cur, rfl, _, hh, _⟩
  · simp [Value.ownBlock]
  · intro he
    have : g' = g := by simpa [Value.ownBlock] using he
    subst this
    unfold Blk at hg
    rw [hh] at hg
    injection hg with hg
    injection hg with _ ht
    exact hne ht
theorem own_later {w w' : World} {base e size n : Nat} {v : Value} {xs : List Value} (h : w.ownsRow base e size v n xs) (hb : Below w.heap.size w w') : w'.ownsRow base e size v n xs := ownsRow_ext h (Tab.Ext.of_below hb)

def newOk (sources column delay : Int) : Prop := (1 ≤ sources ∧ sources ≤ 20) ∧ 0 ≤ column ∧ (0 ≤ delay ∧ delay ≤ 4294967296)
instance (a b c : Int) : Decidable (newOk a b c) := by unfold newOk; infer_instance
def newD (sources column delay : Int) : GateD := ⟨List.replicate sources.toNat (-62135596800, false), column, delay, -62135596800⟩
def NewPost (sources column delay : Int) (w : World) (e : Ending) (w' : World) : Prop :=
  Below w.heap.size w w' ∧ ((¬ newOk sources column delay ∧ e = .returned (.tuple #[.pointer none, .int .i64 3])) ∨
    (newOk sources column delay ∧ ∃ g s cap, e = .returned (.tuple #[.pointer (some ⟨g, 0, none⟩), .int .i64 0]) ∧ GateM w' w.heap.size g s cap sources.toNat (newD sources column delay) (.slice none 0 0)))
theorem replicate_snoc {α : Type} (n : Nat) (a : α) : List.replicate n a ++ [a] = List.replicate (n + 1) a := by
  rw [List.replicate_succ']

set_option maxHeartbeats 1000000 in
theorem newGate_any (sources column delay : Int) (hc : I64 column) (w : World) :
    Calls Tryd.prog 7 #[.int .i64 sources, .int .i64 column, .int .i64 delay] w (NewPost sources column delay w) := by
  unfold I64 at hc
  cases h1 : decide ((1 : Int) ≤ sources ∧ sources ≤ 20) with
  | false =>
    have HN := Lib.hid (show ¬ newOk sources column delay from fun h => by have := decide_eq_true h.1; rw [h1] at this; cases this)
    go_enter Tryd.func7, Tryd.ntmps7
    go_wp2_with fail
    refine (withinS_any _ _ _ _).mono ?_
    rintro e w1 ⟨rfl, rfl⟩
    rw [h1]
    clear h1
    go_wp2_with fail
    go_ret2
    exact ⟨Below.refl _ _, .inl ⟨HN.out, rfl⟩⟩
  | true =>
    by_cases h2 : column < 0
    · have HN := Lib.hid (show ¬ newOk sources column delay from fun h => by have := h.2.1; omega)
      have hd : decide (column < 0) = true := by simp [h2]
      go_enter Tryd.func7, Tryd.ntmps7
      go_wp2_with fail
      refine (withinS_any _ _ _ _).mono ?_
      rintro e w1 ⟨rfl, rfl⟩
      rw [h1]
      clear h1
      go_wp2_with fail
      go_ret2
      exact ⟨Below.refl _ _, .inl ⟨HN.out, rfl⟩⟩
    · have hd : decide (column < 0) = false := by simp; omega
      cases h3 : decide ((0 : Int) ≤ delay ∧ delay ≤ 4294967296) with
      | false =>
        have HN := Lib.hid (show ¬ newOk sources column delay from fun h => by have := decide_eq_true h.2.2; rw [h3] at this; cases this)
        clear h2
        go_enter Tryd.func7, Tryd.ntmps7
        go_wp2_with fail
        refine (withinS_any _ _ _ _).mono ?_
        rintro e w1 ⟨rfl, rfl⟩
        rw [h1]
        clear h1
        go_wp2_with fail
        refine (withinS_any _ _ _ _).mono ?_
        rintro e w1 ⟨rfl, rfl⟩
        rw [h3]
        clear h3
        go_wp2_with fail
        go_ret2
        exact ⟨Below.refl _ _, .inl ⟨HN.out, rfl⟩⟩
      | true =>
        have g1 : (1 : Int) ≤ sources ∧ sources ≤ 20 := of_decide_eq_true h1
        have g3 : (0 : Int) ≤ delay ∧ delay ≤ 4294967296 := of_decide_eq_true h3
        have HN := Lib.hid (show newOk sources column delay from ⟨g1, by omega, g3⟩)
        have HCOL := Lib.hid (show 0 ≤ column by omega)
        have HH1 := Lib.hid h1
        have HH3 := Lib.hid h3
        obtain ⟨n, hn⟩ : ∃ n : Nat, sources = n := ⟨sources.toNat, by omega⟩
        subst hn
        have B0 := Lib.hid (Blk.new w 78 [.slice none 0 0, .int .i64 column, .int .i64 delay, .int .i64 (-62135596800), .slice none 0 0])
        clear h2 h1 h3
        go_enter Tryd.func7, Tryd.ntmps7
        go_wp2_with fail
        refine (withinS_any _ _ _ _).mono ?_
        rintro e w1 ⟨rfl, rfl⟩
        rw [HH1.out]
        go_wp2_with fail
        refine (withinS_any _ _ _ _).mono ?_
        rintro e w1 ⟨rfl, rfl⟩
        rw [HH3.out]
        go_wp2_with fail
        go_loopw [26] (fun i wr => ∃ (k : Nat) (vs : Value), k ≤ n ∧ i = .int .i64 k ∧ Blk wr w.heap.size 78 [vs, .int .i64 column, .int .i64 delay, .int .i64 (-62135596800), .slice none 0 0] ∧ wr.ownsRow w.heap.size 80 2 vs k (scells (List.replicate k (-62135596800, false))) ∧ Below w.heap.size w wr) (fun i _ => n - (intOf i).toNat)
        case atStart => exact ⟨0, _, Nat.zero_le _, rfl, B0.out, World.ownsRow_nil _ _ _ _, below_new w _⟩
        case round =>
          obtain ⟨k, vs, hk, rfl, hb, hown, hbel⟩ := hrel
          have HB := Lib.hid hb
          have HO := Lib.hid hown
          have q := wcell5 hb
          have hgl := hb.lt
          have hzz : w.heap.size ≤ wr.heap.size := hbel.size
          by_cases hlt : k < n
          · have f := hb.frozen 0
            clear hb hown
            go_wp2_with (at_builtin; refine append_own2 wr rfl (.tmp 32) (.tmp 34) 76 rfl w.heap.size 80 underO infoO rfl (by decide) _ _ _ [.int .i64 (-62135596800), .bool false] rfl HO.out rfl rfl (by simp [Value.oneCell']) (by omega) (by decide) (by omega) ?_)
            intro v' w2 hown' hb2 hkept
            have hbg := (hkept.block w.heap.size hgl (own_blk_ne HO.out HB.out (by decide))).1
            have HB2 := Lib.hid (show Blk w2 w.heap.size 78 [vs, .int .i64 column, .int .i64 delay, .int .i64 (-62135596800), .slice none 0 0] from hbg.trans HB.out)
            have q2 := wcell5 HB2.out
            have f2 := HB2.out.frozen 0
            have HO2 := Lib.hid (show w2.ownsRow w.heap.size 80 2 v' (k + 1) (scells (List.replicate (k + 1) (-62135596800, false))) by rw [← replicate_snoc, scells_append]; exact hown')
            have hvs : v'.oneCell' = true := by
              rcases hown'.2 with ⟨e, _⟩ | ⟨_, _, _, e, _⟩ <;> rw [e] <;> rfl
            have hbel2 := hbel.trans hb2
            have HO3 := Lib.hid (ownsRow_setCell_other HO2.out (a := ⟨w.heap.size, 0, none⟩) (own_blk_ne HO2.out HB2.out (by decide)) v')
            have HB3 := Lib.hid (HB2.out.set_ 0 v')
            have hbel3 := hbel2.setCell (p := ⟨w.heap.size, 0, none⟩) (Nat.le_refl _) v'
            obtain ⟨A9, c9, n9, ev⟩ : ∃ A c n, v' = .slice A n c := by
              rcases hown'.2 with ⟨e, _⟩ | ⟨_, _, _, e, _⟩ <;> exact ⟨_, _, _, e⟩
            subst ev
            clear hown' hb2 hkept hbg q f hbel
            go_wp2_with fail
            go_roundw
            case rel => exact ⟨k + 1, _, hlt, by go_num, HB3.out, HO3.out, hbel3⟩
            case measure => simp [intOf] <;> omega
          · obtain rfl : k = n := by omega
            obtain ⟨s, cap, hv, hb1, hb2, hc1, hc2⟩ := own_form hown (by omega)
            subst hv
            clear hb hown
            go_wp2_with fail
            go_ret2
            refine ⟨hbel, .inr ⟨HN.out, w.heap.size, s, cap, rfl, ?_⟩⟩
            refine ⟨HB.out, by simpa [newD] using HO.out, by simp [newD], ?_, Nat.le_refl _, ?_⟩
            · intro e
              exact own_blk_ne HO.out HB.out (by decide) (by rw [e]; rfl)
            · refine ⟨fun x hx => ?_, by simp [newD]; omega, by simp [newD]; omega, HCOL.out, by show column ≤ _; omega, by show 0 ≤ delay; omega, by show delay ≤ _; omega, by show Mom (-62135596800); unfold Mom; decide⟩
              have := List.eq_of_mem_replicate hx
              rw [this]
              unfold Mom; decide

set_option maxHeartbeats 400000 in
theorem mark_any (w : World) (base g s cap ns : Nat) (D : GateD) (vw : Value) (h : GateM w base g s cap ns D vw) :
    Calls Tryd.prog 9 #[.pointer (some ⟨g, 0, none⟩)] w fun e w' => e = .returned (.int .i64 D.mark) ∧ w = w' := by
  have q := wcell5 h.blk
  clear h
  go_enter Tryd.func9, Tryd.ntmps9
  go_wp2_with fail
  go_ret
  exact ⟨rfl, rfl⟩

theorem list_set_self {α : Type} {l : List α} {i : Nat} {a : α} (h : l[i]? = some a) : l.set i a = l := by
  refine List.ext_getElem? fun j => ?_
  rw [List.getElem?_set]
  by_cases hj : i = j
  · subst hj
    rw [if_pos rfl, if_pos (List.getElem?_eq_some_iff.1 h).1, h]
  · rw [if_neg hj]
theorem scells_set1 {l : List Src} {i : Nat} {m : Int} {b0 : Bool} (h : l[i]? = some (m, b0)) (b : Bool) : (scells l).set (i * 2 + 1) (.bool b) = scells (l.set i (m, b)) := by
  have hd := (scells_get l i).1
  rw [h] at hd
  rw [scells_set, list_set_self (a := Value.int .i64 (m, b).1) (by simpa using hd)]
theorem scells_set0 {l : List Src} {i : Nat} {m0 : Int} {b : Bool} (h : l[i]? = some (m0, b)) (m : Int) : (scells l).set (i * 2) (.int .i64 m) = scells (l.set i (m, b)) := by
  have hd := (scells_get l i).2
  rw [h] at hd
  rw [scells_set]
  refine (list_set_self (a := Value.bool (m, b).2) ?_).symm
  rw [List.getElem?_set_ne (by omega)]
  simpa using hd
/-- the sources, one of them changed -/
def setSrc (D : GateD) (i : Nat) (s : Src) : GateD := { D with srcs := D.srcs.set i s }
theorem setSrc_ok {D : GateD} (h : D.ok) (i : Nat) (s : Src) (hs : Mom s.1) : (setSrc D i s).ok :=
  ⟨fun t ht => (List.mem_or_eq_of_mem_set ht).elim (h.srcs t) (fun e => by rw [e]; exact hs), by show 1 ≤ (D.srcs.set i s).length; rw [List.length_set]; exact h.some_, by show (D.srcs.set i s).length ≤ 20; rw [List.length_set]; exact h.few, h.col, h.coli, h.del, h.delb, h.mkb⟩
theorem GateM.setIdle {w : World} {base g s cap ns : Nat} {D : GateD} {vw : Value} (h : GateM w base g s cap ns D vw) {i : Nat} {m : Int} {b0 : Bool} (hi : D.srcs[i]? = some (m, b0)) (b : Bool) : GateM (w.setCell ⟨s, i * 2 + 1, none⟩ (.bool b)) base g s cap ns (setSrc D i (m, b)) vw :=
  ⟨h.blk.farB h.ne _, by
    have := (h.src.stored (i * 2 + 1) (.bool b)).1
    rw [scells_set1 hi] at this
    exact this, by show (D.srcs.set i _).length = ns; rw [List.length_set]; exact h.len, h.ne, h.bg, setSrc_ok h.ok i _ (h.ok.srcs (m, b0) (List.mem_of_getElem? hi))⟩
theorem GateM.setMark {w : World} {base g s cap ns : Nat} {D : GateD} {vw : Value} (h : GateM w base g s cap ns D vw) {i : Nat} {m0 : Int} {b : Bool} (hi : D.srcs[i]? = some (m0, b)) (m : Int) (hm : Mom m) : GateM (w.setCell ⟨s, i * 2, none⟩ (.int .i64 m)) base g s cap ns (setSrc D i (m, b)) vw :=
  ⟨h.blk.farB h.ne _, by
    have := (h.src.stored (i * 2) (.int .i64 m)).1
    rw [scells_set0 hi] at this
    exact this, by show (D.srcs.set i _).length = ns; rw [List.length_set]; exact h.len, h.ne, h.bg, setSrc_ok h.ok i _ hm⟩
theorem GateM.caps {w : World} {base g s cap ns : Nat} {D : GateD} {vw : Value} (h : GateM w base g s cap ns D vw) : ns ≤ cap ∧ cap ≤ 9223372036854775807 ∧ 1 ≤ ns ∧ ns ≤ 20 := by
  obtain ⟨_, A, c, e, h1, h2, _⟩ := SL.of_own h.src
  injection e with _ _ e3
  subst e3
  have h3 := h.ok.some_
  have h4 := h.ok.few
  rw [h.len] at h3 h4
  exact ⟨h1, h2, h3, h4⟩
/-- what Idle makes of a gate -/
def idleD (D : GateD) (i : Nat) : GateD := match D.srcs[i]? with
  | some s => advD (setSrc D i (s.1, true))
  | none => D
def IdlePost (base g s cap ns : Nat) (D : GateD) (vw : Value) (source : Int) (w : World) (e : Ending) (w' : World) : Prop :=
  Tab.Ext (fun b => b = g ∨ b = s) w w' ∧ ((¬ (0 ≤ source ∧ source ≤ (ns : Int) - 1) ∧ e = .returned (.int .i64 3) ∧ GateM w' base g s cap ns D vw) ∨
    ((0 ≤ source ∧ source ≤ (ns : Int) - 1) ∧ e = .returned (.int .i64 0) ∧ GateM w' base g s cap ns (idleD D source.toNat) vw))
set_option maxHeartbeats 400000 in
theorem idle_any (w : World) (base g s cap ns : Nat) (D : GateD) (vw : Value) (h : GateM w base g s cap ns D vw) (hvw : vw.oneCell' = true) (source : Int) :
    Calls Tryd.prog 11 #[.pointer (some ⟨g, 0, none⟩), .int .i64 source] w (IdlePost base g s cap ns D vw source w) := by
  have HG := Lib.hid h
  have q := wcell5 h.blk
  obtain ⟨k1, k2, k3, k4⟩ := h.caps
  cases hd : decide ((0 : Int) ≤ source ∧ source ≤ (ns : Int) - 1) with
  | false =>
    have HN := Lib.hid (of_decide_eq_false hd)
    have HD := Lib.hid hd
    clear h hd
    go_enter Tryd.func11, Tryd.ntmps11
    go_wp2_with fail
    refine (withinS_any _ _ _ _).mono ?_
    rintro e w1 ⟨rfl, rfl⟩
    rw [HD.out]
    go_wp2_with fail
    go_ret
    exact ⟨Tab.Ext.refl _ _, .inl ⟨HN.out, rfl, HG.out⟩⟩
  | true =>
    have hin : (0 : Int) ≤ source ∧ source ≤ (ns : Int) - 1 := of_decide_eq_true hd
    have HN := Lib.hid hin
    have HD := Lib.hid hd
    obtain ⟨i, rfl⟩ : ∃ i : Nat, source = i := ⟨source.toNat, by omega⟩
    have hi : i < ns := by omega
    obtain ⟨m, b0, hg, c1, c2⟩ := own_cellsS h.src h.len hi
    have HS := Lib.hid (h.setIdle hg true)
    have fz := h.src.frozenAt (i * 2 + 1)
    have HE := Lib.hid (show idleD D i = advD (setSrc D i (m, true)) by unfold idleD; rw [hg])
    have HX := Lib.hid ((Tab.Ext.refl (fun b => b = g ∨ b = s) w).setCell (p := ⟨s, i * 2 + 1, none⟩) (.inl (.inr rfl)) (.bool true))
    clear h hd hg
    go_enter Tryd.func11, Tryd.ntmps11
    go_wp2_with fail
    refine (withinS_any _ _ _ _).mono ?_
    rintro e w1 ⟨rfl, rfl⟩
    rw [HD.out]
    go_wp2_with fail
    refine (advance_any _ base g s cap ns _ vw HS.out hvw).mono ?_
    rintro e w2 ⟨rfl, o1, o2⟩
    have O := Lib.hid (And.intro o1 (HX.out.trans (o2.mono fun b _ hb => .inl hb)))
    clear o1 o2 HX
    go_wp2_with fail
    go_ret
    exact ⟨O.out.2, .inr ⟨HN.out, rfl, by rw [Int.toNat_natCast, HE.out]; exact O.out.1⟩⟩
end Go.Proofs.YthejmnmkbldacaaDoor

namespace Go.Proofs.YthejmnmkbldacaaDoor
open Go.RowKit Go.Shelf
def Tryd.laysValid_ren : Go.Shelf.Ren := ⟨fun | 196 => 196 | 259 => 215 | n => n, fun | 9 => 9 | 4 => 4 | 3 => 3 | 5 => 5 | 12 => 12 | 119 => 226 | 0 => 0 | 46 => 142 | 139 => 229 | 138 => 228 | 53 => 100 | n => n, fun | 3 => 4 | 4 => 5 | n => n⟩
theorem Tryd.laysValid : Go.Proofs.Lays.n196 Tryd.prog Tryd.laysValid_ren := {
  mixed := by kernel_rfl
  f196 := Tryd.func196.trans (congrArg some (by kernel_rfl))
  f259 := Tryd.func215.trans (congrArg some (by kernel_rfl))
  t0 := Tryd.underlying0
  a0 := Tryd.isAgg0
  z0 := Tryd.sizeOf0
  v0 := Tryd.zeroValue0
  t3 := Tryd.underlying3
  a3 := Tryd.isAgg3
  z3 := Tryd.sizeOf3
  v3 := Tryd.zeroValue3
  t4 := Tryd.underlying4
  a4 := Tryd.isAgg4
  z4 := Tryd.sizeOf4
  v4 := Tryd.zeroValue4
  t5 := Tryd.underlying5
  a5 := Tryd.isAgg5
  z5 := Tryd.sizeOf5
  v5 := Tryd.zeroValue5
  t9 := Tryd.underlying9
  a9 := Tryd.isAgg9
  z9 := Tryd.sizeOf9
  v9 := Tryd.zeroValue9
  t12 := Tryd.underlying12
  a12 := Tryd.isAgg12
  z12 := Tryd.sizeOf12
  v12 := Tryd.zeroValue12
  t46 := Tryd.underlying142
  a46 := Tryd.isAgg142
  z46 := Tryd.sizeOf142
  v46 := Tryd.zeroValue142
  t53 := Tryd.underlying100
  a53 := Tryd.isAgg100
  z53 := Tryd.sizeOf100
  v53 := Tryd.zeroValue100
  t119 := Tryd.underlying226
  a119 := Tryd.isAgg226
  z119 := Tryd.sizeOf226
  t138 := Tryd.underlying228
  a138 := Tryd.isAgg228
  z138 := Tryd.sizeOf228
  v138 := Tryd.zeroValue228
  t139 := Tryd.underlying229
  a139 := Tryd.isAgg229
  z139 := Tryd.sizeOf229
  v139 := Tryd.zeroValue229
  g3 := by kernel_rfl
  g4 := by kernel_rfl }

theorem validString_lies (s : ByteArray) (w : World) (hs : s.size ≤ 9223372036854775807) (hT : Lib.Utf8Tabs 4 5 w) :
    Calls Tryd.prog 196 #[.string s] w fun e w' => e = .returned (.bool (Lib.validD s.data.toList)) ∧ Below w.heap.size w w' :=
  Any.utf8_ValidString Tryd.laysValid s w hs hT
end Go.Proofs.YthejmnmkbldacaaDoor
