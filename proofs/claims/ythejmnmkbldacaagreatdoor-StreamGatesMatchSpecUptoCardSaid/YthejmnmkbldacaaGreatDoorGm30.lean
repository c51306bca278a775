/-
  What is proved: what reads as a list of rows, of operations of a gate lies as these texts say. Conditions: none.
  What is proved: slices.Concat of two lists of differences. Conditions: fewer than 2^30 differences.
  What is proved: Sum returns the canonical list of two lists of differences, or its error. Conditions: the tables of unicode/utf8 lie as they are laid; fewer than 2^21 differences, no list with 2^30 elements or more.
  What is proved: Sum returns the canonical list of two lists of differences, or its error. Conditions: the tables of unicode/utf8 lie as they are laid; fewer than 2^22 differences, no list with 2^30 elements or more.
  What is proved: the law's own test of Sum answers true. Conditions: the tables of unicode/utf8 lie as they are laid.
  What is proved: the plain law of gates: what is released is in order, and no more than was offered. Conditions: none. No program in sight.
-/
import Derived.Test.YthejmnmkbldacaaGreatDoorGm29
import Derived.Test.YthejmnmkbldacaaGreatDoorGm12
import Derived.Lib.AppendZerosOnto
import Derived.Test.YthejmnmkbldacaaGreatDoorGm21
import Derived.Test.YthejmnmkbldacaaGreatDoorGm18
import Derived.Test.YthejmnmkbldacaaGreatDoorGm24
set_option linter.all false
namespace Go.Proofs.YthejmnmkbldacaaGreatDoor
open Go.RowKit Go.Deep

/-- an operation of a gate, as it lies in memory -/
structure OpE where
  kind : Int
  src : Int
  rv : Value
  rows : List RE
instance : Inhabited OpE := ⟨⟨0, 0, undef, []⟩⟩
/-- no list in the rows is long -/
def smR (l : List RE) : Prop := ∀ e, e ∈ l → e.row.length < 1073741824 ∧ ∀ x, x ∈ e.row → smV x
structure OpsI (w : World) (v : Value) (l : List OpE) : Prop where
  shape : ∃ A c, v = .slice A l.length c ∧ l.length ≤ c ∧ c ≤ maxLen ∧ ∀ i, i < l.length → ∃ b off, A = some ⟨b, off, none⟩ ∧ b < w.heap.size ∧
    w.cell? ⟨b, off + i * 3, none⟩ = some (.int .i64 (dat l i).kind) ∧ w.cell? ⟨b, off + i * 3 + 1, none⟩ = some (.int .i64 (dat l i).src) ∧ w.cell? ⟨b, off + i * 3 + 2, none⟩ = some (dat l i).rv
  rows : ∀ o, o ∈ l → RR w (fun b => b < w.heap.size) (fun b => b < w.heap.size) o.rv o.rows
/-- how many rows there are -/
def rowsIn (l : List OpE) : Nat := (l.map fun o => o.rows.length).sum

section
variable {H : Type} {enc : TypeId × Value → H} {w : World} {spare : Nat → Bool} {held : Bool}
theorem dat_range {α : Type} [Inhabited α] (f : Nat → α) (len : Nat) {i : Nat} (hi : i < len) : dat ((List.range len).map f) i = f i := by
  unfold dat
  rw [List.getD_eq_getElem?_getD]
  simp [hi]
theorem bulk_sum : ∀ (xs : List (DataW H)) (g : Nat → Nat), (∀ i (h : i < xs.length), g i ≤ Rows.uptoBulk xs[i]) → ((List.range xs.length).map g).sum ≤ Rows.uptoBulkAll xs
  | [], _, _ => by simp
  | x :: xs, g, h => by
    have h0 := h 0 (by simp)
    have h1 := bulk_sum xs (fun i => g (i + 1)) (fun i hi => h (i + 1) (by simpa using hi))
    rw [List.length_cons, List.range_succ_eq_map, List.map_cons, List.sum_cons, List.map_map]
    simp only [Rows.uptoBulkAll]
    simp only [List.getElem_cons_zero] at h0
    have : (List.map (g ∘ Nat.succ) (List.range xs.length)).sum = ((List.range xs.length).map fun i => g (i + 1)).sum := rfl
    omega

/-- what reads as a list of rows -/
theorem open_rows {fuel : Nat} {cs : List Value} {x : DataW H × List MemPlace} (h : DataW.trod enc Tryz.prog w 0 spare held fuel 22 cs = some x) :
    ∃ (v : Value) (l : List RE), cs = [v] ∧ RR w (fun b => b < w.heap.size) (fun b => b < w.heap.size) v l ∧ l.length ≤ Rows.uptoBulk x.1 ∧ (Rows.uptoBulk x.1 ≤ 1048576 → smR l) := by
  rcases open_elems underR cSlV h with rfl | ⟨a, len, cap, elems, n, rfl, rfl, hl, hm, hlen, hbulk, hel⟩
  · exact ⟨_, [], rfl, RR.nil _ _ _, Nat.zero_le _, fun _ e he => by cases he⟩
  · have hspot : 0 < len → a.spot = none ∧ a.block < w.heap.size := fun h0 => by
      obtain ⟨cs', y, hy, hcl, hcell, ht⟩ := hel 0 h0
      obtain ⟨v, li, rfl, _⟩ := open_row _ _ _ ht
      have c0 := hcell 0 (by omega)
      rw [Nat.zero_mul, Nat.zero_add] at c0
      exact addr_spot c0
    have hx : ∀ i, i < len → ∃ e : RE, w.cell? ⟨a.block, a.off + i, none⟩ = some e.rv ∧ RI w (fun b => b < w.heap.size) e.rv e.row ∧ (Rows.uptoBulk x.1 ≤ 1048576 → e.row.length < 1073741824 ∧ ∀ x, x ∈ e.row → smV x) := by
      intro i hi
      obtain ⟨cs', y, hy, hcl, hcell, ht⟩ := hel i hi
      obtain ⟨v, li, rfl, hri, hsm⟩ := open_row _ _ _ ht
      obtain ⟨hsp, hlt⟩ := hspot (by omega)
      refine ⟨⟨v, li⟩, ?_, hri, fun hb => ?_⟩
      · have := (congrArg w.cell? (addr_add hsp (i * 1) 0)).symm.trans (hcell 0 (by omega))
        simpa using this
      · have h1 : Rows.uptoBulk y.1 ≤ Rows.uptoBulkAll (elems.map (·.1)) := bulk_part (List.mem_map.2 ⟨y, List.mem_of_getElem? hy, rfl⟩)
        exact hsm (by omega)
    obtain ⟨f, hf⟩ := choose_lt (α := RE) hx
    have hll : ((List.range len).map f).length = len := by simp
    refine ⟨_, (List.range len).map f, rfl, ⟨⟨by simp, some a, cap, by rw [hll], by rw [hll]; exact hl, hm, fun h0 => ?_⟩, fun e he => ?_⟩, ?_, fun hb e he => ?_⟩
    · rw [hll] at h0
      obtain ⟨hsp, hlt⟩ := hspot h0
      refine ⟨a.block, a.off, by obtain ⟨b, o, sp⟩ := a; simp only at hsp; subst hsp; rfl, hlt, hlt, fun j u hj => ?_⟩
      rw [List.map_map, List.getElem?_map, Option.map_eq_some_iff] at hj
      obtain ⟨i, hi, rfl⟩ := hj
      obtain ⟨h1, h2⟩ := List.getElem?_eq_some_iff.1 hi
      simp at h1 h2
      subst h2
      exact (hf j h1).1
    · obtain ⟨i, hi, rfl⟩ := List.mem_map.1 he
      exact (hf i (List.mem_range.1 hi)).2.1
    · have := bulk_len (elems.map (·.1))
      rw [List.length_map] at this
      rw [hll]
      omega
    · obtain ⟨i, hi, rfl⟩ := List.mem_map.1 he
      exact (hf i (List.mem_range.1 hi)).2.2 hb

/-- what reads as a list of operations -/
theorem open_ops {fuel : Nat} {cs : List Value} {x : DataW H × List MemPlace} (h : DataW.trod enc Tryz.prog w 0 spare held fuel 37 cs = some x) :
    ∃ (v : Value) (l : List OpE), cs = [v] ∧ OpsI w v l ∧ rowsIn l ≤ Rows.uptoBulk x.1 ∧ (Rows.uptoBulk x.1 ≤ 1048576 → ∀ o, o ∈ l → smR o.rows) ∧ (∀ o, o ∈ l → I64 o.kind ∧ I64 o.src) ∧ l.length ≤ Rows.uptoBulk x.1 := by
  rcases open_elems uOps cOp h with rfl | ⟨a, len, cap, elems, n, rfl, rfl, hl, hm, hlen, hbulk, hel⟩
  · exact ⟨_, [], rfl, ⟨⟨none, 0, rfl, Nat.le_refl _, Nat.zero_le _, fun i hi => absurd hi (Nat.not_lt_zero i)⟩, fun o ho => (List.not_mem_nil ho).elim⟩, Nat.zero_le _, fun _ o ho => (List.not_mem_nil ho).elim, fun o ho => (List.not_mem_nil ho).elim, Nat.zero_le _⟩
  · have hval : ∀ {n : Nat} {cs : List Value} {y : DataW H × List MemPlace}, DataW.trod enc Tryz.prog w 0 spare held n 45 cs = some y → ∃ (k s : Int) (rv : Value) (l : List RE), cs = [.int .i64 k, .int .i64 s, rv] ∧ I64 k ∧ I64 s ∧
        RR w (fun b => b < w.heap.size) (fun b => b < w.heap.size) rv l ∧ l.length ≤ Rows.uptoBulk y.1 ∧ (Rows.uptoBulk y.1 ≤ 1048576 → smR l) := by
      intro n cs y hy
      obtain ⟨xs, m, rfl, rfl, hl, hxl, hf⟩ := trod_fields fOp hy
      rw [cOp] at hl
      obtain ⟨x0, x1, x2, rfl⟩ := three hxl
      obtain ⟨c0, c1, c2, rfl⟩ := three hl
      have f0 := hf 0 _ _ rfl
      have f1 := hf 1 _ _ rfl
      have f2 := hf 2 _ _ rfl
      rw [cInt] at f0 f1
      rw [cSlR] at f2
      obtain ⟨k, e0, _, w0⟩ := DataW.trod_int uInt f0
      obtain ⟨s, e1, _, w1⟩ := DataW.trod_int uInt f1
      obtain ⟨rv, l, e2, hrr, hll, hsm⟩ := open_rows f2
      simp at e0 e1 e2
      subst e0 e1 e2
      have hb : Rows.uptoBulk x2.1 ≤ Rows.uptoBulk (DataW.agg (List.map (fun x => x.1) [x0, x1, x2])) := by
        simp only [List.map_cons, List.map_nil, Rows.uptoBulk, Rows.uptoBulkAll]
        omega
      exact ⟨k, s, c2, l, rfl, i64_of_wf w0, i64_of_wf w1, hrr, Nat.le_trans hll hb, fun h => hsm (Nat.le_trans hb h)⟩
    have hspot : 0 < len → a.spot = none ∧ a.block < w.heap.size := fun h0 => by
      obtain ⟨cs', y, hy, hcl, hcell, ht⟩ := hel 0 h0
      obtain ⟨k, s, rv, li, rfl, _⟩ := hval ht
      have c0 := hcell 0 (by omega)
      rw [Nat.zero_mul, Nat.zero_add] at c0
      exact addr_spot c0
    have hx : ∀ i, i < len → ∃ o : OpE, (w.cell? ⟨a.block, a.off + i * 3, none⟩ = some (.int .i64 o.kind) ∧ w.cell? ⟨a.block, a.off + i * 3 + 1, none⟩ = some (.int .i64 o.src) ∧ w.cell? ⟨a.block, a.off + i * 3 + 2, none⟩ = some o.rv) ∧ RR w (fun b => b < w.heap.size) (fun b => b < w.heap.size) o.rv o.rows ∧
        (∀ h : i < (elems.map (·.1)).length, o.rows.length ≤ Rows.uptoBulk (elems.map (·.1))[i]) ∧ (Rows.uptoBulk x.1 ≤ 1048576 → smR o.rows) ∧ I64 o.kind ∧ I64 o.src := by
      intro i hi
      obtain ⟨cs', y, hy, hcl, hcell, ht⟩ := hel i hi
      obtain ⟨k, s, rv, li, rfl, ok0, ok1, hrr, hll, hsm⟩ := hval ht
      obtain ⟨hsp, hlt⟩ := hspot (by omega)
      have hadd := addr_add hsp (i * 3)
      refine ⟨⟨k, s, rv, li⟩, ⟨(congrArg w.cell? (hadd 0)).symm.trans (hcell 0 (by omega)), (congrArg w.cell? (hadd 1)).symm.trans (hcell 1 (by omega)), (congrArg w.cell? (hadd 2)).symm.trans (hcell 2 (by omega))⟩, hrr, fun h => ?_, fun hb => ?_, ok0, ok1⟩
      · have : (elems.map (·.1))[i]? = some y.1 := by rw [List.getElem?_map, hy]; rfl
        rw [Option.some.inj ((List.getElem?_eq_getElem h).symm.trans this)]
        exact hll
      · have h1 : Rows.uptoBulk y.1 ≤ Rows.uptoBulkAll (elems.map (·.1)) := bulk_part (List.mem_map.2 ⟨y, List.mem_of_getElem? hy, rfl⟩)
        exact hsm (by omega)
    obtain ⟨f, hf⟩ := choose_lt (α := OpE) hx
    have hll : ((List.range len).map f).length = len := by simp
    refine ⟨_, (List.range len).map f, rfl, ⟨⟨some a, cap, by rw [hll], by rw [hll]; exact hl, hm, fun i hi => ?_⟩, fun o ho => ?_⟩, ?_, fun hb o ho => ?_, fun o ho => ?_, ?_⟩
    · rw [hll] at hi
      obtain ⟨hsp, hlt⟩ := hspot (by omega)
      rw [dat_range f len hi]
      exact ⟨a.block, a.off, by obtain ⟨b, o, sp⟩ := a; simp only at hsp; subst hsp; rfl, hlt, (hf i hi).1⟩
    · obtain ⟨i, hi, rfl⟩ := List.mem_map.1 ho
      exact (hf i (List.mem_range.1 hi)).2.1
    · have := bulk_sum (elems.map (·.1)) (fun i => (f i).rows.length) (fun i hi => (hf i (by simpa [hlen] using hi)).2.2.1 hi)
      rw [List.length_map, hlen] at this
      have e : rowsIn ((List.range len).map f) = ((List.range len).map fun i => (f i).rows.length).sum := by
        unfold rowsIn
        rw [List.map_map]
        rfl
      omega
    · obtain ⟨i, hi, rfl⟩ := List.mem_map.1 ho
      exact (hf i (List.mem_range.1 hi)).2.2.2.1 hb
    · obtain ⟨i, hi, rfl⟩ := List.mem_map.1 ho
      exact (hf i (List.mem_range.1 hi)).2.2.2.2
    · have := bulk_len (elems.map (·.1))
      rw [List.length_map] at this
      rw [hll]
      omega
end
end Go.Proofs.YthejmnmkbldacaaGreatDoor

namespace Go.Proofs.YthejmnmkbldacaaGreatDoor
open Go.RowKit
attribute [local go_sem] Tab.Env.ev Tab.Env.get

set_option maxHeartbeats 1000000 in
theorem growD_any (n : Nat) (hn : n < 1073741824) (w : World) :
    Calls Tryz.prog 116 #[.slice none 0 0, .int .i64 n] w fun e w' => ∃ v', e = .returned v' ∧ w'.ownsRow w.heap.size 86 2 v' 0 [] ∧ Below w.heap.size w w' := by
  obtain ⟨i0, hi, hz0, hz1, hz2⟩ := info_parts infoD
  have h1 : ¬ ((n : Int) < 0) := by omega
  rcases Nat.eq_zero_or_pos n with h0 | h0
  · subst h0
    go_enter Tryz.func116, Tryz.ntmps116
    go_wp2_with fail
    go_ret
    exact ⟨_, rfl, World.ownsRow_nil _ _ _ _, Below.refl _ _⟩
  · have hrz : ∀ ty, (Builtin.append_ #[23, 3] ty #[.slice none 0 0, .int .i64 (n : Int)]).run Tryz.prog w =
        .ok (.slice (some ⟨w.heap.size, 0, none⟩) n (grownCap w n 0 86)) (w.drew.alloc (.cells (#[] ++ Builtin.zeroCells (Value.agg #[.slice none 0 0, .int .i64 0]).cells n ++ Builtin.zeroCells (Value.agg #[.slice none 0 0, .int .i64 0]).cells (grownCap w n 0 86 - n)) 86)) := fun ty => by
      have h := Lib.run_append_grow_zeros w 23 3 ty 86 i0 (.agg #[.slice none 0 0, .int .i64 0]) .i64 .i64 underD (by kernel_rfl) hi hz0 none 0 0 [] (run_firstCells_none (P := Tryz.prog) w.drew i0.size 0 0 0) n (by omega) (by rw [hz1]; decide) (by omega) (by omega)
        (by rw [hz2]; omega)
        (growslice_fits (by omega) (by rw [hz2]; omega))
      simpa using h
    have hge := grownCap_ge w n 0 86
    have hcm := grownCap_le_maxLen w n 0 86 (by unfold maxLen; omega)
    generalize grownCap w n 0 86 = G at *
    have hown : (w.drew.alloc (.cells (#[] ++ Builtin.zeroCells (Value.agg #[.slice none 0 0, .int .i64 0]).cells n ++ Builtin.zeroCells (Value.agg #[.slice none 0 0, .int .i64 0]).cells (G - n)) 86)).ownsRow w.heap.size 86 2 (.slice (some ⟨w.heap.size, 0, none⟩) 0 G) 0 [] := by
      refine ⟨rfl, .inr ⟨w.heap.size, G, _, rfl, Nat.le_refl _, heap_alloc_new w.drew _, Nat.zero_le _, hcm, ?_, rfl⟩⟩
      simp only [Array.size_append, size_zeroCells]
      simp [Value.cells]
      omega
    have HOWN := Lib.hid hown
    have hG : G ≤ 9223372036854775807 := hcm
    have hbel : Below w.heap.size w (w.drew.alloc (.cells (#[] ++ Builtin.zeroCells (Value.agg #[.slice none 0 0, .int .i64 0]).cells n ++ Builtin.zeroCells (Value.agg #[.slice none 0 0, .int .i64 0]).cells (G - n)) 86)) := (Below.refl _ _).drew.alloc (Nat.le_refl _) _
    generalize w.drew.alloc (.cells (#[] ++ Builtin.zeroCells (Value.agg #[.slice none 0 0, .int .i64 0]).cells n ++ Builtin.zeroCells (Value.agg #[.slice none 0 0, .int .i64 0]).cells (G - n)) 86) = W at *
    clear hown hcm
    go_enter Tryz.func116, Tryz.ntmps116
    go_wp2_with (at_builtin; refine Lib.wpList_append_run _ rfl _ _ _ _ rfl _ _ rfl rfl _ _ (hrz _) ?_)
    go_ret
    exact ⟨_, rfl, HOWN.out, hbel⟩

set_option maxHeartbeats 2000000 in
theorem concatD_any (F1 F2 : Nat → Prop) (v1 v2 : Value) (l1 l2 : List Value) (n1 n2 : Nat) (g : Nat) (w : World) (hb : Blk w g 23 [v1, v2]) (h1 : SL w F1 2 v1 n1 l1) (h2 : SL w F2 2 v2 n2 l2) (o1 : ∀ u ∈ l1, u.oneCell' = true) (o2 : ∀ u ∈ l2, u.oneCell' = true) (hn : n1 + n2 < 1073741824) :
    Calls Tryz.prog 53 #[.slice (some ⟨g, 0, none⟩) 2 2] w fun e w' => ∃ v', e = .returned v' ∧ w'.ownsRow w.heap.size 86 2 v' (n1 + n2) (l1 ++ l2) ∧ Below w.heap.size w w' := by
  have HS1 := Lib.hid h1
  have HS2 := Lib.hid h2
  have HO1 := Lib.hid o1
  have HO2 := Lib.hid o2
  obtain ⟨-, A1, c1, rfl, g1, g2, -⟩ := h1
  obtain ⟨-, A2, c2, rfl, g3, g4, -⟩ := h2
  have q := wcell2 hb
  have hgl := hb.lt
  have HB := Lib.hid hb
  clear hb o1 o2
  go_enter Tryz.func53, Tryz.ntmps53
  go_wp2_with fail
  refine wp_loop_rounds 3 ?_
  rw [rounds_succ]
  go_wp2_with fail
  rw [rounds_succ]
  go_wp2_with fail
  rw [rounds_succ]
  go_wp2_with fail
  rw [show (n1 : Int) + n2 = ((n1 + n2 : Nat) : Int) by omega]
  refine (growD_any (n1 + n2) hn w).mono ?_
  rintro e w1 ⟨v0, rfl, hown0, hb1⟩
  have HOWN0 := Lib.hid hown0
  have q1 := wcell2 (HB.out.below hb1 hgl)
  have hgl1 : g < w1.heap.size := by have := hb1.size; omega
  have hz1 : w.heap.size ≤ w1.heap.size := hb1.size
  have HB1 := Lib.hid hb1
  clear hown0 hb1 q
  go_wp2_with fail
  refine wp_loop_rounds 3 ?_
  rw [rounds_succ]
  go_wp2_with (at_builtin; refine append_sl w1 rfl (.tmp 31) (.tmp 32) 23 rfl w.heap.size 86 underD infoD rfl (by decide) _ 0 [] l1 rfl HOWN0.out F1 _ n1 rfl (HS1.out.later HB1.out) HO1.out (by omega) (by decide) hz1 ?_)
  intro v1' w2 hown1 hb2
  have HOWN1 := Lib.hid hown1
  have q2 := wcell2 ((HB.out.below HB1.out hgl).below hb2 hgl)
  have hgl2 : g < w2.heap.size := by have := hb2.size; omega
  have hz2 : w.heap.size ≤ w2.heap.size := by have := hb2.size; omega
  have HB2 := Lib.hid (HB1.out.trans hb2)
  clear hown1 hb2 q1
  go_wp2_with fail
  rw [rounds_succ]
  go_wp2_with (at_builtin; refine append_sl w2 rfl (.tmp 31) (.tmp 32) 23 rfl w.heap.size 86 underD infoD rfl (by decide) _ _ _ l2 rfl HOWN1.out F2 _ n2 rfl (HS2.out.later HB2.out) HO2.out (by omega) (by decide) hz2 ?_)
  intro v2' w3 hown2 hb3
  have HOWN2 := Lib.hid hown2
  have q3 := wcell2 ((HB.out.below HB2.out hgl).below hb3 hgl)
  have hgl3 : g < w3.heap.size := by have := hb3.size; omega
  have HB3 := Lib.hid (HB2.out.trans hb3)
  clear hown2 hb3 q2
  go_wp2_with fail
  rw [rounds_succ]
  go_wp2_with fail
  go_ret
  refine ⟨_, rfl, ?_, HB3.out⟩
  have := HOWN2.out
  simpa using this
end Go.Proofs.YthejmnmkbldacaaGreatDoor

namespace Go.Proofs.YthejmnmkbldacaaGreatDoor
open Go.RowKit
attribute [local go_sem] Tab.Env.ev Tab.Env.get

/-- no row in it is long -/
def SmD (l : List DE) : Prop := ∀ d, d ∈ l → d.row.length < 1073741824 ∧ ∀ x, x ∈ d.row → smV x
theorem absN_ranged {l : List DE} (h : rangedB l = true) : absN DE.n l ≤ l.length * 1099511627776 := by
  induction l with
  | nil => simp [absN]
  | cons d l ih =>
    have h1 := List.all_eq_true.1 h
    have h2 := h1 d (by simp)
    have h3 := ih (List.all_eq_true.2 fun x hx => h1 x (List.mem_cons_of_mem _ hx))
    unfold timesB at h2
    simp at h2
    simp only [absN, List.length_cons]
    omega
/-- what summed answers -/
def SummedPost (l : List DE) (w : World) (e : Ending) (w' : World) : Prop :=
  Below w.heap.size w w' ∧ ((e = .returned (.tuple #[.slice none 0 0, .int .i64 3]) ∧ (rangedB l = false ∨ ∃ out, Canon cmpD DE.n setN l out ∧ rangedB out = false)) ∨
    ∃ v' out l', e = .returned (.tuple #[v', .int .i64 0]) ∧ rangedB l = true ∧ Canon cmpD DE.n setN l out ∧ rangedB out = true ∧ SameD out l' ∧ RD w' (fun b => w.heap.size ≤ b) (fun b => w.heap.size ≤ b) v' l')
theorem Canon.sm {l out : List DE} (h : Canon cmpD DE.n setN l out) (hs : SmD l) : SmD out := fun d hd => by
  obtain ⟨e, he, h1⟩ := h.mem d hd
  have := hs e he
  rw [h1]
  exact this

set_option maxHeartbeats 1000000 in
theorem summed_any (F F' : Nat → Prop) (v : Value) (l : List DE) (w : World) (h : RD w F F' v l) (hn : l.length < 4194304) (hsm : SmD l) :
    Calls Tryz.prog 50 #[v] w (SummedPost l w) := by
  have HR := Lib.hid (ranged_any F F' v l w h (by omega))
  have HRD := Lib.hid h
  have HSM := Lib.hid hsm
  clear h hsm
  cases hr : rangedB l with
  | false =>
    rw [hr] at HR
    have HRB := Lib.hid hr
    clear hr
    go_enter Tryz.func50, Tryz.ntmps50
    go_wp2_with fail
    refine HR.out.mono ?_
    rintro e w1 ⟨rfl, hb⟩
    go_wp2_with fail
    go_ret2
    exact ⟨hb, .inl ⟨rfl, .inl HRB.out⟩⟩
  | true =>
    rw [hr] at HR
    have habs : absN DE.n l ≤ 4611686018427387904 := by
      have := absN_ranged hr
      omega
    have HRB := Lib.hid hr
    have HCN := Lib.hid (fun w1 (hb : Below w.heap.size w w1) => canonical_any F F' v l w1 (HRD.out.later hb) (by omega) habs)
    clear hr habs
    go_enter Tryz.func50, Tryz.ntmps50
    go_wp2_with fail
    refine HR.out.mono ?_
    rintro e w1 ⟨rfl, hb⟩
    go_wp2_with fail
    refine (HCN.out w1 hb).mono ?_
    rintro e w2 ⟨v2, out, rfl, o1, o2, o3⟩
    have hb2 := hb.trans (o3.mono hb.size)
    have O1 := Lib.hid o1
    have O2 := Lib.hid o2
    have holen : out.length < 4194304 := by have := o2.len; omega
    have HR2 := Lib.hid (ranged_any _ _ v2 out w2 o1.rd (by omega))
    clear o1 o2 o3 HCN hb
    go_wp2_with fail
    refine HR2.out.mono ?_
    rintro e w3 ⟨rfl, hb3⟩
    have hb4 := hb2.trans (hb3.mono hb2.size)
    cases hr2 : rangedB out with
    | false =>
      have HRB2 := Lib.hid hr2
      clear hr2 hb2 hb3
      go_wp2_with fail
      go_ret2
      exact ⟨hb4, .inl ⟨rfl, .inr ⟨out, O2.out, HRB2.out⟩⟩⟩
    | true =>
      have HRB2 := Lib.hid hr2
      have HCP := Lib.hid (copyDeltas_any _ _ v2 out w3 (O1.out.rd.later hb3) (by omega) (O2.out.sm HSM.out))
      clear hr2 hb2 hb3 HR HR2
      go_wp2_with fail
      refine HCP.out.mono ?_
      rintro e w5 ⟨v5, l5, rfl, p1, p2, p3⟩
      have P := Lib.hid (And.intro (hb4.trans (p3.mono hb4.size)) (And.intro p2 (p1.mono (F2 := fun b => w.heap.size ≤ b) (F2' := fun b => w.heap.size ≤ b) (fun b hb _ => Nat.le_trans hb4.size hb) (fun b hb _ => Nat.le_trans hb4.size hb))))
      clear p1 p2 p3 HCP
      go_wp2_with fail
      go_ret2
      exact ⟨P.out.1, .inr ⟨v5, out, l5, rfl, HRB.out, O2.out, HRB2.out, P.out.2.1, P.out.2.2⟩⟩
end Go.Proofs.YthejmnmkbldacaaGreatDoor

namespace Go.Proofs.YthejmnmkbldacaaGreatDoor
open Go.RowKit
attribute [local go_sem] Tab.Env.ev Tab.Env.get

/-- what Sum answers -/
def SumPost (l : List DE) (w : World) (e : Ending) (w' : World) : Prop :=
  (Below w.heap.size w w' ∧ e = .returned (.tuple #[.slice none 0 0, .int .i64 1]) ∧ allSound l = false) ∨ (allSound l = true ∧ SummedPost l w e w')
theorem SummedPost.from_ {l : List DE} {w w1 w' : World} {e : Ending} (h : SummedPost l w1 e w') (hb : Below w.heap.size w w1) : SummedPost l w e w' := by
  refine ⟨hb.trans (h.1.mono hb.size), ?_⟩
  rcases h.2 with h | ⟨v', out, l', h1, h2, h3, h4, h5, h6⟩
  · exact .inl h
  · exact .inr ⟨v', out, l', h1, h2, h3, h4, h5, h6.mono (fun b hb' _ => Nat.le_trans hb.size hb') (fun b hb' _ => Nat.le_trans hb.size hb')⟩
/-- two lists one behind the other -/
theorem RD.append {w : World} {base : Nat} {F1 F2 : Nat → Prop} {v : Value} {a b : List DE} (h : w.ownsRow base 86 2 v (a.length + b.length) (dcells a ++ dcells b)) (h1 : ∀ d, d ∈ a → d.good w F1) (h2 : ∀ d, d ∈ b → d.good w F2) : RD w (fun b => base ≤ b) (fun b => F1 b ∨ F2 b) v (a ++ b) := by
  refine ⟨by rw [dcells_append, List.length_append]; exact SL.of_own h, fun d hd => ?_⟩
  rcases List.mem_append.1 hd with hd | hd
  · exact ⟨(h1 d hd).row.mono fun b hb _ => .inl hb, (h1 d hd).n⟩
  · exact ⟨(h2 d hd).row.mono fun b hb _ => .inr hb, (h2 d hd).n⟩
theorem SmD.append {a b : List DE} (h1 : SmD a) (h2 : SmD b) : SmD (a ++ b) := fun d hd => (List.mem_append.1 hd).elim (h1 d) (h2 d)

set_option maxHeartbeats 1000000 in
theorem sum_any (F1 F1' F2 F2' : Nat → Prop) (va vb : Value) (a b : List DE) (w : World) (ha : RD w F1 F1' va a) (hb : RD w F2 F2' vb b) (hn : a.length + b.length < 4194304) (hsa : SmD a) (hsb : SmD b) (hT : Tabs w) :
    Calls Tryz.prog 28 #[va, vb] w (SumPost (a ++ b) w) := by
  obtain ⟨A1, c1, e1, -, -⟩ := rd_shape ha
  obtain ⟨A2, c2, e2, -, -⟩ := rd_shape hb
  have hbl := below_new w (.cells #[va, vb] 23)
  have HB := Lib.hid hbl
  have HCC := Lib.hid (concatD_any F1 F2 va vb (dcells a) (dcells b) a.length b.length w.heap.size (w.alloc (.cells #[va, vb] 23)) (Blk.new w _ _) (ha.sl.later hbl) (hb.sl.later hbl) (dcells_one ha.good) (dcells_one hb.good) (by omega))
  have HA := Lib.hid ha
  have HBB := Lib.hid hb
  have HS := Lib.hid (hsa.append hsb)
  have HT := Lib.hid hT
  rw [e1, e2] at HCC HB ⊢
  clear ha hb hsa hsb hT hbl e1 e2
  go_enter Tryz.func28, Tryz.ntmps28
  go_wp2_with fail
  refine HCC.out.mono ?_
  rintro e w1 ⟨v, rfl, hown, hb1⟩
  have hz : w.heap.size ≤ (w.alloc (.cells #[Value.slice A1 a.length c1, .slice A2 b.length c2] 23)).heap.size := HB.out.size
  have hbel := HB.out.trans (hb1.mono hz)
  have HRD := Lib.hid (RD.append hown (fun d hd => ⟨(HA.out.good d hd).row.later hbel, (HA.out.good d hd).n⟩) (fun d hd => ⟨(HBB.out.good d hd).row.later hbel, (HBB.out.good d hd).n⟩))
  have HSND := Lib.hid (soundS_any _ _ v (a ++ b) w1 HRD.out (by rw [List.length_append]; omega) (HT.out.later hbel))
  clear hown hb1 HCC
  go_wp2_with fail
  refine HSND.out.mono ?_
  rintro e w2 ⟨rfl, hb2⟩
  have hbel2 := hbel.trans (hb2.mono hbel.size)
  cases hs : allSound (a ++ b) with
  | false =>
    have HS0 := Lib.hid hs
    clear hs
    go_wp2_with fail
    go_ret2
    exact .inl ⟨hbel2, rfl, HS0.out⟩
  | true =>
    have HS0 := Lib.hid hs
    have HSM := Lib.hid (summed_any _ _ v (a ++ b) w2 (HRD.out.later hb2) (by rw [List.length_append]; omega) HS.out)
    clear hs hb2 HSND
    go_wp2_with fail
    refine HSM.out.mono ?_
    rintro e w3 hp
    have HP := Lib.hid (hp.from_ hbel2)
    rcases hp.2 with ⟨rfl, _⟩ | ⟨v', out, l', rfl, _⟩
    · clear hp
      go_wp2_with fail
      go_ret2
      exact .inr ⟨HS0.out, HP.out⟩
    · clear hp
      go_wp2_with fail
      go_ret2
      exact .inr ⟨HS0.out, HP.out⟩
end Go.Proofs.YthejmnmkbldacaaGreatDoor

namespace Go.Proofs.YthejmnmkbldacaaGreatDoor
open Go.RowKit
attribute [local go_sem] Tab.Env.ev Tab.Env.get

/-- a row of one number -/
def rowV (n : Int) : List VD := [.mk 2 n 0 .empty []]
theorem ri_row {w : World} {g : Nat} {n : Int} (hn : I64 n) (h : Blk w g 33 [.int .i64 2, .int .i64 n, .int .i64 0, .string .empty, .slice none 0 0]) : RI w (fun b => b = g) (.slice (some ⟨g, 0, none⟩) 1 1) (rowV n) := by
  have q := wcell5 h
  refine RI.mk (some ⟨g, 0, none⟩) 1 (rowV n) (fun _ => none) (fun _ => 0) (Nat.le_refl _) (by unfold maxLen; omega) (fun _ => ⟨g, 0, rfl, rfl, h.lt, fun i hi => ?_⟩) (fun i hi => ?_) (fun i hi => ?_)
  · obtain rfl : i = 0 := by simp [rowV] at hi; omega
    exact ⟨q.1, q.2.1, q.2.2.1, q.2.2.2.1, q.2.2.2.2⟩
  · obtain rfl : i = 0 := by simp [rowV] at hi; omega
    exact ⟨show I64 2 by unfold I64; decide, hn, show I64 0 by unfold I64; decide, Nat.zero_le _⟩
  · obtain rfl : i = 0 := by simp [rowV] at hi; omega
    exact RI.nil _ _

set_option maxHeartbeats 400000 in
theorem row_any (n : Int) (hn : I64 n) (w : World) :
    Calls Tryz.prog 63 #[.int .i64 n] w fun e w' => ∃ g, e = .returned (.slice (some ⟨g, 0, none⟩) 1 1) ∧ w.heap.size ≤ g ∧ RI w' (fun b => b = g) (.slice (some ⟨g, 0, none⟩) 1 1) (rowV n) ∧ Below w.heap.size w w' := by
  have HN := Lib.hid hn
  clear hn
  go_enter Tryz.func63, Tryz.ntmps63
  go_wp2_with fail
  go_ret
  exact ⟨_, rfl, Nat.le_refl _, ri_row HN.out (Blk.new _ _ _), below_new _ _⟩

theorem rowV_sound (n : Int) (h1 : -999999999999999999 ≤ n) (h2 : n ≤ 999999999999999999) : rowSound (rowV n) = true := by
  have hp : plainF 2 n 0 .empty 0 = true := by
    have : plainF 2 n 0 .empty 0 = plain2 n 0 .empty 0 := rfl
    rw [this]
    unfold plain2
    have hs : sEmpty .empty = true := by simp [sEmpty, ByteArray.toList, ByteArray.toList.loop]
    rw [hs]
    simp
    omega
  have hv : soundB (.mk 2 n 0 .empty []) = true := by
    unfold soundB
    rw [soundV_eq]
    have e : plainF (VD.mk 2 n 0 .empty []).k (VD.mk 2 n 0 .empty []).n (VD.mk 2 n 0 .empty []).sc (VD.mk 2 n 0 .empty []).s (VD.mk 2 n 0 .empty []).items.length = true := hp
    rw [e, if_neg (by simp [VD.k])]
    simp [VD.items, soundL]
  unfold rowSound rowV
  simp only [List.all_cons, List.all_nil, Bool.and_true]
  exact hv
theorem rowV_sm (n : Int) : ∀ x, x ∈ rowV n → smV x := fun x hx => by
  rw [List.mem_singleton.1 hx]
  exact ⟨by simp, trivial⟩

/-- the two differences -/
def sumsL (v1 v2 : Value) : List DE := [⟨v1, rowV 1, 1⟩] ++ [⟨v2, rowV 1, 2⟩]
theorem sumsL_out {v1 v2 : Value} {out : List DE} (h : Canon cmpD DE.n setN (sumsL v1 v2) out) : ∃ d, out = [d] ∧ d.n = 3 := by
  have hz : ∀ x, x ∈ out → x.row = rowV 1 := fun x hx => by
    obtain ⟨e, he, h1⟩ := h.mem x hx
    rw [h1]
    simp only [sumsL, List.singleton_append, List.mem_cons, List.mem_nil_iff, or_false] at he
    rcases he with rfl | rfl <;> rfl
  have hself := cmpD_ord.self (DE.mk v1 (rowV 1) 1)
  have hc : ∀ x y, x ∈ out → y ∈ out → cmpD x y = 0 := fun x y hx hy => by
    unfold cmpD
    rw [hz x hx, hz y hy]
    exact hself
  have ht := h.tot ⟨v1, rowV 1, 1⟩
  have e3 : tot cmpD DE.n (DE.mk v1 (rowV 1) 1) (sumsL v1 v2) = 3 := by
    have e1 : cmpD (DE.mk v2 (rowV 1) 2) (DE.mk v1 (rowV 1) 1) = 0 := hself
    simp only [sumsL, List.singleton_append, tot]
    rw [if_pos hself, if_pos e1]
    rfl
  rw [e3] at ht
  match out, h.strict, hc, hz, ht with
  | [], _, _, _, ht => simp [tot] at ht
  | [d], _, _, hz, ht =>
    refine ⟨d, rfl, ?_⟩
    have e1 : cmpD d (DE.mk v1 (rowV 1) 1) = 0 := by
      unfold cmpD
      rw [hz d (by simp)]
      exact hself
    simp only [tot] at ht
    rw [if_pos e1] at ht
    omega
  | a :: b :: l, hst, hc, _, _ =>
    have h1 := (List.pairwise_cons.1 hst).1 b (by simp)
    have h2 := hc a b (by simp) (by simp)
    omega

/-- one difference in a block *of* its own -/
theorem rd_one {w : World} {g : Nat} {rv : Value} {row : List VD} {n : Int} {F : Nat → Prop} (h : Blk w g 86 [rv, .int .i64 n]) (hr : RI w F rv row) (hn : I64 n) : RD w (fun b => b = g) F (.slice (some ⟨g, 0, none⟩) 1 1) [⟨rv, row, n⟩] :=
  ⟨⟨rfl, _, 1, rfl, Nat.le_refl _, by unfold maxLen; omega, fun _ => ⟨g, 0, rfl, rfl, h.lt, fun j u hj => by rw [Nat.zero_add, h.cell]; exact hj⟩⟩, fun d hd => by
    rw [List.mem_singleton.1 hd]
    exact ⟨hr, hn⟩⟩

set_option maxHeartbeats 1000000 in
theorem sums_any (w : World) (hT : Tabs w) :
    Calls Tryz.prog 12 #[] w fun e w' => e = .returned (.bool true) ∧ Below w.heap.size w w' := by
  have HT := Lib.hid hT
  have HR := Lib.hid (fun W => row_any 1 (by unfold I64; decide) W)
  clear hT
  go_enter Tryz.func12, Tryz.ntmps12
  go_wp2_with fail
  refine (HR.out _).mono ?_
  rintro e w1 ⟨g1, rfl, hg1, hri1, hb1⟩
  have HRI1 := Lib.hid hri1
  have HB1 := Lib.hid hb1
  clear hri1 hb1
  go_wp2_with fail
  refine (HR.out _).mono ?_
  rintro e w2 ⟨g2, rfl, hg2, hri2, hb2⟩
  have HRI2 := Lib.hid hri2
  have b1 := ((Blk.new w1 86 [.slice (some ⟨g1, 0, none⟩) 1 1, .int .i64 1]).below hb2 (Blk.new w1 86 [.slice (some ⟨g1, 0, none⟩) 1 1, .int .i64 1]).lt)
  have hbn := below_new w2 (.cells #[.slice (some ⟨g2, 0, none⟩) 1 1, .int .i64 2] 86)
  have hb12 := (below_new w1 (.cells #[.slice (some ⟨g1, 0, none⟩) 1 1, .int .i64 1] 86)).trans (hb2.mono (below_new w1 (.cells #[.slice (some ⟨g1, 0, none⟩) 1 1, .int .i64 1] 86)).size)
  have RD1 := Lib.hid ((rd_one b1 (HRI1.out.later hb12) (show I64 1 by unfold I64; decide)).later hbn)
  have RD2 := Lib.hid (rd_one (Blk.new w2 86 [.slice (some ⟨g2, 0, none⟩) 1 1, .int .i64 2]) (HRI2.out.later hbn) (show I64 2 by unfold I64; decide))
  have hball := HB1.out.trans ((hb12.trans (hbn.mono hb12.size)).mono HB1.out.size)
  have HBA := Lib.hid hball
  have HS := Lib.hid (sum_any _ _ _ _ _ _ _ _ _ RD1.out RD2.out (by simp) (fun d hd => by rw [List.mem_singleton.1 hd]; exact ⟨by simp [rowV], rowV_sm 1⟩) (fun d hd => by rw [List.mem_singleton.1 hd]; exact ⟨by simp [rowV], rowV_sm 1⟩) (HT.out.later hball))
  clear hri2 hb2 b1 hbn hb12 hball
  go_wp2_with fail
  refine HS.out.mono ?_
  rintro e w3 (⟨_, rfl, h⟩ | ⟨_, hb3, h⟩)
  · exfalso
    simp only [allSound, List.singleton_append, List.all_cons, List.all_nil, Bool.and_true] at h
    rw [rowV_sound 1 (by decide) (by decide)] at h
    exact absurd h (by decide)
  · rcases h with ⟨rfl, h | ⟨out, hc, h⟩⟩ | ⟨v', out, l', rfl, _, hc, _, hsd, hrd⟩
    · exfalso
      simp only [rangedB, List.singleton_append, List.all_cons, List.all_nil, Bool.and_true] at h
      exact absurd h (by decide)
    · obtain ⟨d, rfl, hd⟩ := sumsL_out hc
      exfalso
      simp only [rangedB, List.all_cons, List.all_nil, Bool.and_true, hd] at h
      exact absurd h (by decide)
    · obtain ⟨d, rfl, hd⟩ := sumsL_out hc
      have hl1 : l'.length = 1 := by
        have := congrArg List.length hsd
        simpa using this
      obtain ⟨d', rfl⟩ : ∃ d', l' = [d'] := by
        match l', hl1 with
        | [x], _ => exact ⟨x, rfl⟩
      have hn : d'.n = 3 := by
        have : (d'.row, d'.n) = (d.row, d.n) := by simpa [SameD] using hsd
        rw [← hd]
        exact congrArg Prod.snd this
      obtain ⟨b, off, c, A, m, c', row, k, rfl, hc1, hc2, hb, he, -, q1, q2⟩ := hrd.at_ (i := 0) (by simp)
      have hk : k = 3 := by rw [← hn]; exact (congrArg DE.n he).symm
      subst hk
      have HB3 := Lib.hid (HBA.out.trans (hb3.mono HBA.out.size))
      clear hrd hc hd he hn hsd hb3 HS
      go_wp2_with fail
      go_ret
      exact ⟨rfl, HB3.out⟩
end Go.Proofs.YthejmnmkbldacaaGreatDoor

namespace Go.Proofs.YthejmnmkbldacaaGreatDoor
open Go.RowKit

structure LawI (D : GateD) (ws : List RE) (col : Int) (count seen : Nat) (last : Int) : Prop where
  hcol : D.column = col
  hsum : seen + ws.length ≤ count
  hlast : last ≤ D.mark
  ge : ∀ e, e ∈ ws → last ≤ atOf col e.row
  mom : Mom last

theorem offStep_inv (i : Nat) (last : Int) (st : GateD × List (List VD) × List (List VD)) (r : List VD) (h : last ≤ st.1.mark) : st.1.mark ≤ (offStep i st r).1.mark ∧ ∀ x, x ∈ (offStep i st r).2.2 → x ∈ st.2.2 ∨ last ≤ atOf st.1.column x := by
  unfold offStep
  split
  · exact ⟨Int.le_refl _, fun x hx => .inl hx⟩
  · rename_i hc
    refine ⟨advD_mark (setSrc st.1 i _), fun x hx => ?_⟩
    rcases List.mem_append.1 hx with hx | hx
    · exact .inl hx
    · rw [List.mem_singleton.1 hx]
      right
      omega
theorem offAll_inv (i : Nat) (last : Int) : ∀ (l : List (List VD)) (st : GateD × List (List VD) × List (List VD)), last ≤ st.1.mark → st.1.mark ≤ (offAll i st l).1.mark ∧ ∀ x, x ∈ (offAll i st l).2.2 → x ∈ st.2.2 ∨ last ≤ atOf st.1.column x
  | [], st, _ => ⟨Int.le_refl _, fun x hx => .inl hx⟩
  | r :: l, st, h => by
    have h1 := offStep_inv i last st r h
    have h2 := offAll_inv i last l (offStep i st r) (Int.le_trans h h1.1)
    refine ⟨Int.le_trans h1.1 h2.1, fun x hx => ?_⟩
    rcases h2.2 x hx with k | k
    · exact h1.2 x k
    · rw [(offStep_column i st r).1] at k
      exact .inr k
section
variable {D : GateD} {ws ws' ls : List RE} {col : Int} {count seen : Nat} {last : Int}
theorem LawI.offer (h : LawI D ws col count seen last) (i : Nat) (l : List (List VD)) (hw : rowsD ws' = (offAll i (offBegin D i, [], []) l).2.2) (hl : rowsD ls = (offAll i (offBegin D i, [], []) l).2.1) :
    LawI (offAll i (offBegin D i, [], []) l).1 (ws ++ ws') col (count + l.length) (seen + ls.length) last ∧ D.mark ≤ (offAll i (offBegin D i, [], []) l).1.mark := by
  have hb : D.mark ≤ (offBegin D i).mark := advD_mark (setSrc D i _)
  have h1 := offAll_inv i last l (offBegin D i, [], []) (Int.le_trans h.hlast hb)
  have h2 := offAll_column i l (offBegin D i, [], [])
  have h3 := offAll_len i l (offBegin D i, [], [])
  have h4 := congrArg List.length hw
  have h5 := congrArg List.length hl
  rw [rowsD_len] at h4 h5
  have hc : (offBegin D i).column = D.column := (offBegin_column D i).1
  have hsum := h.hsum
  have hlast := h.hlast
  have hm := h1.1
  simp only [List.length_nil, Nat.zero_add] at h3 hm
  refine ⟨⟨h2.1.trans (hc.trans h.hcol), by rw [List.length_append]; omega, by omega, fun e he => ?_, h.mom⟩, by omega⟩
  rcases List.mem_append.1 he with he | he
  · exact h.ge e he
  · have : e.row ∈ rowsD ws' := List.mem_map.2 ⟨e, he, rfl⟩
    rw [hw] at this
    rcases h1.2 _ this with k | k
    · exact absurd k (by simp)
    · rw [show ((offBegin D i, ([] : List (List VD)), ([] : List (List VD))).1).column = col from hc.trans h.hcol] at k
      exact k
theorem LawI.idle (h : LawI D ws col count seen last) (i : Nat) : LawI (idleD D i) ws col count seen last ∧ D.mark ≤ (idleD D i).mark := by
  unfold idleD
  split
  · rename_i s0 _
    have hb : D.mark ≤ (advD (setSrc D i (s0.1, true))).mark := advD_mark (setSrc D i (s0.1, true))
    exact ⟨⟨(advD_column _).trans h.hcol, h.hsum, Int.le_trans h.hlast hb, h.ge, h.mom⟩, hb⟩
  · exact ⟨h, Int.le_refl _⟩
theorem rel_len (D : GateD) (ws : List RE) : (relOut D ws).length + (relKeep D ws).length = ws.length := by
  unfold relOut relKeep
  induction ws with
  | nil => rfl
  | cons e l ih =>
    cases h : relP D e <;> simp [h] <;> omega
theorem LawI.release (h : LawI D ws col count seen last) (hm : Mom D.mark) : LawI D (relKeep D ws) col count (seen + (relOut D ws).length) D.mark := by
  have h1 := rel_len D ws
  have h2 := h.hsum
  refine ⟨h.hcol, by omega, Int.le_refl _, fun e he => ?_, hm⟩
  have := (List.mem_filter.1 he).2
  simp only [relP, Bool.not_eq_true', decide_eq_false_iff_not] at this
  rw [h.hcol] at this
  omega
theorem relOut_keep (D : GateD) (ws : List RE) : relOut D (relKeep D ws) = [] := by
  unfold relOut relKeep
  rw [List.filter_eq_nil_iff]
  intro e he
  have := (List.mem_filter.1 he).2
  simpa using this
theorem relKeep_keep (D : GateD) (ws : List RE) : relKeep D (relKeep D ws) = relKeep D ws := by
  unfold relKeep
  rw [List.filter_filter]
  congr 1
  funext e
  simp
theorem sumN_ones (l : List RE) : sumN DE.n (onesOf l) = l.length := by
  induction l with
  | nil => rfl
  | cons e l ih =>
    have : onesOf (e :: l) = ⟨e.rv, e.row, 1⟩ :: onesOf l := rfl
    rw [this]
    simp only [sumN, ih, List.length_cons]
    omega
theorem tot_ones_nonneg (r : DE) (l : List RE) : 0 ≤ tot cmpD DE.n r (onesOf l) := by
  induction l with
  | nil => exact Int.le_refl _
  | cons e l ih =>
    have : onesOf (e :: l) = ⟨e.rv, e.row, 1⟩ :: onesOf l := rfl
    rw [this]
    simp only [tot]
    split <;> omega
theorem tot_ones_pos (r : DE) {l : List RE} {d : DE} (hd : d ∈ onesOf l) (hc : cmpD d r = 0) : 1 ≤ tot cmpD DE.n r (onesOf l) := by
  induction l with
  | nil => cases hd
  | cons e l ih =>
    have e1 : onesOf (e :: l) = ⟨e.rv, e.row, 1⟩ :: onesOf l := rfl
    rw [e1] at hd ⊢
    have h0 := tot_ones_nonneg r l
    simp only [tot]
    rcases List.mem_cons.1 hd with rfl | hd
    · rw [if_pos hc]
      show 1 ≤ (1 : Int) + _
      omega
    · have := ih hd
      split <;> omega
/-- what is released -/
theorem out_facts {out : List DE} (h : Canon cmpD DE.n setN (onesOf (relOut D ws)) out) (hi : LawI D ws col count seen last) (hm : ∀ e, e ∈ ws → MomRow D.column e.row) :
    (∀ d, d ∈ out → 1 ≤ d.n ∧ MomRow col d.row ∧ last ≤ atOf col d.row ∧ atOf col d.row < D.mark) ∧ sumN DE.n out = (relOut D ws).length := by
  refine ⟨fun d hd => ?_, by rw [h.sum, sumN_ones]⟩
  obtain ⟨e, he, h1⟩ := h.mem d hd
  have hrow : d.row = e.row := by rw [h1]; rfl
  obtain ⟨x, hx, rfl⟩ := List.mem_map.1 he
  have hxw := (List.mem_filter.1 hx).1
  have hxp := (List.mem_filter.1 hx).2
  simp only [relP, decide_eq_true_eq] at hxp
  rw [hi.hcol] at hxp
  have hmx := hm x hxw
  rw [hi.hcol] at hmx
  rw [hrow]
  refine ⟨?_, hmx, hi.ge x hxw, hxp⟩
  have h2 := tot_strict (n := DE.n) cmpD_ord h.strict hd
  rw [h.tot d] at h2
  have h3 := tot_ones_pos d he (by unfold cmpD; rw [hrow]; exact cmpD_ord.self ⟨x.rv, x.row, 1⟩)
  omega
theorem out_nil {out : List DE} (h : Canon cmpD DE.n setN (onesOf ([] : List RE)) out) : out = [] := by
  match out, h.mem with
  | [], _ => rfl
  | d :: l, hm =>
    obtain ⟨e, he, _⟩ := hm d (by simp)
    cases he
theorem sumN_take_bound {out : List DE} (h : ∀ d, d ∈ out → 1 ≤ d.n) (k : Nat) : 0 ≤ sumN DE.n (out.take k) ∧ sumN DE.n (out.take k) ≤ sumN DE.n out := by
  have hn : ∀ l : List DE, (∀ d, d ∈ l → 1 ≤ d.n) → 0 ≤ sumN DE.n l := fun l => by
    induction l with
    | nil => intro _; exact Int.le_refl _
    | cons d l ih =>
      intro h
      have h1 := h d (by simp)
      have h2 := ih fun x hx => h x (List.mem_cons_of_mem _ hx)
      simp only [sumN]
      omega
  have h1 := hn (out.take k) fun d hd => h d (List.mem_of_mem_take hd)
  have h2 := hn (out.drop k) fun d hd => h d (List.mem_of_mem_drop hd)
  have h3 : sumN DE.n out = sumN DE.n (out.take k) + sumN DE.n (out.drop k) := by
    rw [← sumN_append, List.take_append_drop]
  omega
theorem rowsIn_take (l : List OpE) {k : Nat} (h : k < l.length) : rowsIn (l.take (k + 1)) = rowsIn (l.take k) + (dat l k).rows.length := by
  rw [List.take_succ_eq_append_getElem h, ← dat_eq h]
  unfold rowsIn
  rw [List.map_append, List.sum_append]
  simp
theorem rowsIn_le (l : List OpE) (k : Nat) : rowsIn (l.take k) ≤ rowsIn l := by
  have : rowsIn l = rowsIn (l.take k) + rowsIn (l.drop k) := by
    unfold rowsIn
    rw [← List.sum_append, ← List.map_append, List.take_append_drop]
  omega
end
end Go.Proofs.YthejmnmkbldacaaGreatDoor
