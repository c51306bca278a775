/-
  What is proved: what reads as a list of differences lies as these texts say. Conditions: none.
-/
import Derived.Test.YthejmnmkbldacaaGreatDoorAp29
set_option linter.all false
namespace Go.Proofs.YthejmnmkbldacaaGreatDoor
open Go.RowKit Go.Deep
theorem cDel : Tryz.prog.cellsOf 86 = 2 := by kernel_rfl
theorem fDel : fieldsOf Tryz.prog 86 = some [(31, 0), (3, 1)] := by kernel_rfl
theorem twoOf {α : Type} {l : List α} (h : l.length = 2) : ∃ a b, l = [a, b] := by
  match l, h with
  | [a, b], _ => exact ⟨a, b, rfl⟩
section
variable {H : Type} {enc : TypeId × Value → H} {w : World} {spare : Nat → Bool} {held : Bool}
/-- what reads as a list of differences -/
theorem open_deltas {fuel : Nat} {cs : List Value} {x : DataW H × List MemPlace} (h : DataW.trod enc Tryz.prog w 0 spare held fuel 23 cs = some x) :
    ∃ (v : Value) (l : List DE), cs = [v] ∧ RD w (fun b => b < w.heap.size) (fun b => b < w.heap.size) v l ∧ l.length ≤ Rows.uptoBulk x.1 ∧ (Rows.uptoBulk x.1 ≤ 1048576 → ∀ d, d ∈ l → d.row.length < 1073741824 ∧ ∀ y, y ∈ d.row → smV y) := by
  rcases open_elems underD cDel h with rfl | ⟨a, len, cap, elems, n, rfl, rfl, hl, hm, hlen, hbulk, hel⟩
  · exact ⟨_, [], rfl, RD.nil _ _ _, Nat.zero_le _, fun _ o ho => (List.not_mem_nil ho).elim⟩
  · have hval : ∀ {n : Nat} {cs : List Value} {y : DataW H × List MemPlace}, DataW.trod enc Tryz.prog w 0 spare held n 86 cs = some y → ∃ (s : Int) (rv : Value) (row : List VD), cs = [rv, .int .i64 s] ∧ I64 s ∧
        RI w (fun b => b < w.heap.size) rv row ∧ (Rows.uptoBulk y.1 ≤ 1048576 → row.length < 1073741824 ∧ ∀ y, y ∈ row → smV y) := by
      intro n cs y hy
      obtain ⟨xs, m, rfl, rfl, hl, hxl, hf⟩ := trod_fields fDel hy
      rw [cDel] at hl
      obtain ⟨x0, x1, rfl⟩ := twoOf hxl
      obtain ⟨c0, c1, rfl⟩ := twoOf hl
      have f0 := hf 0 _ _ rfl
      have f1 := hf 1 _ _ rfl
      rw [cInt] at f1
      rw [cSlV] at f0
      obtain ⟨s, e1, _, w1⟩ := DataW.trod_int uInt f1
      obtain ⟨rv, row, e0, hri, hsm⟩ := open_row _ _ _ f0
      simp at e0 e1
      subst e0 e1
      have hb : Rows.uptoBulk x0.1 ≤ Rows.uptoBulk (DataW.agg (List.map (fun x => x.1) [x0, x1])) := by
        simp only [List.map_cons, List.map_nil, Rows.uptoBulk, Rows.uptoBulkAll]
        omega
      exact ⟨s, c0, row, rfl, i64_of_wf w1, hri, fun h => hsm (Nat.le_trans hb h)⟩
    have hspot : 0 < len → a.spot = none ∧ a.block < w.heap.size := fun h0 => by
      obtain ⟨cs', y, hy, hcl, hcell, ht⟩ := hel 0 h0
      obtain ⟨s, rv, row, rfl, _⟩ := hval ht
      have c0 := hcell 0 (by omega)
      rw [Nat.zero_mul, Nat.zero_add] at c0
      exact addr_spot c0
    have hx : ∀ i, i < len → ∃ d : DE, (w.cell? ⟨a.block, a.off + i * 2, none⟩ = some d.rv ∧ w.cell? ⟨a.block, a.off + i * 2 + 1, none⟩ = some (.int .i64 d.n)) ∧ d.good w (fun b => b < w.heap.size) ∧
        (Rows.uptoBulk x.1 ≤ 1048576 → d.row.length < 1073741824 ∧ ∀ y, y ∈ d.row → smV y) := by
      intro i hi
      obtain ⟨cs', y, hy, hcl, hcell, ht⟩ := hel i hi
      obtain ⟨s, rv, row, rfl, ok0, hri, hsm⟩ := hval ht
      obtain ⟨hsp, hlt⟩ := hspot (by omega)
      have hadd := addr_add hsp (i * 2)
      refine ⟨⟨rv, row, s⟩, ⟨(congrArg w.cell? (hadd 0)).symm.trans (hcell 0 (by omega)), (congrArg w.cell? (hadd 1)).symm.trans (hcell 1 (by omega))⟩, ⟨hri, ok0⟩, fun hb => ?_⟩
      have h1 : Rows.uptoBulk y.1 ≤ Rows.uptoBulkAll (elems.map (·.1)) := bulk_part (List.mem_map.2 ⟨y, List.mem_of_getElem? hy, rfl⟩)
      exact hsm (by omega)
    obtain ⟨f, hf⟩ := choose_lt (α := DE) hx
    have hll : ((List.range len).map f).length = len := by simp
    refine ⟨_, (List.range len).map f, rfl, ⟨⟨?_, some a, cap, by rw [hll], by rw [hll]; exact hl, hm, fun h0 => ?_⟩, fun o ho => ?_⟩, ?_, fun hb o ho => ?_⟩
    · rw [dcells_length]
    · rw [hll] at h0
      obtain ⟨hsp, hlt⟩ := hspot h0
      refine ⟨a.block, a.off, by obtain ⟨b, o, sp⟩ := a; simp only at hsp; subst hsp; rfl, hlt, hlt, fun j u hj => ?_⟩
      have hjj : j = j / 2 * 2 + j % 2 := by omega
      have hlt2 : j < (dcells ((List.range len).map f)).length := (List.getElem?_eq_some_iff.1 hj).1
      rw [dcells_length, hll] at hlt2
      have hi : j / 2 < len := by omega
      have hg := dcells_get ((List.range len).map f) (j / 2)
      rw [List.getElem?_map, List.getElem?_range hi] at hg
      have hm2 : j % 2 < 2 := Nat.mod_lt _ (by decide)
      have hoff : a.off + j = a.off + j / 2 * 2 + j % 2 := by omega
      rw [hoff]
      rw [hjj] at hj
      generalize j % 2 = r at hj hm2 ⊢
      match r, hm2, hj with
      | 0, _, hj =>
        rw [Nat.add_zero, hg.1] at hj
        rw [Nat.add_zero, (hf _ hi).1.1]
        exact hj
      | 1, _, hj =>
        rw [hg.2] at hj
        rw [(hf _ hi).1.2]
        exact hj
    · obtain ⟨i, hi, rfl⟩ := List.mem_map.1 ho
      exact (hf i (List.mem_range.1 hi)).2.1
    · have := bulk_len (elems.map (·.1))
      rw [List.length_map] at this
      rw [hll]
      omega
    · obtain ⟨i, hi, rfl⟩ := List.mem_map.1 ho
      exact (hf i (List.mem_range.1 hi)).2.2 hb
end
end Go.Proofs.YthejmnmkbldacaaGreatDoor
