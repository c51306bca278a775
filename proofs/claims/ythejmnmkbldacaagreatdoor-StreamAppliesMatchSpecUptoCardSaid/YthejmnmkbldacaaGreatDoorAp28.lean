/-
  What is proved: (no program in sight) what lies between rows leads from one to the other. Conditions: no more than 100000 rows are led to.
  What is proved: Apply of the reference. Conditions: fewer than 2^21 rows and differences each; the tables of unicode/utf8 lie as they are laid.
  What is proved: the law's own test of Sum answers true. Conditions: the tables of unicode/utf8 lie as they are laid.
-/
import Derived.Test.YthejmnmkbldacaaGreatDoorAp27
import Derived.Test.YthejmnmkbldacaaGreatDoorAp25
import Derived.Test.YthejmnmkbldacaaGreatDoorAp24
set_option linter.all false
namespace Go.Proofs.YthejmnmkbldacaaGreatDoor
open Go.RowKit

/-- how many rows compare as equal to r -/
def cntL (r : List VD) (l : List (List VD)) : Nat := l.countP fun x => decide (cmpL x r = 0)
theorem cntL_append (r : List VD) (a b : List (List VD)) : cntL r (a ++ b) = cntL r a + cntL r b := List.countP_append
theorem cntL_cons (r x : List VD) (l : List (List VD)) : cntL r (x :: l) = cntL r l + if cmpL x r = 0 then 1 else 0 := by
  unfold cntL
  rw [List.countP_cons]
  by_cases h : cmpL x r = 0 <;> simp [h]
theorem cntL_replicate (r x : List VD) (n : Nat) : cntL r (List.replicate n x) = if cmpL x r = 0 then n else 0 := by
  unfold cntL
  rw [List.countP_replicate]
  by_cases h : cmpL x r = 0 <;> simp [h]
theorem tot_expand (r : DE) (l : List DE) (h : ∀ d, d ∈ l → 0 ≤ d.n) : tot cmpD DE.n r l = cntL r.row (expandD l) := by
  induction l with
  | nil => rfl
  | cons d l ih =>
    have ih := ih fun d hd => h d (List.mem_cons_of_mem _ hd)
    have h0 := h d (List.mem_cons_self ..)
    have e : expandD (d :: l) = List.replicate d.n.toNat d.row ++ expandD l := by simp [expandD]
    rw [e, cntL_append, cntL_replicate]
    simp only [tot, ih]
    have hc : cmpD d r = cmpL d.row r.row := rfl
    rw [hc]
    split <;> omega
theorem tot_ones (r : DE) (l : List RE) : tot cmpD DE.n r (onesOf l) = cntL r.row (l.map RE.row) := by
  induction l with
  | nil => rfl
  | cons e l ih =>
    have e1 : onesOf (e :: l) = ⟨e.rv, e.row, 1⟩ :: onesOf l := rfl
    rw [e1, List.map_cons, cntL_cons]
    simp only [tot, ih]
    have hc : cmpD ⟨e.rv, e.row, 1⟩ r = cmpL e.row r.row := rfl
    rw [hc]
    split <;> omega
theorem tot_negs (r : DE) (l : List RE) : tot cmpD DE.n r (ofRowsD l (-1)) = - tot cmpD DE.n r (onesOf l) := by
  induction l with
  | nil => rfl
  | cons e l ih =>
    have e1 : onesOf (e :: l) = ⟨e.rv, e.row, 1⟩ :: onesOf l := rfl
    have e2 : ofRowsD (e :: l) (-1) = ⟨e.rv, e.row, -1⟩ :: ofRowsD l (-1) := rfl
    rw [e1, e2]
    simp only [tot, ih]
    have hc : cmpD ⟨e.rv, e.row, -1⟩ r = cmpD ⟨e.rv, e.row, 1⟩ r := rfl
    rw [hc]
    split <;> omega
theorem sumN_ones (l : List RE) : sumN DE.n (onesOf l) = l.length := by
  induction l with
  | nil => rfl
  | cons e l ih =>
    have e1 : onesOf (e :: l) = ⟨e.rv, e.row, 1⟩ :: onesOf l := rfl
    rw [e1, List.length_cons]
    simp only [sumN, ih]
    omega
theorem sumN_negs (l : List RE) : sumN DE.n (ofRowsD l (-1)) = -(l.length : Int) := by
  induction l with
  | nil => rfl
  | cons e l ih =>
    have e2 : ofRowsD (e :: l) (-1) = ⟨e.rv, e.row, -1⟩ :: ofRowsD l (-1) := rfl
    rw [e2, List.length_cons]
    simp only [sumN, ih]
    omega
theorem SameD.cons {d : DE} {l l' : List DE} (h : SameD (d :: l) l') : ∃ d' r, l' = d' :: r ∧ d'.row = d.row ∧ d'.n = d.n ∧ SameD l r := by
  cases l' with
  | nil => simp [SameD] at h
  | cons d' r =>
    unfold SameD at h
    rw [List.map_cons, List.map_cons] at h
    injection h with h1 h2
    exact ⟨d', r, rfl, congrArg Prod.fst h1, congrArg Prod.snd h1, h2⟩
theorem SameD.nil {l' : List DE} (h : SameD [] l') : l' = [] := List.eq_nil_of_length_eq_zero (by have := h.len; simpa using this)
theorem SameD.tot (r : DE) : ∀ {l l' : List DE}, SameD l l' → tot cmpD DE.n r l' = tot cmpD DE.n r l
  | [], _, h => by rw [h.nil]
  | d :: l, _, h => by
    obtain ⟨d', r', rfl, h1, h2, h3⟩ := h.cons
    have hc : cmpD d' r = cmpD d r := by show cmpL d'.row r.row = cmpL d.row r.row; rw [h1]
    simp only [Go.Proofs.YthejmnmkbldacaaGreatDoor.tot, SameD.tot r h3, hc, h2]
theorem SameD.sum : ∀ {l l' : List DE}, SameD l l' → sumN DE.n l' = sumN DE.n l
  | [], _, h => by rw [h.nil]
  | d :: l, _, h => by
    obtain ⟨d', r', rfl, h1, h2, h3⟩ := h.cons
    simp only [sumN, SameD.sum h3, h2]
theorem SameD.abs : ∀ {l l' : List DE}, SameD l l' → absN DE.n l' = absN DE.n l
  | [], _, h => by rw [h.nil]
  | d :: l, _, h => by
    obtain ⟨d', r', rfl, h1, h2, h3⟩ := h.cons
    simp only [absN, SameD.abs h3, h2]
theorem SameD.rows : ∀ {l l' : List DE}, SameD l l' → ∀ d, d ∈ l' → ∃ e, e ∈ l ∧ d.row = e.row
  | [], _, h, d, hd => by rw [h.nil] at hd; cases hd
  | e :: l, _, h, d, hd => by
    obtain ⟨d', r', rfl, h1, h2, h3⟩ := h.cons
    rcases List.mem_cons.1 hd with rfl | hd
    · exact ⟨e, List.mem_cons_self .., h1⟩
    · obtain ⟨x, hx, he⟩ := SameD.rows h3 d hd
      exact ⟨x, List.mem_cons_of_mem _ hx, he⟩
theorem SameRows.cons {x y : List VD} {a b : List (List VD)} (h : cmpL x y = 0) (h2 : SameRows a b) : SameRows (x :: a) (y :: b) := (SameRows.replicate h 1).append h2
def SortedL (l : List (List VD)) : Prop := l.Pairwise fun x y => cmpL x y ≤ 0
theorem cmpL_le_trans {x y z : List VD} (h1 : cmpL x y ≤ 0) (h2 : cmpL y z ≤ 0) : cmpL x z ≤ 0 := cmpD_ord.trans (a := ⟨undef, x, 0⟩) (b := ⟨undef, y, 0⟩) (d := ⟨undef, z, 0⟩) h1 h2
theorem cntL_zero {r : List VD} {l : List (List VD)} (h : ∀ x, x ∈ l → cmpL x r ≠ 0) : cntL r l = 0 := by
  unfold cntL
  rw [List.countP_eq_zero]
  intro x hx
  simpa using h x hx
theorem cntL_low {r y : List VD} {l : List (List VD)} (hs : SortedL (y :: l)) (h : cmpL r y < 0) : cntL r (y :: l) = 0 := cntL_zero fun x hx e => by
  have h1 : cmpL y x ≤ 0 := by
    rcases List.mem_cons.1 hx with rfl | hx
    · rw [cmpL_self]; exact Int.le_refl _
    · exact (List.pairwise_cons.1 hs).1 x hx
  have h2 : cmpL y r ≤ 0 := cmpL_le_trans h1 (by omega)
  have := cmpL_anti r y
  omega
theorem cmpL_congr {x y : List VD} (h : cmpL x y = 0) (r : List VD) : cmpL x r = 0 ↔ cmpL y r = 0 := by
  have h' : cmpL y x = 0 := by rw [cmpL_anti x y, h]; rfl
  constructor
  · intro e
    have e' : cmpL r x = 0 := by rw [cmpL_anti x r, e]; rfl
    have h1 := cmpL_le_trans (x := y) (y := x) (z := r) (by omega) (by omega)
    have h2 := cmpL_le_trans (x := r) (y := x) (z := y) (by omega) (by omega)
    have := cmpL_anti r y
    omega
  · intro e
    have e' : cmpL r y = 0 := by rw [cmpL_anti y r, e]; rfl
    have h1 := cmpL_le_trans (x := x) (y := y) (z := r) (by omega) (by omega)
    have h2 := cmpL_le_trans (x := r) (y := y) (z := x) (by omega) (by omega)
    have := cmpL_anti r x
    omega
theorem same_sorted : ∀ {a b : List (List VD)}, SortedL a → SortedL b → (∀ r, cntL r a = cntL r b) → SameRows a b
  | [], [], _, _, _ => SameRows.refl _
  | [], y :: b, _, _, h => by
    have := h y
    rw [cntL_cons, if_pos (cmpL_self y)] at this
    simp [cntL] at this
  | x :: a, [], _, _, h => by
    have := h x
    rw [cntL_cons, if_pos (cmpL_self x)] at this
    simp [cntL] at this
  | x :: a, y :: b, ha, hb, h => by
    have hxy : cmpL x y = 0 := by
      rcases Int.lt_trichotomy (cmpL x y) 0 with hl | hl | hl
      · have h1 := h x
        rw [cntL_low hb hl, cntL_cons, if_pos (cmpL_self x)] at h1
        omega
      · exact hl
      · have h1 := h y
        rw [cntL_low ha (by rw [cmpL_anti x y]; omega), cntL_cons, if_pos (cmpL_self y)] at h1
        omega
    refine SameRows.cons hxy (same_sorted (List.pairwise_cons.1 ha).2 (List.pairwise_cons.1 hb).2 fun r => ?_)
    have h1 := h r
    rw [cntL_cons, cntL_cons] at h1
    have h2 := cmpL_congr hxy r
    by_cases hr : cmpL x r = 0
    · rw [if_pos hr, if_pos (h2.1 hr)] at h1
      omega
    · rw [if_neg hr, if_neg (fun e => hr (h2.2 e))] at h1
      omega
theorem expand_sorted : ∀ {l : List DE}, Strict cmpD l → SortedL (expandD l)
  | [], _ => List.Pairwise.nil
  | d :: l, h => by
    have hp := List.pairwise_cons.1 h
    have e : expandD (d :: l) = List.replicate d.n.toNat d.row ++ expandD l := by simp [expandD]
    unfold SortedL
    rw [e, List.pairwise_append]
    refine ⟨List.pairwise_replicate.2 (.inr (by rw [cmpL_self]; exact Int.le_refl _)), expand_sorted hp.2, fun x hx y hy => ?_⟩
    obtain ⟨_, rfl⟩ := List.mem_replicate.1 hx
    obtain ⟨f, hf, hy⟩ := List.mem_flatMap.1 hy
    obtain ⟨_, rfl⟩ := List.mem_replicate.1 hy
    exact Int.le_of_lt (hp.1 f hf)

section
variable {a b : List RE} {o l' : List DE}
theorem back_tot (ho : Canon cmpD DE.n setN (btwD a b) o) (hs : SameD o l') (r : DE) : tot cmpD DE.n r (onesOf a ++ l') = tot cmpD DE.n r (onesOf b) := by
  rw [tot_append, hs.tot r, ho.tot r]
  unfold btwD
  rw [tot_append, tot_negs]
  omega
/-- what lies between rows is never refused -/
theorem back_ranged (ho : Canon cmpD DE.n setN (btwD a b) o) (hs : SameD o l') (ha : a.length < 2097152) (hb : b.length < 2097152) : ¬ SumFail l' := by
  have h1 : absN DE.n l' ≤ 4194304 := by
    rw [hs.abs]
    have := ho.abs
    rw [absN_btw] at this
    omega
  have hr : ∀ l : List DE, absN DE.n l ≤ 4194304 → rangedB l = true := fun l h => List.all_eq_true.2 fun d hd => by
    have := absN_mem (n := DE.n) hd
    unfold timesB
    exact decide_eq_true (by omega)
  rintro (h | ⟨o1, hc, h⟩)
  · rw [hr l' h1] at h; cases h
  · have := hc.abs
    rw [hr o1 (by omega)] at h; cases h
theorem back_sound (ho : Canon cmpD DE.n setN (btwD a b) o) (hs : SameD o l') (ha : rowsSound a = true) (hb : rowsSound b = true) : allSound l' = true := List.all_eq_true.2 fun d hd => by
  obtain ⟨e, he, h1⟩ := hs.rows d hd
  obtain ⟨f, hf, h2⟩ := ho.mem e he
  have h3 : e.row = f.row := by rw [h2]; rfl
  rw [h1, h3]
  unfold btwD at hf
  rcases List.mem_append.1 hf with hf | hf
  · obtain ⟨x, hx, rfl⟩ := List.mem_map.1 hf
    exact List.all_eq_true.1 ha x hx
  · obtain ⟨x, hx, rfl⟩ := List.mem_map.1 hf
    exact List.all_eq_true.1 hb x hx
theorem back_ok {out : List DE} (ho : Canon cmpD DE.n setN (btwD a b) o) (hs : SameD o l') (hc : Canon cmpD DE.n setN (onesOf a ++ l') out) (hb : b.length ≤ 100000) : MOk 100000 out := by
  refine ⟨fun d hd => ?_, ?_⟩
  · have h1 := tot_strict (n := DE.n) cmpD_ord hc.strict hd
    rw [hc.tot, back_tot ho hs, tot_ones] at h1
    omega
  · rw [msum_sumN, hc.sum, sumN_append, sumN_ones, hs.sum, ho.sum]
    unfold btwD
    rw [sumN_append, sumN_negs, sumN_ones]
    omega
theorem back_rows {out : List DE} {rs : List RE} (ho : Canon cmpD DE.n setN (btwD a b) o) (hs : SameD o l') (hc : Canon cmpD DE.n setN (onesOf a ++ l') out) (hb : b.length ≤ 100000) (hp : (rs.map RE.row).Perm (b.map RE.row)) (hso : SortedR rs) : SameRows (expandD out) (rs.map RE.row) := by
  have hok := back_ok ho hs hc hb
  refine same_sorted (expand_sorted hc.strict) ?_ fun r => ?_
  · unfold SortedL
    rw [List.pairwise_map]
    exact hso
  · have h1 := tot_expand ⟨undef, r, 0⟩ out hok.1
    rw [hc.tot, back_tot ho hs, tot_ones] at h1
    have h2 : cntL r (rs.map RE.row) = cntL r (b.map RE.row) := hp.countP_eq _
    rw [h2]
    have h3 : ((cntL r (b.map RE.row) : Nat) : Int) = (cntL r (expandD out) : Nat) := h1
    omega
end
end Go.Proofs.YthejmnmkbldacaaGreatDoor

namespace Go.Proofs.YthejmnmkbldacaaGreatDoor
open Go.RowKit
attribute [local go_sem] Tab.Env.ev Tab.Env.get

/-- what the reference's Apply answers -/
def RApplyPost (rows : List RE) (l : List DE) (w : World) (e : Ending) (w' : World) : Prop :=
  Below w.heap.size w w' ∧
    ((e = .returned (.tuple #[.slice none 0 0, .int .i64 1]) ∧ (rowsSound rows && allSound l) = false) ∨
     (e = .returned (.tuple #[.slice none 0 0, .int .i64 3]) ∧ (rowsSound rows && allSound l) = true ∧ rangedB l = false) ∨
     (e = .returned (.tuple #[.slice none 0 0, .int .i64 3]) ∧ (rowsSound rows && allSound l) = true ∧ ∃ es, DiffI cmpD setN l es ∧ ∃ x, x ∈ es ∧ ¬ InT (1 * timesR (tot cmpD DE.n x l))) ∨
     ((rowsSound rows && allSound l) = true ∧ rangedB l = true ∧ (∃ es, DiffI cmpD setN l es ∧ ∀ x, x ∈ es → InT (1 * timesR (tot cmpD DE.n x l))) ∧ ∃ es, DiffI cmpD setN (onesOf rows ++ l) (es.map REd) ∧
       ((e = .returned (.tuple #[.slice none 0 0, .int .i64 3]) ∧ ¬ MOk 100000 (refNums (onesOf rows ++ l) es)) ∨
        (MOk 100000 (refNums (onesOf rows ++ l) es) ∧ ∃ es2, DiffI cmpD setN (onesOf rows ++ l) (es2.map REd) ∧ ∃ v' rs, e = .returned (.tuple #[v', .int .i64 0]) ∧ RR w' (fun b => w.heap.size ≤ b) (fun _ => True) v' rs ∧ rs.map RE.row = expandD (refNums (onesOf rows ++ l) es2)))))

set_option maxHeartbeats 2000000 in
set_option maxRecDepth 100000 in
theorem applyR_any (F F' G G' : Nat → Prop) (vr v : Value) (rows : List RE) (l : List DE) (w : World) (hr : RR w G G' vr rows) (h : RD w F F' v l) (hnr : rows.length < 2097152) (hn : l.length < 2097152) (hT : Tabs w) :
    Calls Tryz.prog 10 #[vr, v] w (RApplyPost rows l w) := by
  obtain ⟨A, c, rfl, hc, hm⟩ := rd_shape h
  obtain ⟨_, Ar, cr, rfl, hcr, hmr, _⟩ := hr.sl
  have HR := Lib.hid hr
  have HL := Lib.hid h
  have HT := Lib.hid hT
  have holen : (onesOf rows).length = rows.length := by unfold onesOf; rw [List.length_map]
  have HOLEN := Lib.hid holen
  clear h hr hT holen
  unfold maxLen at hm hmr
  obtain ⟨n, hln⟩ : ∃ n, rows.length = n := ⟨_, rfl⟩
  rw [hln] at hcr hnr ⊢
  have HN := Lib.hid hln
  clear hln
  go_enter Tryz.func10, Tryz.ntmps10
  go_wp2_with fail
  go_loopw [4, 5, 7, 21] (fun _ _ _ i wr => ∃ k : Nat, k ≤ n ∧ i = .int .i64 k ∧ Hid (∀ j, j < k → rowSound (dat rows j).row = true) ∧ Below w.heap.size w wr) (fun _ _ _ i _ => n - (intOf i).toNat)
  case atStart => exact ⟨0, Nat.zero_le _, rfl, Lib.hid fun j h => absurd h (Nat.not_lt_zero j), Below.refl _ _⟩
  case round =>
    obtain ⟨k, hk, rfl, HJ, hbel⟩ := hrel
    have HB := Lib.hid hbel
    by_cases hlt : k < n
    · as_aux_lemma =>
      have hkl : k < rows.length := by rw [HN.out]; exact hlt
      obtain ⟨b, off, c', A1, m1, c1, row, hv, -, -, hb, -, he, hri, q⟩ := (HR.out.later hbel).at_ (i := k) hkl
      injection hv with e1 e0 e2
      subst e1
      subst e2
      have HJD := Lib.hid (fun h => all_first (fun d : RE => rowSound d.row) rows k hkl h)
      have HJN := Lib.hid (fun (h : rowSound (dat rows k).row = true) => (show ∀ j, j < k + 1 → rowSound (dat rows j).row = true from fun j hj => by
        by_cases hjk : j < k
        · exact HJ.out j hjk
        · obtain rfl : j = k := by omega
          exact h))
      rw [he] at HJD HJN
      have HCALL := Lib.hid (soundRowR_any _ _ row wr hri (HT.out.later hbel))
      clear e0 he hri hbel
      go_wp2_with fail
      refine HCALL.out.mono ?_
      rintro e w1 ⟨rfl, hb1⟩
      have HB2 := Lib.hid (HB.out.trans (hb1.mono HB.out.size))
      clear hb1 HCALL
      cases hs : rowSound row with
      | true =>
        have HJ2 := Lib.hid (HJN.out hs)
        clear hs HJN HJD
        go_wp2_with fail
        go_roundw
        case rel => exact ⟨k + 1, hlt, by go_num, HJ2, HB2.out⟩
        case measure => simp [intOf] <;> omega
      | false =>
        have HX := Lib.hid (show (rowsSound rows && allSound l) = false by
          have : rowsSound rows = false := HJD.out hs
          rw [this]; rfl)
        clear hs HJN HJD
        go_wp2_with fail
        go_ret2
        exact ⟨HB2.out, .inl ⟨rfl, HX.out⟩⟩
    · as_aux_lemma =>
      obtain rfl : k = n := by omega
      have HX0 := Lib.hid (show rowsSound rows = true from all_every (fun d : RE => rowSound d.row) rows (fun j hj => HJ.out j (by rw [HN.out] at hj; exact hj)))
      have HCALL := Lib.hid (soundDeltasR_any _ _ _ _ wr (HL.out.later hbel) (HT.out.later hbel))
      clear HJ hbel
      go_wp2_with fail
      refine HCALL.out.mono ?_
      rintro e w1 ⟨rfl, hb1⟩
      have HB1 := Lib.hid (HB.out.trans (hb1.mono HB.out.size))
      clear hb1 HCALL
      cases hs : allSound l with
      | false =>
        have HX := Lib.hid (show (rowsSound rows && allSound l) = false by rw [hs]; exact Bool.and_false _)
        clear hs
        go_wp2_with fail
        go_ret2
        exact ⟨HB1.out, .inl ⟨rfl, HX.out⟩⟩
      | true =>
        have HX := Lib.hid (show (rowsSound rows && allSound l) = true by rw [hs, HX0.out]; rfl)
        have HCALL := Lib.hid (countedR_any _ _ _ _ w1 (HL.out.later HB1.out))
        clear hs HX0 HB
        go_wp2_with fail
        refine HCALL.out.mono ?_
        rintro e w2 ⟨rfl, hb2⟩
        have HB2 := Lib.hid (HB1.out.trans (hb2.mono HB1.out.size))
        clear hb2 HCALL
        cases hs : rangedB l with
        | false =>
          have HRG := Lib.hid hs
          clear hs
          go_wp2_with fail
          go_ret2
          exact ⟨HB2.out, .inr (.inl ⟨rfl, HX.out, HRG.out⟩)⟩
        | true =>
          have HRG := Lib.hid hs
          have HCALL := Lib.hid (canonicalR_any 1 (.inl rfl) _ _ _ _ w2 (HL.out.later HB2.out) (by omega))
          clear hs HB1
          go_wp2_with fail
          refine HCALL.out.mono ?_
          rintro e w3 ⟨hb3, es, hes, hp⟩
          have HB3 := Lib.hid (HB2.out.trans (hb3.mono HB2.out.size))
          have HES := Lib.hid hes
          clear hb3 hes HCALL
          rcases hp with ⟨rfl, hno⟩ | ⟨v3, rfl, hall, -⟩
          · as_aux_lemma =>
            have HNO := Lib.hid hno
            clear hno
            go_wp2_with fail
            go_ret2
            exact ⟨HB3.out, .inr (.inr (.inl ⟨rfl, HX.out, es, HES.out, HNO.out⟩))⟩
          · as_aux_lemma =>
            have HC := Lib.hid (show ∃ es, DiffI cmpD setN l es ∧ ∀ x, x ∈ es → InT (1 * timesR (tot cmpD DE.n x l)) from ⟨es, HES.out, hall⟩)
            have HCALL := Lib.hid (ofRows_any _ _ _ rows 1 (by unfold I64; decide) w3 (HR.out.later HB3.out) (by rw [HN.out]; omega))
            rw [HN.out] at HCALL
            clear hall HES HB2
            go_wp2_with fail
            refine HCALL.out.mono ?_
            rintro e w4 ⟨v4, rfl, ho4, hb4⟩
            have HB4 := Lib.hid (HB3.out.trans (hb4.mono HB3.out.size))
            have HO4 := Lib.hid (show OwnDs w4 w3.heap.size (fun b => G' b ∧ b < w3.heap.size) v4 (onesOf rows) from ho4)
            have HL4 := Lib.hid (HL.out.later HB4.out)
            have hz4 := hb4.size
            have hol : (onesOf rows).length + l.length < 1073741824 := by rw [HOLEN.out, HN.out]; omega
            clear ho4 hb4 HCALL
            go_wp2_with (at_builtin; refine append_sl w4 rfl (.tmp 43) (.tmp 44) 23 rfl w3.heap.size 86 underD infoD rfl (by decide) _ _ _ (dcells l) rfl HO4.out.own F _ l.length rfl HL4.out.sl (dcells_one HL4.out.good) hol (by decide) hz4 ?_)
            intro v5 w5 hown hb5
            have HB5 := Lib.hid (HB4.out.trans (hb5.mono HB3.out.size))
            have HRD := Lib.hid (RD.append hown (F1 := G') (F2 := F') (fun d hd => by
              unfold onesOf at hd
              obtain ⟨e, he, rfl⟩ := List.mem_map.1 hd
              exact ⟨(HR.out.good e he).later HB5.out, (by decide : (-9223372036854775808 : Int) ≤ 1 ∧ (1 : Int) ≤ 9223372036854775807)⟩) (fun d hd => ⟨(HL.out.good d hd).row.later HB5.out, (HL.out.good d hd).n⟩))
            have hlen : (onesOf rows ++ l).length < 4194304 := by rw [List.length_append, HOLEN.out, HN.out]; omega
            have HLEN := Lib.hid hlen
            clear hown hb5 hol HO4 HL4 hz4 HB4 hlen
            generalize hall : onesOf rows ++ l = all at *
            have HALL := Lib.hid hall
            clear hall
            obtain ⟨Aa, ca, ea, hca, hma⟩ := rd_shape HRD.out
            subst ea
            unfold maxLen at hma
            have HCALL := Lib.hid (different_any _ _ _ all w5 HRD.out (by have := HLEN.out; omega))
            have HCALL2 := Lib.hid (fun W (hW : Below w5.heap.size w5 W) => different_any _ _ _ all W (HRD.out.later hW) (by have := HLEN.out; omega))
            obtain ⟨na, hna⟩ : ∃ na, all.length = na := ⟨_, rfl⟩
            have HNA := Lib.hid hna
            rw [hna] at HCALL HCALL2 HLEN HRD hca ⊢
            clear hna
            have hz5 := HB5.out.size
            go_wp2_with fail
            refine HCALL.out.mono ?_
            rintro e w6 ⟨v6, es, rfl, ho6, hdi, hel, hb6⟩
            have HO6 := Lib.hid ho6
            have HD6 := Lib.hid hdi
            have HB6 := Lib.hid (HB5.out.trans (hb6.mono hz5))
            have HB56 := Lib.hid hb6
            obtain ⟨_, Ae, ce, ee, hce1, hce2, _⟩ := ho6.rr.sl
            subst ee
            unfold maxLen at hce2
            obtain ⟨m, hmm⟩ : ∃ m, es.length = m := ⟨_, rfl⟩
            have HM := Lib.hid hmm
            rw [HNA.out] at hel
            rw [hmm] at hce1 hel HO6 ⊢
            clear ho6 hdi hb6 hmm HCALL
            have hz6 := HB6.out.size
            go_wp2_with fail
            go_loopw [4, 5, 11, 13, 14, 49] (fun _ _ s _ _ i wr => ∃ (q : Nat) (t : Int), q ≤ m ∧ s = .int .i64 t ∧ i = .int .i64 q ∧ Hid (t = msum (refNums all (es.take q)) ∧ MOk 100000 (refNums all (es.take q))) ∧ 0 ≤ t ∧ t ≤ 100000 ∧ Below w6.heap.size w6 wr) (fun _ _ _ _ _ i _ => m - (intOf i).toNat)
            case atStart => exact ⟨0, 0, Nat.zero_le _, rfl, rfl, Lib.hid ⟨rfl, fun d hd => by simp [refNums] at hd, by show (0 : Int) ≤ 100000; decide⟩, Int.le_refl _, by decide, Below.refl _ _⟩
            case round =>
              obtain ⟨q, t, hq, rfl, rfl, HMQ, ht0, ht1, hbel⟩ := hrel
              have HBQ := Lib.hid hbel
              by_cases hlt2 : q < m
              · as_aux_lemma =>
                have hkl : q < es.length := by rw [HM.out]; exact hlt2
                obtain ⟨b, off, c', A1, m1, c1, row, hv, -, -, hb, -, he, hri, qc⟩ := ((HO6.out.later hbel).rr).at_ (i := q) hkl
                injection hv with e1 e0 e2
                subst e1
                subst e2
                obtain ⟨tv, htv⟩ : ∃ tv, timesR (totR row all) = tv := ⟨_, rfl⟩
                have hT1 := refNums_take all es hkl
                rw [he] at hT1
                simp only [htv] at hT1
                have HT1 := Lib.hid hT1
                have HOK := Lib.hid (show MOk 100000 (refNums all (es.take (q + 1))) ↔ 0 ≤ tv ∧ tv ≤ 100000 - t by
                  rw [HT1.out, HMQ.out.2.snoc, ← HMQ.out.1])
                have HSU := Lib.hid (show msum (refNums all (es.take (q + 1))) = t + tv by rw [HT1.out, msum_snoc, ← HMQ.out.1])
                have HFAIL := Lib.hid (fun (h : ¬ (0 ≤ tv ∧ tv ≤ 100000 - t)) => (show ¬ MOk 100000 (refNums all es) from fun h9 => h (HOK.out.1 (by rw [refNums_takeT]; exact h9.take (q + 1)))))
                have hbd := timesR_bound (totR row all)
                rw [htv] at hbd
                have HCALL := Lib.hid (times9_any _ _ _ _ all _ row wr (HRD.out.later (HB56.out.trans (hbel.mono HB56.out.size))) hri (by rw [HNA.out]; exact HLEN.out))
                rw [htv] at HCALL
                clear e0 he hri hbel hT1 htv
                have hz7 := HB6.out.trans (HBQ.out.mono hz6)
                have hw1 := IntWalk.i64_in (t + tv) (by omega)
                by_cases hf : 0 ≤ tv ∧ tv ≤ 100000 - t
                · as_aux_lemma =>
                  have HOK2 := Lib.hid (HOK.out.2 hf)
                  have h1 : ¬ tv < 0 := by omega
                  have h2 : ¬ 100000 < tv := by omega
                  have h3 : ¬ 100000 < t + tv := by omega
                  go_wp2_with fail
                  refine HCALL.out.mono ?_
                  rintro e w7 ⟨rfl, hb7⟩
                  have HB7 := Lib.hid (HBQ.out.trans (hb7.mono HBQ.out.size))
                  clear hb7 HCALL
                  go_wp2_with fail
                  go_roundw
                  case rel => exact ⟨q + 1, t + tv, hlt2, rfl, by go_num, Lib.hid ⟨HSU.out.symm, HOK2.out⟩, by omega, by omega, HB7.out⟩
                  case measure => simp [intOf] <;> omega
                · as_aux_lemma =>
                  have HNO := Lib.hid (HFAIL.out hf)
                  have HPOST := Lib.hid (fun w7 (hb7 : Below wr.heap.size wr w7) => (show RApplyPost rows l w (.returned (.tuple #[.slice none 0 0, .int .i64 3])) w7 from
                    ⟨hz7.trans (hb7.mono hz7.size), .inr (.inr (.inr ⟨HX.out, HRG.out, HC.out, es, HALL.out ▸ HD6.out, .inl ⟨rfl, HALL.out ▸ HNO.out⟩⟩))⟩))
                  by_cases h1 : tv < 0
                  · go_wp2_with fail
                    refine HCALL.out.mono ?_
                    rintro e w7 ⟨rfl, hb7⟩
                    have HP := Lib.hid (HPOST.out w7 hb7)
                    clear hb7 HCALL HPOST
                    go_wp2_with fail
                    go_ret2
                    exact HP.out
                  · by_cases h2 : 100000 < tv
                    · go_wp2_with fail
                      refine HCALL.out.mono ?_
                      rintro e w7 ⟨rfl, hb7⟩
                      have HP := Lib.hid (HPOST.out w7 hb7)
                      clear hb7 HCALL HPOST
                      go_wp2_with fail
                      go_ret2
                      exact HP.out
                    · have h3 : 100000 < t + tv := by omega
                      go_wp2_with fail
                      refine HCALL.out.mono ?_
                      rintro e w7 ⟨rfl, hb7⟩
                      have HP := Lib.hid (HPOST.out w7 hb7)
                      clear hb7 HCALL HPOST
                      go_wp2_with fail
                      go_ret2
                      exact HP.out
              · as_aux_lemma =>
                obtain rfl : q = m := by omega
                have HMO := Lib.hid (show MOk 100000 (refNums all es) by
                  have := HMQ.out.2
                  rw [← HM.out, List.take_length] at this
                  exact this)
                have HBA := Lib.hid (HB56.out.trans (hbel.mono HB56.out.size))
                have HBW := Lib.hid (HB6.out.trans (hbel.mono hz6))
                have HC2 := Lib.hid (HCALL2.out wr HBA.out)
                have HD7 := Lib.hid (show DiffI cmpD setN (onesOf rows ++ l) (es.map REd) by rw [HALL.out]; exact HD6.out)
                clear HMQ hbel HCALL2 HB6 HB56 HBQ HM HO6 HD6 hz5 hz6
                go_wp2_with fail
                refine HC2.out.mono ?_
                rintro e w8 ⟨v8, es2, rfl, ho8, hdi, hel2, hb8⟩
                have HO8 := Lib.hid ho8
                have HD8 := Lib.hid hdi
                have hzr := HBW.out.size
                have HB8 := Lib.hid (HBW.out.trans (hb8.mono hzr))
                have HB58 := Lib.hid (HBA.out.trans (hb8.mono HBA.out.size))
                have HZ8 := Lib.hid hb8.size
                obtain ⟨_, Ae2, ce2, ee2, hce3, hce4, _⟩ := ho8.rr.sl
                subst ee2
                unfold maxLen at hce4
                obtain ⟨m2, hmm⟩ : ∃ m, es2.length = m := ⟨_, rfl⟩
                have HM2 := Lib.hid hmm
                rw [HNA.out] at hel2
                rw [hmm] at hce3 hel2 HO8 ⊢
                clear ho8 hdi hb8 hmm HC2
                have hz8 := HB8.out.size
                have HMO2 := Lib.hid (nums_mok (HALL.out ▸ HD7.out) HD8.out HMO.out)
                have HD9 := Lib.hid (show DiffI cmpD setN (onesOf rows ++ l) (es2.map REd) by rw [HALL.out]; exact HD8.out)
                go_wp2_with fail
                go_loopw [15, 17, 18, 71] (fun s _ _ i wi => ∃ (p : Nat) (v : Value) (rs : List RE), p ≤ m2 ∧ v = s ∧ i = .int .i64 p ∧ OwnRs wi w8.heap.size (fun b => b < w8.heap.size) v rs ∧ Hid (rs.map RE.row = expandD (refNums all (es2.take p))) ∧ Below w8.heap.size w8 wi) (fun _ _ _ i _ => m2 - (intOf i).toNat)
                case atStart => exact ⟨0, _, [], Nat.zero_le _, rfl, rfl, OwnRs.nil _ _ _, Lib.hid rfl, Below.refl _ _⟩
                case round =>
                  obtain ⟨p, v, rs, hp, rfl, rfl, ho, HE, hbel⟩ := hrel
                  have HO := Lib.hid ho
                  have HBP := Lib.hid hbel
                  clear ho
                  by_cases hlt3 : p < m2
                  · as_aux_lemma =>
                    have hkl : p < es2.length := by rw [HM2.out]; exact hlt3
                    obtain ⟨b, off, c', A1, m1, c1, row, hv, -, -, hb, -, he, hri, qc⟩ := ((HO8.out.later hbel).rr).at_ (i := p) hkl
                    injection hv with e1 e0 e2
                    subst e1
                    subst e2
                    obtain ⟨tv, htv⟩ : ∃ tv, timesR (totR row all) = tv := ⟨_, rfl⟩
                    have hT1 := refNums_take all es2 hkl
                    rw [he] at hT1
                    simp only [htv] at hT1
                    have hst := HMO2.out.take (p + 1)
                    have htk := HMO2.out.take p
                    rw [← refNums_takeT] at hst htk
                    rw [hT1, htk.snoc] at hst
                    have hn0 := htk.nonneg
                    have hlen := expandD_len _ htk.1
                    obtain ⟨hst1, hst2⟩ : 0 ≤ tv ∧ tv ≤ 100000 - msum (refNums all (es2.take p)) := hst
                    obtain ⟨tn, rfl⟩ : ∃ tn : Nat, tv = tn := ⟨tv.toNat, by omega⟩
                    have HX2 := Lib.hid (show (expandD (refNums all (es2.take p))).length + tn ≤ 100000 by omega)
                    have HEX := Lib.hid (show expandD (refNums all (es2.take (p + 1))) = expandD (refNums all (es2.take p)) ++ List.replicate tn row by
                      rw [hT1, expandD_snoc]
                      rfl)
                    have htn : tn ≤ 100000 := by have := HX2.out; omega
                    have HCALL := Lib.hid (times9_any _ _ _ _ all _ row wr (HRD.out.later (HB58.out.trans (hbel.mono HB58.out.size))) hri (by rw [HNA.out]; exact HLEN.out))
                    rw [htv] at HCALL
                    have hg8 := HO8.out.good _ (dat_mem hkl)
                    rw [he] at hg8
                    have HRI := Lib.hid (show RI w8 (fun b => b < w8.heap.size) (.slice A1 m1 c1) row from hg8.mono fun b _ h => h)
                    clear e0 he hri hT1 htv hst1 hst2 hn0 hlen htk hbel hg8
                    go_wp2_with fail
                    refine HCALL.out.mono ?_
                    rintro e w9 ⟨rfl, hb9⟩
                    have HO9 := Lib.hid (HO.out.later hb9)
                    have HB9 := Lib.hid (HBP.out.trans (hb9.mono HBP.out.size))
                    clear hb9 HCALL
                    go_wp2_with fail
                    go_loopw [15, 18] (fun s i wj => ∃ (j : Nat) (v : Value) (rs : List RE), j ≤ tn ∧ v = s ∧ i = .int .i64 (tn - j : Nat) ∧ OwnRs wj w8.heap.size (fun b => b < w8.heap.size) v rs ∧ Hid (rs.map RE.row = expandD (refNums all (es2.take p)) ++ List.replicate j row) ∧ Below w8.heap.size w8 wj) (fun _ i _ => (intOf i).toNat)
                    case atStart => exact ⟨0, _, rs, Nat.zero_le _, rfl, rfl, HO9.out, Lib.hid (by rw [HE.out]; simp), HB9.out⟩
                    case round =>
                      obtain ⟨j, v, rs, hj, rfl, rfl, ho, HEJ, hbel⟩ := hrel
                      have HOJ := Lib.hid ho
                      have HBJ := Lib.hid hbel
                      clear ho
                      by_cases hlt4 : j < tn
                      · as_aux_lemma =>
                        obtain ⟨d, hd⟩ : ∃ d, tn - j = d + 1 := ⟨tn - j - 1, by omega⟩
                        have hrl : rs.length < 1073741824 := by
                          have h1 := congrArg List.length HEJ.out
                          rw [List.length_map, List.length_append, List.length_replicate] at h1
                          have := HX2.out
                          omega
                        have hzj := hbel.size
                        have HRIJ := Lib.hid (show RI wr (fun b => b < w8.heap.size ∧ v.ownBlock ≠ some b) (.slice A1 m1 c1) row from
                          (HRI.out.later hbel).mono fun b hb _ => ⟨hb, fun e => by have := (HOJ.out.own.lt b e).1; omega⟩)
                        rw [hd]
                        clear hbel
                        go_wp2_with (at_builtin; refine append_own2 wr rfl (.tmp 82) (.tmp 84) 22 rfl w8.heap.size 31 underR infoR rfl (by decide) _ _ _ [.slice A1 m1 c1] rfl HOJ.out.own rfl rfl (by simp [Value.oneCell']) hrl (by decide) hzj ?_)
                        intro v' w2 hown' hb2 hkept
                        have O2 := Lib.hid (HOJ.out.add (e := RE.mk (.slice A1 m1 c1) row) hown' hkept HRIJ.out)
                        have HB2 := Lib.hid (HBJ.out.trans hb2)
                        have HE2 := Lib.hid (show (rs ++ [RE.mk (.slice A1 m1 c1) row]).map RE.row = expandD (refNums all (es2.take p)) ++ List.replicate (j + 1) row by
                          rw [List.map_append, HEJ.out, List.replicate_succ', List.append_assoc]
                          rfl)
                        clear hown' hb2 hkept
                        go_wp2_with fail
                        go_roundw
                        case rel => exact ⟨j + 1, _, _, hlt4, rfl, by go_num, O2.out, HE2, HB2.out⟩
                        case measure => simp [intOf] <;> omega
                      · as_aux_lemma =>
                        obtain rfl : j = tn := by omega
                        have HE2 := Lib.hid (HEJ.out.trans HEX.out.symm)
                        rw [Nat.sub_self]
                        go_wp2_with fail
                        go_roundw
                        case rel => exact ⟨p + 1, _, _, hlt3, rfl, by go_num, HOJ.out, HE2, HBJ.out⟩
                        case measure => simp [intOf] <;> omega
                  · as_aux_lemma =>
                    obtain rfl : p = m2 := by omega
                    have HE2 := Lib.hid (show rs.map RE.row = expandD (refNums all es2) by rw [HE.out, ← HM2.out, List.take_length])
                    have HBZ := Lib.hid (HB8.out.trans (hbel.mono hz8))
                    go_wp2_with fail
                    go_ret2
                    exact ⟨HBZ.out, .inr (.inr (.inr ⟨HX.out, HRG.out, HC.out, es, HD7.out, .inr ⟨HALL.out ▸ HMO.out, es2, HD9.out, v, rs, rfl, HO.out.rr.mono (fun b hb _ => Nat.le_trans hz8 hb) (fun _ _ _ => trivial), HALL.out ▸ HE2.out⟩⟩))⟩
end Go.Proofs.YthejmnmkbldacaaGreatDoor

namespace Go.Proofs.YthejmnmkbldacaaGreatDoor
open Go.RowKit
attribute [local go_sem] Tab.Env.ev Tab.Env.get

/-- a row of one number -/
def rowV (n : Int) : List VD := [.mk 2 n 0 .empty []]
theorem ri_row {w : World} {g : Nat} {n : Int} (hn : I64 n) (h : Blk w g 33 [.int .i64 2, .int .i64 n, .int .i64 0, .string .empty, .slice none 0 0]) : RI w (fun b => b = g) (.slice (some ⟨g, 0, none⟩) 1 1) (rowV n) := by
  have q := wcell5 h
  refine RI.mk (some ⟨g, 0, none⟩) 1 (rowV n) (fun _ => none) (fun _ => 0) (Nat.le_refl _) (by unfold maxLen; omega) (fun _ => ⟨g, 0, rfl, rfl, h.lt, fun i hi => ?_⟩) (fun i hi => ?_) (fun i hi => ?_)
  · obtain rfl : i = 0 := by simp [rowV] at hi; omega
    exact ⟨q.1, q.2.1, q.2.2.1, q.2.2.2.1, q.2.2.2.2⟩
  · obtain rfl : i = 0 := by simp [rowV] at hi; omega
    exact ⟨show I64 2 by unfold I64; decide, hn, show I64 0 by unfold I64; decide, Nat.zero_le _⟩
  · obtain rfl : i = 0 := by simp [rowV] at hi; omega
    exact RI.nil _ _

set_option maxHeartbeats 400000 in
theorem row_any (n : Int) (hn : I64 n) (w : World) :
    Calls Tryz.prog 63 #[.int .i64 n] w fun e w' => ∃ g, e = .returned (.slice (some ⟨g, 0, none⟩) 1 1) ∧ w.heap.size ≤ g ∧ RI w' (fun b => b = g) (.slice (some ⟨g, 0, none⟩) 1 1) (rowV n) ∧ Below w.heap.size w w' := by
  have HN := Lib.hid hn
  clear hn
  go_enter Tryz.func63, Tryz.ntmps63
  go_wp2_with fail
  go_ret
  exact ⟨_, rfl, Nat.le_refl _, ri_row HN.out (Blk.new _ _ _), below_new _ _⟩

theorem rowV_sound (n : Int) (h1 : -999999999999999999 ≤ n) (h2 : n ≤ 999999999999999999) : rowSound (rowV n) = true := by
  have hp : plainF 2 n 0 .empty 0 = true := by
    have : plainF 2 n 0 .empty 0 = plain2 n 0 .empty 0 := rfl
    rw [this]
    unfold plain2
    have hs : sEmpty .empty = true := by simp [sEmpty, ByteArray.toList, ByteArray.toList.loop]
    rw [hs]
    simp
    omega
  have hv : soundB (.mk 2 n 0 .empty []) = true := by
    unfold soundB
    rw [soundV_eq]
    have e : plainF (VD.mk 2 n 0 .empty []).k (VD.mk 2 n 0 .empty []).n (VD.mk 2 n 0 .empty []).sc (VD.mk 2 n 0 .empty []).s (VD.mk 2 n 0 .empty []).items.length = true := hp
    rw [e, if_neg (by simp [VD.k])]
    simp [VD.items, soundL]
  unfold rowSound rowV
  simp only [List.all_cons, List.all_nil, Bool.and_true]
  exact hv
theorem rowV_sm (n : Int) : ∀ x, x ∈ rowV n → smV x := fun x hx => by
  rw [List.mem_singleton.1 hx]
  exact ⟨by simp, trivial⟩

/-- the two differences -/
def sumsL (v1 v2 : Value) : List DE := [⟨v1, rowV 1, 1⟩] ++ [⟨v2, rowV 1, 2⟩]
theorem sumsL_out {v1 v2 : Value} {out : List DE} (h : Canon cmpD DE.n setN (sumsL v1 v2) out) : ∃ d, out = [d] ∧ d.n = 3 := by
  have hz : ∀ x, x ∈ out → x.row = rowV 1 := fun x hx => by
    obtain ⟨e, he, h1⟩ := h.mem x hx
    rw [h1]
    simp only [sumsL, List.singleton_append, List.mem_cons, List.mem_nil_iff, or_false] at he
    rcases he with rfl | rfl <;> rfl
  have hself := cmpD_ord.self (DE.mk v1 (rowV 1) 1)
  have hc : ∀ x y, x ∈ out → y ∈ out → cmpD x y = 0 := fun x y hx hy => by
    unfold cmpD
    rw [hz x hx, hz y hy]
    exact hself
  have ht := h.tot ⟨v1, rowV 1, 1⟩
  have e3 : tot cmpD DE.n (DE.mk v1 (rowV 1) 1) (sumsL v1 v2) = 3 := by
    have e1 : cmpD (DE.mk v2 (rowV 1) 2) (DE.mk v1 (rowV 1) 1) = 0 := hself
    simp only [sumsL, List.singleton_append, tot]
    rw [if_pos hself, if_pos e1]
    rfl
  rw [e3] at ht
  match out, h.strict, hc, hz, ht with
  | [], _, _, _, ht => simp [tot] at ht
  | [d], _, _, hz, ht =>
    refine ⟨d, rfl, ?_⟩
    have e1 : cmpD d (DE.mk v1 (rowV 1) 1) = 0 := by
      unfold cmpD
      rw [hz d (by simp)]
      exact hself
    simp only [tot] at ht
    rw [if_pos e1] at ht
    omega
  | a :: b :: l, hst, hc, _, _ =>
    have h1 := (List.pairwise_cons.1 hst).1 b (by simp)
    have h2 := hc a b (by simp) (by simp)
    omega

/-- one difference in a block *of* its own -/
theorem rd_one {w : World} {g : Nat} {rv : Value} {row : List VD} {n : Int} {F : Nat → Prop} (h : Blk w g 86 [rv, .int .i64 n]) (hr : RI w F rv row) (hn : I64 n) : RD w (fun b => b = g) F (.slice (some ⟨g, 0, none⟩) 1 1) [⟨rv, row, n⟩] :=
  ⟨⟨rfl, _, 1, rfl, Nat.le_refl _, by unfold maxLen; omega, fun _ => ⟨g, 0, rfl, rfl, h.lt, fun j u hj => by rw [Nat.zero_add, h.cell]; exact hj⟩⟩, fun d hd => by
    rw [List.mem_singleton.1 hd]
    exact ⟨hr, hn⟩⟩

set_option maxHeartbeats 1000000 in
theorem sums_any (w : World) (hT : Tabs w) :
    Calls Tryz.prog 12 #[] w fun e w' => e = .returned (.bool true) ∧ Below w.heap.size w w' := by
  have HT := Lib.hid hT
  have HR := Lib.hid (fun W => row_any 1 (by unfold I64; decide) W)
  clear hT
  go_enter Tryz.func12, Tryz.ntmps12
  go_wp2_with fail
  refine (HR.out _).mono ?_
  rintro e w1 ⟨g1, rfl, hg1, hri1, hb1⟩
  have HRI1 := Lib.hid hri1
  have HB1 := Lib.hid hb1
  clear hri1 hb1
  go_wp2_with fail
  refine (HR.out _).mono ?_
  rintro e w2 ⟨g2, rfl, hg2, hri2, hb2⟩
  have HRI2 := Lib.hid hri2
  have b1 := ((Blk.new w1 86 [.slice (some ⟨g1, 0, none⟩) 1 1, .int .i64 1]).below hb2 (Blk.new w1 86 [.slice (some ⟨g1, 0, none⟩) 1 1, .int .i64 1]).lt)
  have hbn := below_new w2 (.cells #[.slice (some ⟨g2, 0, none⟩) 1 1, .int .i64 2] 86)
  have hb12 := (below_new w1 (.cells #[.slice (some ⟨g1, 0, none⟩) 1 1, .int .i64 1] 86)).trans (hb2.mono (below_new w1 (.cells #[.slice (some ⟨g1, 0, none⟩) 1 1, .int .i64 1] 86)).size)
  have RD1 := Lib.hid ((rd_one b1 (HRI1.out.later hb12) (show I64 1 by unfold I64; decide)).later hbn)
  have RD2 := Lib.hid (rd_one (Blk.new w2 86 [.slice (some ⟨g2, 0, none⟩) 1 1, .int .i64 2]) (HRI2.out.later hbn) (show I64 2 by unfold I64; decide))
  have hball := HB1.out.trans ((hb12.trans (hbn.mono hb12.size)).mono HB1.out.size)
  have HBA := Lib.hid hball
  have HS := Lib.hid (sum_any _ _ _ _ _ _ _ _ _ RD1.out RD2.out (by simp) (fun d hd => by rw [List.mem_singleton.1 hd]; exact ⟨by simp [rowV], rowV_sm 1⟩) (fun d hd => by rw [List.mem_singleton.1 hd]; exact ⟨by simp [rowV], rowV_sm 1⟩) (HT.out.later hball))
  clear hri2 hb2 b1 hbn hb12 hball
  go_wp2_with fail
  refine HS.out.mono ?_
  rintro e w3 (⟨_, rfl, h⟩ | ⟨_, hb3, h⟩)
  · exfalso
    simp only [allSound, List.singleton_append, List.all_cons, List.all_nil, Bool.and_true] at h
    rw [rowV_sound 1 (by decide) (by decide)] at h
    exact absurd h (by decide)
  · rcases h with ⟨rfl, h | ⟨out, hc, h⟩⟩ | ⟨v', out, l', rfl, _, hc, _, hsd, hrd⟩
    · exfalso
      simp only [rangedB, List.singleton_append, List.all_cons, List.all_nil, Bool.and_true] at h
      exact absurd h (by decide)
    · obtain ⟨d, rfl, hd⟩ := sumsL_out hc
      exfalso
      simp only [rangedB, List.all_cons, List.all_nil, Bool.and_true, hd] at h
      exact absurd h (by decide)
    · obtain ⟨d, rfl, hd⟩ := sumsL_out hc
      have hl1 : l'.length = 1 := by
        have := congrArg List.length hsd
        simpa using this
      obtain ⟨d', rfl⟩ : ∃ d', l' = [d'] := by
        match l', hl1 with
        | [x], _ => exact ⟨x, rfl⟩
      have hn : d'.n = 3 := by
        have : (d'.row, d'.n) = (d.row, d.n) := by simpa [SameD] using hsd
        rw [← hd]
        exact congrArg Prod.snd this
      obtain ⟨b, off, c, A, m, c', row, k, rfl, hc1, hc2, hb, he, -, q1, q2⟩ := hrd.at_ (i := 0) (by simp)
      have hk : k = 3 := by rw [← hn]; exact (congrArg DE.n he).symm
      subst hk
      have HB3 := Lib.hid (HBA.out.trans (hb3.mono HBA.out.size))
      clear hrd hc hd he hn hsd hb3 HS
      go_wp2_with fail
      go_ret
      exact ⟨rfl, HB3.out⟩
end Go.Proofs.YthejmnmkbldacaaGreatDoor
