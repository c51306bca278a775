/-
  What is proved: the difference of two wide numbers. Conditions: none.
-/
import Derived.Test.YthejmnmkbldacaaGreatDoorAp04
set_option linter.all false
namespace Go.Proofs.YthejmnmkbldacaaGreatDoor
open Go.RowKit
attribute [local go_sem] Tab.Env.ev Tab.Env.get

theorem sub64b (x y b : Int) (hx : 0 ≤ x) (hy : 0 ≤ y) (hy' : y < 18446744073709551616) (hb0 : 0 ≤ b) (hb : b ≤ 1) (w : World) : (callFunc 236 #[.int .u64 x, .int .u64 y, .int .u64 b]).run Tryz.prog w =
    .ok (.value (.tuple #[.int .u64 ((x + 18446744073709551616 - y - b) % 18446744073709551616), .int .u64 (bor x (y + b))])) w := sub64 x y b hx hy hy' hb0 hb w
theorem sub64b0 (x y : Int) (hx : 0 ≤ x) (hy : 0 ≤ y) (hy' : y < 18446744073709551616) (w : World) : (callFunc 236 #[.int .u64 x, .int .u64 y, .int .u64 0]).run Tryz.prog w =
    .ok (.value (.tuple #[.int .u64 ((x + 18446744073709551616 - y) % 18446744073709551616), .int .u64 (bor x y)])) w := by
  have h := sub64b x y 0 hx hy hy' (by omega) (by omega) w
  simp only [Int.sub_zero, Int.add_zero] at h
  exact h

theorem wnum_bound {a b c d : Int} (ha : Word a) (hb : Word b) (hc : Word c) (hd : Word d) : 0 ≤ wnum a b c d ∧ wnum a b c d < 115792089237316195423570985008687907853269984665640564039457584007913129639936 := by
  obtain ⟨_, _⟩ := ha; obtain ⟨_, _⟩ := hb; obtain ⟨_, _⟩ := hc; obtain ⟨_, _⟩ := hd
  unfold wnum
  omega
theorem wcell5 {w : World} {b : Nat} {t : TypeId} {v0 v1 v2 v3 v4 : Value} (h : Blk w b t [v0, v1, v2, v3, v4]) :
    w.cell? ⟨b, 0, none⟩ = some v0 ∧ w.cell? ⟨b, 1, none⟩ = some v1 ∧ w.cell? ⟨b, 2, none⟩ = some v2 ∧ w.cell? ⟨b, 3, none⟩ = some v3 ∧ w.cell? ⟨b, 4, none⟩ = some v4 :=
  ⟨h.cell 0, h.cell 1, h.cell 2, h.cell 3, h.cell 4⟩
theorem cfnegated : ∀ (args : Array Value) (w : World), (callFunc 233 args).run Tryz.prog w = .ok (.enter 233 args) w := fun _ _ => by simp [go_sem]

/-- one box of a wide number -/
abbrev WBox (w : World) (b : Nat) (neg : Bool) (x0 x1 x2 x3 : Int) : Prop := Blk w b 214 [.bool neg, .int .u64 x0, .int .u64 x1, .int .u64 x2, .int .u64 x3]

set_option maxHeartbeats 8000000 in
set_option maxRecDepth 100000 in
theorem minus_same (neg : Bool) (v v' : Value) (m m' : Int) (hv : IsWide v neg m) (hv' : IsWide v' neg m') (w : World) :
    Calls Tryz.prog 217 #[v, v'] w fun e w' => ∃ r, e = .returned r ∧ IsWide r (if m < m' then !neg else neg) (if m < m' then m' - m else m - m') ∧ Below w.heap.size w w' := by
  have hvv := hv
  have hvv' := hv'
  obtain ⟨a, b, c, d, rfl, ha, hb, hc, hd, hm⟩ := hv
  obtain ⟨a', b', c', d', rfl, ha', hb', hc', hd', hm'⟩ := hv'
  have HM := Lib.hid hm
  have HM' := Lib.hid hm'
  clear hm hm'
  have HV := Lib.hid hvv
  have HV' := Lib.hid hvv'
  clear hvv hvv'
  unfold wcells
  by_cases hlt : m < m'
  · rw [if_pos hlt, if_pos hlt]
    go_enter Tryz.func217, Tryz.ntmps217
    go_wp2_with fail
    refine (compareSize_any _ _ neg neg m m' HV.out HV'.out _).mono ?_
    rintro e w1 ⟨rfl, hb1⟩
    simp only [cmpI_lt hlt]
    have B0 : WBox w1 w.heap.size neg a b c d := (((Blk.new w _ _).alloc _).alloc _).below hb1 (by simp; omega)
    have B1 : WBox w1 (w.heap.size + 1) neg a' b' c' d' := by
      have h := ((Blk.new (w.alloc (.cells #[.bool neg, .int .u64 a, .int .u64 b, .int .u64 c, .int .u64 d] 214)) 214 [.bool neg, .int .u64 a', .int .u64 b', .int .u64 c', .int .u64 d']).alloc (.cells #[.bool false, .int .u64 0, .int .u64 0, .int .u64 0, .int .u64 0] 214)).below hb1 (by simp)
      simpa using h
    have B2 : WBox w1 (w.heap.size + 1 + 1) false 0 0 0 0 := by
      have h := (Blk.new ((w.alloc (.cells #[.bool neg, .int .u64 a, .int .u64 b, .int .u64 c, .int .u64 d] 214)).alloc (.cells #[.bool neg, .int .u64 a', .int .u64 b', .int .u64 c', .int .u64 d'] 214)) 214 [.bool false, .int .u64 0, .int .u64 0, .int .u64 0, .int .u64 0]).below hb1 (by simp)
      simpa using h
    have hbel : Below w.heap.size w w1 := (((below_new w _).alloc (by simp) _).alloc (by simp; omega) _).trans (hb1.mono (by simp; omega))
    clear hb1
    go_wp2_with fail
    have q0 := fun w' (h : Tab.Ext (fun _ => False) w1.drew w') => wcell5 (B0.drew.ext h id)
    have q1 := fun w' (h : Tab.Ext (fun _ => False) w1.drew w') => wcell5 (B1.drew.ext h id)
    refine Tab.wp_region_tab_tail 3 (Tab.Ext fun _ => False) (by kernel_rfl) (by kernel_rfl) (by kernel_rfl) (fun _ => Tab.Ext.refl _ _) (fun _ _ _ h k => h.trans k) ?_
    iterate 1 (first | (refine Tab.tab_moveE _ rfl (Tab.silent_true _) (.inl rfl) rfl rfl (fun _ => Tab.Ext.refl _ _) ?_; apply Exists.intro; refine And.intro ?_ ?_; focus (simp [Tab.Env.ev, Tab.Env.get]; rfl)) | (refine Tab.tab_moveE _ rfl (Tab.silent_true _) (.inr rfl) rfl rfl (fun _ => Tab.Ext.refl _ _) ?_; apply Exists.intro; refine And.intro ?_ ?_; focus (simp [Tab.Env.ev, Tab.Env.get]; rfl)) | refine Tab.tab_skip rfl (Tab.silent_true _) rfl ?_ | (refine Tab.tab_repE rfl (Tab.silent_true _) rfl (fun _ _ h => by cases h) rfl (fun _ => Tab.Ext.refl _ _) ?_; apply Exists.intro; refine And.intro (fun l w' _ _ hw => ?_) ?_; focus (go_simp; rfl)) | (refine Tab.tab_repE rfl (Tab.silent_true _) rfl (fun _ _ h => by cases h) rfl (fun _ => Tab.Ext.refl _ _) ?_; apply Exists.intro; refine And.intro (fun l w' hs hc hw => ?_) ?_; focus (go_simp; rfl)))
    refine Tab.tab_callk (.ty fun v _ => IsWide v (!neg) m') rfl (Tab.stable_pure _ _) rfl rfl cfnegated rfl (fun l w' _ _ _ hw => ?_) ?_
    · simp only [List.map_cons, List.map_nil, Tab.Env.ev, Tab.Env.get, if_true]
      refine (negated_any _ neg m' HV'.out _).mono ?_
      rintro e w2 ⟨v, rfl, hv, hb⟩
      exact ⟨v, rfl, hv, Tab.Ext.of_below hb, trivial⟩
    iterate 1 (first | (refine Tab.tab_moveE _ rfl (Tab.silent_true _) (.inl rfl) rfl rfl (fun _ => Tab.Ext.refl _ _) ?_; apply Exists.intro; refine And.intro ?_ ?_; focus (simp [Tab.Env.ev, Tab.Env.get]; rfl)) | (refine Tab.tab_moveE _ rfl (Tab.silent_true _) (.inr rfl) rfl rfl (fun _ => Tab.Ext.refl _ _) ?_; apply Exists.intro; refine And.intro ?_ ?_; focus (simp [Tab.Env.ev, Tab.Env.get]; rfl)) | refine Tab.tab_skip rfl (Tab.silent_true _) rfl ?_ | (refine Tab.tab_repE rfl (Tab.silent_true _) rfl (fun _ _ h => by cases h) rfl (fun _ => Tab.Ext.refl _ _) ?_; apply Exists.intro; refine And.intro (fun l w' _ _ hw => ?_) ?_; focus (go_simp; rfl)) | (refine Tab.tab_repE rfl (Tab.silent_true _) rfl (fun _ _ h => by cases h) rfl (fun _ => Tab.Ext.refl _ _) ?_; apply Exists.intro; refine And.intro (fun l w' hs hc hw => ?_) ?_; focus (go_simp; rfl)))
    intro a_ w_ hw_ hsat_
    refine Tab.fin_of_sat rfl ?_ hsat_
    simp only [Tab.fin, Act.put, List.setIfInBounds_toArray, List.set_cons_succ, List.set_cons_zero, List.drop_succ_cons, List.drop_zero]
    rintro v ⟨a2, b2, c2, d2, rfl, ha2, hb2, hc2, hd2, hm2⟩
    have HM2 := Lib.hid hm2
    clear hm2 q0 q1
    have B0' : WBox w_ w.heap.size neg a b c d := B0.drew.ext hw_ id
    have B1' : WBox w_ (w.heap.size + 1) neg a' b' c' d' := B1.drew.ext hw_ id
    have B2' : WBox w_ (w.heap.size + 1 + 1) false 0 0 0 0 := B2.drew.ext hw_ id
    have hbel' : Below w.heap.size w w_ := hbel.drew.trans (hw_.below.mono hbel.size)
    clear B0 B1 B2 hbel hw_ hsat_
    have q0 := wcell5 B0'
    have q1 := wcell5 B1'
    have f0 := B0'.frozen
    have f1 := B1'.frozen
    unfold wcells
    have START := And.intro ((B0'.set5 (.bool (!neg)) (.int .u64 a2) (.int .u64 b2) (.int .u64 c2) (.int .u64 d2)).far5 (b := w.heap.size + 1) (by omega) (.bool neg) (.int .u64 a) (.int .u64 b) (.int .u64 c) (.int .u64 d))
      (And.intro ((B1'.far5 (b := w.heap.size) (by omega) (.bool (!neg)) (.int .u64 a2) (.int .u64 b2) (.int .u64 c2) (.int .u64 d2)).set5 (.bool neg) (.int .u64 a) (.int .u64 b) (.int .u64 c) (.int .u64 d))
      (And.intro ((B2'.far5 (b := w.heap.size) (by omega) (.bool (!neg)) (.int .u64 a2) (.int .u64 b2) (.int .u64 c2) (.int .u64 d2)).far5 (b := w.heap.size + 1) (by omega) (.bool neg) (.int .u64 a) (.int .u64 b) (.int .u64 c) (.int .u64 d))
      (below_set5 (b := w.heap.size + 1) (below_set5 (b := w.heap.size) hbel' (Nat.le_refl _) (.bool (!neg)) (.int .u64 a2) (.int .u64 b2) (.int .u64 c2) (.int .u64 d2)) (by omega) (.bool neg) (.int .u64 a) (.int .u64 b) (.int .u64 c) (.int .u64 d))))
    have START := Lib.hid START
    go_wp2_with fail
    replace START := START.out
    go_loopw [5, 6, 23] (fun cy _ i wr => ∃ (k x0 x1 x2 x3 y : Int), i = .int .i64 k ∧ cy = .int .u64 y ∧ MinusRel a2 b2 c2 d2 a b c d k x0 x1 x2 x3 y ∧ WBox wr w.heap.size (!neg) x0 x1 x2 x3 ∧ WBox wr (w.heap.size + 1) (neg) a b c d ∧ WBox wr (w.heap.size + 1 + 1) false 0 0 0 0 ∧ Below w.heap.size w wr) (fun _ _ i _ => (4 - intOf i).toNat)
    case atStart => exact ⟨0, _, _, _, _, 0, rfl, rfl, .inl ⟨rfl, rfl, rfl, rfl, rfl, rfl⟩, START.1, START.2.1, START.2.2.1, START.2.2.2⟩
    case round =>
      clear START
      obtain ⟨k, x0, x1, x2, x3, y, rfl, rfl, hrel, C0, C1, C2, hbel⟩ := hrel
      have q0 := wcell5 C0
      have q1 := wcell5 C1
      have q2 := wcell5 C2
      have f0 := C0.frozen
      have f2 := C2.frozen
      rcases hrel with ⟨rfl, rfl, rfl, rfl, rfl, rfl⟩ | ⟨rfl, rfl, rfl, rfl, h0, hy0, hy1, he⟩ | ⟨rfl, rfl, rfl, h0, h1, hy0, hy1, he⟩ | ⟨rfl, rfl, h0, h1, h2, hy0, hy1, he⟩ | ⟨rfl, h0, h1, h2, h3, hy0, hy1, he⟩
      · have hA_ := sub64b0 x0 a ha2.lo ha.lo ha.hi
        go_wp2
        refine Tab.wp_region_tabC (fun _ _ => True) (Tab.stageC 16 fun b_ w_' => w_' = if b_ = true then (wr.drew.setCell ⟨w.heap.size, 1, none⟩ (.int .u64 ((x0 + 18446744073709551616 - a) % 18446744073709551616))) else wr.drew) (by kernel_rfl) (by kernel_rfl) (fun _ => trivial) (fun _ _ _ _ _ => trivial) (Tab.stageC_start rfl) ?_
        iterate 16 (first | (refine Tab.tab_moveE _ rfl (Tab.silent_at (by decide)) (.inl rfl) rfl rfl (fun _ => trivial) ?_; apply Exists.intro; refine And.intro ?_ ?_; focus (simp [Tab.Env.ev, Tab.Env.get]; rfl)) | (refine Tab.tab_moveE _ rfl (Tab.silent_at (by decide)) (.inr rfl) rfl rfl (fun _ => trivial) ?_; apply Exists.intro; refine And.intro ?_ ?_; focus (simp [Tab.Env.ev, Tab.Env.get]; rfl)) | refine Tab.tab_skip rfl (Tab.silent_at (by decide)) rfl ?_ | (refine Tab.tab_repE rfl (Tab.silent_at (by decide)) rfl (fun _ _ h => by cases h) rfl (fun _ => trivial) ?_; apply Exists.intro; refine And.intro (fun l w' _ _ hw => ?_) ?_; focus (go_simp; rfl)) | (refine Tab.tab_repE rfl (Tab.silent_at (by decide)) rfl (fun _ _ h => by cases h) rfl (fun _ => trivial) ?_; apply Exists.intro; refine And.intro (fun l w' hs hc hw => ?_) ?_; focus (first | (go_simp; rfl) | (have h := Tab.stageC_before hc hs (by kernel_rfl); simp only [Bool.false_eq_true, if_false] at h; subst h; skip; go_simp; rfl))))
        (refine Tab.tab_act rfl rfl (fun _ _ h => by cases h) rfl (fun l w' hsz hs hc hw => ?_) ?_; focus (have h := Tab.stageC_at hc hs; simp only [Bool.false_eq_true, if_false] at h; subst h; refine ⟨(wr.drew.setCell ⟨w.heap.size, 1, none⟩ (.int .u64 ((x0 + 18446744073709551616 - a) % 18446744073709551616))), ?_, trivial, Tab.stageC_done (if_pos rfl).symm (by rw [hsz]; decide)⟩; skip; go_simp; done))
        iterate 1 (first | (refine Tab.tab_moveE _ rfl (Tab.silent_at (by decide)) (.inl rfl) rfl rfl (fun _ => trivial) ?_; apply Exists.intro; refine And.intro ?_ ?_; focus (simp [Tab.Env.ev, Tab.Env.get]; rfl)) | (refine Tab.tab_moveE _ rfl (Tab.silent_at (by decide)) (.inr rfl) rfl rfl (fun _ => trivial) ?_; apply Exists.intro; refine And.intro ?_ ?_; focus (simp [Tab.Env.ev, Tab.Env.get]; rfl)) | refine Tab.tab_skip rfl (Tab.silent_at (by decide)) rfl ?_ | (refine Tab.tab_repE rfl (Tab.silent_at (by decide)) rfl (fun _ _ h => by cases h) rfl (fun _ => trivial) ?_; apply Exists.intro; refine And.intro (fun l w' _ _ hw => ?_) ?_; focus (go_simp; rfl)) | (refine Tab.tab_repE rfl (Tab.silent_at (by decide)) rfl (fun _ _ h => by cases h) rfl (fun _ => trivial) ?_; apply Exists.intro; refine And.intro (fun l w' hs hc hw => ?_) ?_; focus (go_simp; rfl)))
        intro l_ a_ w_ hall_ hcl_ _ hsat_
        have hw_ := Tab.stageC_end hcl_ hall_ (by decide)
        simp only [if_true] at hw_
        subst hw_
        refine Tab.fin_of_sat rfl ?_ hsat_
        simp only [Tab.fin, Act.put, List.setIfInBounds_toArray, List.set_cons_succ, List.set_cons_zero]
        go_wp2
        go_roundw
        case rel => exact ⟨1, _, _, _, _, _, rfl, rfl, minus_step0 ha2 hb2 hc2 hd2 ha hb hc hd, C0.drew.set_ 1 _, C1.drew.farB (by omega) _, C2.drew.farB (by omega) _, hbel.drew.setCell (p := ⟨w.heap.size, 1, none⟩) (Nat.le_refl _) _⟩
        case measure => simp [intOf]
      · have ST := Lib.hid (minus_step1 ha2 hb2 hc2 hd2 ha hb hc hd h0 hy0 hy1 he)
        clear he
        have hA_ := sub64b x1 b y hb2.lo hb.lo hb.hi hy0 hy1
        go_wp2
        refine Tab.wp_region_tabC (fun _ _ => True) (Tab.stageC 16 fun b_ w_' => w_' = if b_ = true then (wr.drew.setCell ⟨w.heap.size, 2, none⟩ (.int .u64 ((x1 + 18446744073709551616 - b - y) % 18446744073709551616))) else wr.drew) (by kernel_rfl) (by kernel_rfl) (fun _ => trivial) (fun _ _ _ _ _ => trivial) (Tab.stageC_start rfl) ?_
        iterate 16 (first | (refine Tab.tab_moveE _ rfl (Tab.silent_at (by decide)) (.inl rfl) rfl rfl (fun _ => trivial) ?_; apply Exists.intro; refine And.intro ?_ ?_; focus (simp [Tab.Env.ev, Tab.Env.get]; rfl)) | (refine Tab.tab_moveE _ rfl (Tab.silent_at (by decide)) (.inr rfl) rfl rfl (fun _ => trivial) ?_; apply Exists.intro; refine And.intro ?_ ?_; focus (simp [Tab.Env.ev, Tab.Env.get]; rfl)) | refine Tab.tab_skip rfl (Tab.silent_at (by decide)) rfl ?_ | (refine Tab.tab_repE rfl (Tab.silent_at (by decide)) rfl (fun _ _ h => by cases h) rfl (fun _ => trivial) ?_; apply Exists.intro; refine And.intro (fun l w' _ _ hw => ?_) ?_; focus (go_simp; rfl)) | (refine Tab.tab_repE rfl (Tab.silent_at (by decide)) rfl (fun _ _ h => by cases h) rfl (fun _ => trivial) ?_; apply Exists.intro; refine And.intro (fun l w' hs hc hw => ?_) ?_; focus (first | (go_simp; rfl) | (have h := Tab.stageC_before hc hs (by kernel_rfl); simp only [Bool.false_eq_true, if_false] at h; subst h; skip; go_simp; rfl))))
        (refine Tab.tab_act rfl rfl (fun _ _ h => by cases h) rfl (fun l w' hsz hs hc hw => ?_) ?_; focus (have h := Tab.stageC_at hc hs; simp only [Bool.false_eq_true, if_false] at h; subst h; refine ⟨(wr.drew.setCell ⟨w.heap.size, 2, none⟩ (.int .u64 ((x1 + 18446744073709551616 - b - y) % 18446744073709551616))), ?_, trivial, Tab.stageC_done (if_pos rfl).symm (by rw [hsz]; decide)⟩; skip; go_simp; done))
        iterate 1 (first | (refine Tab.tab_moveE _ rfl (Tab.silent_at (by decide)) (.inl rfl) rfl rfl (fun _ => trivial) ?_; apply Exists.intro; refine And.intro ?_ ?_; focus (simp [Tab.Env.ev, Tab.Env.get]; rfl)) | (refine Tab.tab_moveE _ rfl (Tab.silent_at (by decide)) (.inr rfl) rfl rfl (fun _ => trivial) ?_; apply Exists.intro; refine And.intro ?_ ?_; focus (simp [Tab.Env.ev, Tab.Env.get]; rfl)) | refine Tab.tab_skip rfl (Tab.silent_at (by decide)) rfl ?_ | (refine Tab.tab_repE rfl (Tab.silent_at (by decide)) rfl (fun _ _ h => by cases h) rfl (fun _ => trivial) ?_; apply Exists.intro; refine And.intro (fun l w' _ _ hw => ?_) ?_; focus (go_simp; rfl)) | (refine Tab.tab_repE rfl (Tab.silent_at (by decide)) rfl (fun _ _ h => by cases h) rfl (fun _ => trivial) ?_; apply Exists.intro; refine And.intro (fun l w' hs hc hw => ?_) ?_; focus (go_simp; rfl)))
        intro l_ a_ w_ hall_ hcl_ _ hsat_
        have hw_ := Tab.stageC_end hcl_ hall_ (by decide)
        simp only [if_true] at hw_
        subst hw_
        refine Tab.fin_of_sat rfl ?_ hsat_
        simp only [Tab.fin, Act.put, List.setIfInBounds_toArray, List.set_cons_succ, List.set_cons_zero]
        go_wp2
        go_roundw
        case rel => exact ⟨2, _, _, _, _, _, rfl, rfl, ST.out, C0.drew.set_ 2 _, C1.drew.farB (by omega) _, C2.drew.farB (by omega) _, hbel.drew.setCell (p := ⟨w.heap.size, 2, none⟩) (Nat.le_refl _) _⟩
        case measure => simp [intOf]
      · have ST := Lib.hid (minus_step2 ha2 hb2 hc2 hd2 ha hb hc hd h0 h1 hy0 hy1 he)
        clear he
        have hA_ := sub64b x2 c y hc2.lo hc.lo hc.hi hy0 hy1
        go_wp2
        refine Tab.wp_region_tabC (fun _ _ => True) (Tab.stageC 16 fun b_ w_' => w_' = if b_ = true then (wr.drew.setCell ⟨w.heap.size, 3, none⟩ (.int .u64 ((x2 + 18446744073709551616 - c - y) % 18446744073709551616))) else wr.drew) (by kernel_rfl) (by kernel_rfl) (fun _ => trivial) (fun _ _ _ _ _ => trivial) (Tab.stageC_start rfl) ?_
        iterate 16 (first | (refine Tab.tab_moveE _ rfl (Tab.silent_at (by decide)) (.inl rfl) rfl rfl (fun _ => trivial) ?_; apply Exists.intro; refine And.intro ?_ ?_; focus (simp [Tab.Env.ev, Tab.Env.get]; rfl)) | (refine Tab.tab_moveE _ rfl (Tab.silent_at (by decide)) (.inr rfl) rfl rfl (fun _ => trivial) ?_; apply Exists.intro; refine And.intro ?_ ?_; focus (simp [Tab.Env.ev, Tab.Env.get]; rfl)) | refine Tab.tab_skip rfl (Tab.silent_at (by decide)) rfl ?_ | (refine Tab.tab_repE rfl (Tab.silent_at (by decide)) rfl (fun _ _ h => by cases h) rfl (fun _ => trivial) ?_; apply Exists.intro; refine And.intro (fun l w' _ _ hw => ?_) ?_; focus (go_simp; rfl)) | (refine Tab.tab_repE rfl (Tab.silent_at (by decide)) rfl (fun _ _ h => by cases h) rfl (fun _ => trivial) ?_; apply Exists.intro; refine And.intro (fun l w' hs hc hw => ?_) ?_; focus (first | (go_simp; rfl) | (have h := Tab.stageC_before hc hs (by kernel_rfl); simp only [Bool.false_eq_true, if_false] at h; subst h; skip; go_simp; rfl))))
        (refine Tab.tab_act rfl rfl (fun _ _ h => by cases h) rfl (fun l w' hsz hs hc hw => ?_) ?_; focus (have h := Tab.stageC_at hc hs; simp only [Bool.false_eq_true, if_false] at h; subst h; refine ⟨(wr.drew.setCell ⟨w.heap.size, 3, none⟩ (.int .u64 ((x2 + 18446744073709551616 - c - y) % 18446744073709551616))), ?_, trivial, Tab.stageC_done (if_pos rfl).symm (by rw [hsz]; decide)⟩; skip; go_simp; done))
        iterate 1 (first | (refine Tab.tab_moveE _ rfl (Tab.silent_at (by decide)) (.inl rfl) rfl rfl (fun _ => trivial) ?_; apply Exists.intro; refine And.intro ?_ ?_; focus (simp [Tab.Env.ev, Tab.Env.get]; rfl)) | (refine Tab.tab_moveE _ rfl (Tab.silent_at (by decide)) (.inr rfl) rfl rfl (fun _ => trivial) ?_; apply Exists.intro; refine And.intro ?_ ?_; focus (simp [Tab.Env.ev, Tab.Env.get]; rfl)) | refine Tab.tab_skip rfl (Tab.silent_at (by decide)) rfl ?_ | (refine Tab.tab_repE rfl (Tab.silent_at (by decide)) rfl (fun _ _ h => by cases h) rfl (fun _ => trivial) ?_; apply Exists.intro; refine And.intro (fun l w' _ _ hw => ?_) ?_; focus (go_simp; rfl)) | (refine Tab.tab_repE rfl (Tab.silent_at (by decide)) rfl (fun _ _ h => by cases h) rfl (fun _ => trivial) ?_; apply Exists.intro; refine And.intro (fun l w' hs hc hw => ?_) ?_; focus (go_simp; rfl)))
        intro l_ a_ w_ hall_ hcl_ _ hsat_
        have hw_ := Tab.stageC_end hcl_ hall_ (by decide)
        simp only [if_true] at hw_
        subst hw_
        refine Tab.fin_of_sat rfl ?_ hsat_
        simp only [Tab.fin, Act.put, List.setIfInBounds_toArray, List.set_cons_succ, List.set_cons_zero]
        go_wp2
        go_roundw
        case rel => exact ⟨3, _, _, _, _, _, rfl, rfl, ST.out, C0.drew.set_ 3 _, C1.drew.farB (by omega) _, C2.drew.farB (by omega) _, hbel.drew.setCell (p := ⟨w.heap.size, 3, none⟩) (Nat.le_refl _) _⟩
        case measure => simp [intOf]
      · have ST := Lib.hid (minus_step3 ha2 hb2 hc2 hd2 ha hb hc hd h0 h1 h2 hy0 hy1 he)
        clear he
        have hA_ := sub64b x3 d y hd2.lo hd.lo hd.hi hy0 hy1
        go_wp2
        refine Tab.wp_region_tabC (fun _ _ => True) (Tab.stageC 16 fun b_ w_' => w_' = if b_ = true then (wr.drew.setCell ⟨w.heap.size, 4, none⟩ (.int .u64 ((x3 + 18446744073709551616 - d - y) % 18446744073709551616))) else wr.drew) (by kernel_rfl) (by kernel_rfl) (fun _ => trivial) (fun _ _ _ _ _ => trivial) (Tab.stageC_start rfl) ?_
        iterate 16 (first | (refine Tab.tab_moveE _ rfl (Tab.silent_at (by decide)) (.inl rfl) rfl rfl (fun _ => trivial) ?_; apply Exists.intro; refine And.intro ?_ ?_; focus (simp [Tab.Env.ev, Tab.Env.get]; rfl)) | (refine Tab.tab_moveE _ rfl (Tab.silent_at (by decide)) (.inr rfl) rfl rfl (fun _ => trivial) ?_; apply Exists.intro; refine And.intro ?_ ?_; focus (simp [Tab.Env.ev, Tab.Env.get]; rfl)) | refine Tab.tab_skip rfl (Tab.silent_at (by decide)) rfl ?_ | (refine Tab.tab_repE rfl (Tab.silent_at (by decide)) rfl (fun _ _ h => by cases h) rfl (fun _ => trivial) ?_; apply Exists.intro; refine And.intro (fun l w' _ _ hw => ?_) ?_; focus (go_simp; rfl)) | (refine Tab.tab_repE rfl (Tab.silent_at (by decide)) rfl (fun _ _ h => by cases h) rfl (fun _ => trivial) ?_; apply Exists.intro; refine And.intro (fun l w' hs hc hw => ?_) ?_; focus (first | (go_simp; rfl) | (have h := Tab.stageC_before hc hs (by kernel_rfl); simp only [Bool.false_eq_true, if_false] at h; subst h; skip; go_simp; rfl))))
        (refine Tab.tab_act rfl rfl (fun _ _ h => by cases h) rfl (fun l w' hsz hs hc hw => ?_) ?_; focus (have h := Tab.stageC_at hc hs; simp only [Bool.false_eq_true, if_false] at h; subst h; refine ⟨(wr.drew.setCell ⟨w.heap.size, 4, none⟩ (.int .u64 ((x3 + 18446744073709551616 - d - y) % 18446744073709551616))), ?_, trivial, Tab.stageC_done (if_pos rfl).symm (by rw [hsz]; decide)⟩; skip; go_simp; done))
        iterate 1 (first | (refine Tab.tab_moveE _ rfl (Tab.silent_at (by decide)) (.inl rfl) rfl rfl (fun _ => trivial) ?_; apply Exists.intro; refine And.intro ?_ ?_; focus (simp [Tab.Env.ev, Tab.Env.get]; rfl)) | (refine Tab.tab_moveE _ rfl (Tab.silent_at (by decide)) (.inr rfl) rfl rfl (fun _ => trivial) ?_; apply Exists.intro; refine And.intro ?_ ?_; focus (simp [Tab.Env.ev, Tab.Env.get]; rfl)) | refine Tab.tab_skip rfl (Tab.silent_at (by decide)) rfl ?_ | (refine Tab.tab_repE rfl (Tab.silent_at (by decide)) rfl (fun _ _ h => by cases h) rfl (fun _ => trivial) ?_; apply Exists.intro; refine And.intro (fun l w' _ _ hw => ?_) ?_; focus (go_simp; rfl)) | (refine Tab.tab_repE rfl (Tab.silent_at (by decide)) rfl (fun _ _ h => by cases h) rfl (fun _ => trivial) ?_; apply Exists.intro; refine And.intro (fun l w' hs hc hw => ?_) ?_; focus (go_simp; rfl)))
        intro l_ a_ w_ hall_ hcl_ _ hsat_
        have hw_ := Tab.stageC_end hcl_ hall_ (by decide)
        simp only [if_true] at hw_
        subst hw_
        refine Tab.fin_of_sat rfl ?_ hsat_
        simp only [Tab.fin, Act.put, List.setIfInBounds_toArray, List.set_cons_succ, List.set_cons_zero]
        go_wp2
        go_roundw
        case rel => exact ⟨4, _, _, _, _, _, rfl, rfl, ST.out, C0.drew.set_ 4 _, C1.drew.farB (by omega) _, C2.drew.farB (by omega) _, hbel.drew.setCell (p := ⟨w.heap.size, 4, none⟩) (Nat.le_refl _) _⟩
        case measure => simp [intOf]
      · have HE := Lib.hid he
        clear he
        go_wp2_with fail
        have hfin := wcell5 (C2.set5 (.bool (!neg)) (.int .u64 x0) (.int .u64 x1) (.int .u64 x2) (.int .u64 x3))
        refine bodyPost_ret (v := .agg (wcells (!neg) x0 x1 x2 x3)) (by simp [results, Tryz.results217, go_sem, wcells, hfin]) rfl ⟨_, rfl, ⟨_, _, _, _, rfl, h0, h1, h2, h3, ?_⟩, below_set5 hbel (by omega) _ _ _ _ _⟩
        have h1_ := HE.out; rw [HM2.out, HM.out] at h1_; have := wnum_bound h0 h1 h2 h3; omega
  · rw [if_neg hlt, if_neg hlt]
    go_enter Tryz.func217, Tryz.ntmps217
    go_wp2_with fail
    refine (compareSize_any _ _ neg neg m m' HV.out HV'.out _).mono ?_
    rintro e w1 ⟨rfl, hb1⟩
    have B0 : WBox w1 w.heap.size neg a b c d := (((Blk.new w _ _).alloc _).alloc _).below hb1 (by simp; omega)
    have B1 : WBox w1 (w.heap.size + 1) neg a' b' c' d' := by
      have h := ((Blk.new (w.alloc (.cells #[.bool neg, .int .u64 a, .int .u64 b, .int .u64 c, .int .u64 d] 214)) 214 [.bool neg, .int .u64 a', .int .u64 b', .int .u64 c', .int .u64 d']).alloc (.cells #[.bool false, .int .u64 0, .int .u64 0, .int .u64 0, .int .u64 0] 214)).below hb1 (by simp)
      simpa using h
    have B2 : WBox w1 (w.heap.size + 1 + 1) false 0 0 0 0 := by
      have h := (Blk.new ((w.alloc (.cells #[.bool neg, .int .u64 a, .int .u64 b, .int .u64 c, .int .u64 d] 214)).alloc (.cells #[.bool neg, .int .u64 a', .int .u64 b', .int .u64 c', .int .u64 d'] 214)) 214 [.bool false, .int .u64 0, .int .u64 0, .int .u64 0, .int .u64 0]).below hb1 (by simp)
      simpa using h
    have hbel : Below w.heap.size w w1 := (((below_new w _).alloc (by simp) _).alloc (by simp; omega) _).trans (hb1.mono (by simp; omega))
    have START := Lib.hid (And.intro B0 (And.intro B1 (And.intro B2 hbel)))
    clear hb1 B0 B1 B2 hbel
    have hcm : decide (cmpI m m' < 0) = false := decide_eq_false (by
      rcases Int.lt_or_le m' m with h | h
      · rw [cmpI_gt h]; decide
      · rw [cmpI_eq (by omega)]; decide)
    go_wp2_with fail
    replace START := START.out
    go_loopw [5, 6, 23] (fun cy _ i wr => ∃ (k x0 x1 x2 x3 y : Int), i = .int .i64 k ∧ cy = .int .u64 y ∧ MinusRel a b c d a' b' c' d' k x0 x1 x2 x3 y ∧ WBox wr w.heap.size (neg) x0 x1 x2 x3 ∧ WBox wr (w.heap.size + 1) (neg) a' b' c' d' ∧ WBox wr (w.heap.size + 1 + 1) false 0 0 0 0 ∧ Below w.heap.size w wr) (fun _ _ i _ => (4 - intOf i).toNat)
    case atStart => exact ⟨0, _, _, _, _, 0, rfl, rfl, .inl ⟨rfl, rfl, rfl, rfl, rfl, rfl⟩, START.1, START.2.1, START.2.2.1, START.2.2.2⟩
    case round =>
      clear START
      obtain ⟨k, x0, x1, x2, x3, y, rfl, rfl, hrel, C0, C1, C2, hbel⟩ := hrel
      have q0 := wcell5 C0
      have q1 := wcell5 C1
      have q2 := wcell5 C2
      have f0 := C0.frozen
      have f2 := C2.frozen
      rcases hrel with ⟨rfl, rfl, rfl, rfl, rfl, rfl⟩ | ⟨rfl, rfl, rfl, rfl, h0, hy0, hy1, he⟩ | ⟨rfl, rfl, rfl, h0, h1, hy0, hy1, he⟩ | ⟨rfl, rfl, h0, h1, h2, hy0, hy1, he⟩ | ⟨rfl, h0, h1, h2, h3, hy0, hy1, he⟩
      · have hA_ := sub64b0 x0 a' ha.lo ha'.lo ha'.hi
        go_wp2
        refine Tab.wp_region_tabC (fun _ _ => True) (Tab.stageC 16 fun b_ w_' => w_' = if b_ = true then (wr.drew.setCell ⟨w.heap.size, 1, none⟩ (.int .u64 ((x0 + 18446744073709551616 - a') % 18446744073709551616))) else wr.drew) (by kernel_rfl) (by kernel_rfl) (fun _ => trivial) (fun _ _ _ _ _ => trivial) (Tab.stageC_start rfl) ?_
        iterate 16 (first | (refine Tab.tab_moveE _ rfl (Tab.silent_at (by decide)) (.inl rfl) rfl rfl (fun _ => trivial) ?_; apply Exists.intro; refine And.intro ?_ ?_; focus (simp [Tab.Env.ev, Tab.Env.get]; rfl)) | (refine Tab.tab_moveE _ rfl (Tab.silent_at (by decide)) (.inr rfl) rfl rfl (fun _ => trivial) ?_; apply Exists.intro; refine And.intro ?_ ?_; focus (simp [Tab.Env.ev, Tab.Env.get]; rfl)) | refine Tab.tab_skip rfl (Tab.silent_at (by decide)) rfl ?_ | (refine Tab.tab_repE rfl (Tab.silent_at (by decide)) rfl (fun _ _ h => by cases h) rfl (fun _ => trivial) ?_; apply Exists.intro; refine And.intro (fun l w' _ _ hw => ?_) ?_; focus (go_simp; rfl)) | (refine Tab.tab_repE rfl (Tab.silent_at (by decide)) rfl (fun _ _ h => by cases h) rfl (fun _ => trivial) ?_; apply Exists.intro; refine And.intro (fun l w' hs hc hw => ?_) ?_; focus (first | (go_simp; rfl) | (have h := Tab.stageC_before hc hs (by kernel_rfl); simp only [Bool.false_eq_true, if_false] at h; subst h; skip; go_simp; rfl))))
        (refine Tab.tab_act rfl rfl (fun _ _ h => by cases h) rfl (fun l w' hsz hs hc hw => ?_) ?_; focus (have h := Tab.stageC_at hc hs; simp only [Bool.false_eq_true, if_false] at h; subst h; refine ⟨(wr.drew.setCell ⟨w.heap.size, 1, none⟩ (.int .u64 ((x0 + 18446744073709551616 - a') % 18446744073709551616))), ?_, trivial, Tab.stageC_done (if_pos rfl).symm (by rw [hsz]; decide)⟩; skip; go_simp; done))
        iterate 1 (first | (refine Tab.tab_moveE _ rfl (Tab.silent_at (by decide)) (.inl rfl) rfl rfl (fun _ => trivial) ?_; apply Exists.intro; refine And.intro ?_ ?_; focus (simp [Tab.Env.ev, Tab.Env.get]; rfl)) | (refine Tab.tab_moveE _ rfl (Tab.silent_at (by decide)) (.inr rfl) rfl rfl (fun _ => trivial) ?_; apply Exists.intro; refine And.intro ?_ ?_; focus (simp [Tab.Env.ev, Tab.Env.get]; rfl)) | refine Tab.tab_skip rfl (Tab.silent_at (by decide)) rfl ?_ | (refine Tab.tab_repE rfl (Tab.silent_at (by decide)) rfl (fun _ _ h => by cases h) rfl (fun _ => trivial) ?_; apply Exists.intro; refine And.intro (fun l w' _ _ hw => ?_) ?_; focus (go_simp; rfl)) | (refine Tab.tab_repE rfl (Tab.silent_at (by decide)) rfl (fun _ _ h => by cases h) rfl (fun _ => trivial) ?_; apply Exists.intro; refine And.intro (fun l w' hs hc hw => ?_) ?_; focus (go_simp; rfl)))
        intro l_ a_ w_ hall_ hcl_ _ hsat_
        have hw_ := Tab.stageC_end hcl_ hall_ (by decide)
        simp only [if_true] at hw_
        subst hw_
        refine Tab.fin_of_sat rfl ?_ hsat_
        simp only [Tab.fin, Act.put, List.setIfInBounds_toArray, List.set_cons_succ, List.set_cons_zero]
        go_wp2
        go_roundw
        case rel => exact ⟨1, _, _, _, _, _, rfl, rfl, minus_step0 ha hb hc hd ha' hb' hc' hd', C0.drew.set_ 1 _, C1.drew.farB (by omega) _, C2.drew.farB (by omega) _, hbel.drew.setCell (p := ⟨w.heap.size, 1, none⟩) (Nat.le_refl _) _⟩
        case measure => simp [intOf]
      · have ST := Lib.hid (minus_step1 ha hb hc hd ha' hb' hc' hd' h0 hy0 hy1 he)
        clear he
        have hA_ := sub64b x1 b' y hb.lo hb'.lo hb'.hi hy0 hy1
        go_wp2
        refine Tab.wp_region_tabC (fun _ _ => True) (Tab.stageC 16 fun b_ w_' => w_' = if b_ = true then (wr.drew.setCell ⟨w.heap.size, 2, none⟩ (.int .u64 ((x1 + 18446744073709551616 - b' - y) % 18446744073709551616))) else wr.drew) (by kernel_rfl) (by kernel_rfl) (fun _ => trivial) (fun _ _ _ _ _ => trivial) (Tab.stageC_start rfl) ?_
        iterate 16 (first | (refine Tab.tab_moveE _ rfl (Tab.silent_at (by decide)) (.inl rfl) rfl rfl (fun _ => trivial) ?_; apply Exists.intro; refine And.intro ?_ ?_; focus (simp [Tab.Env.ev, Tab.Env.get]; rfl)) | (refine Tab.tab_moveE _ rfl (Tab.silent_at (by decide)) (.inr rfl) rfl rfl (fun _ => trivial) ?_; apply Exists.intro; refine And.intro ?_ ?_; focus (simp [Tab.Env.ev, Tab.Env.get]; rfl)) | refine Tab.tab_skip rfl (Tab.silent_at (by decide)) rfl ?_ | (refine Tab.tab_repE rfl (Tab.silent_at (by decide)) rfl (fun _ _ h => by cases h) rfl (fun _ => trivial) ?_; apply Exists.intro; refine And.intro (fun l w' _ _ hw => ?_) ?_; focus (go_simp; rfl)) | (refine Tab.tab_repE rfl (Tab.silent_at (by decide)) rfl (fun _ _ h => by cases h) rfl (fun _ => trivial) ?_; apply Exists.intro; refine And.intro (fun l w' hs hc hw => ?_) ?_; focus (first | (go_simp; rfl) | (have h := Tab.stageC_before hc hs (by kernel_rfl); simp only [Bool.false_eq_true, if_false] at h; subst h; skip; go_simp; rfl))))
        (refine Tab.tab_act rfl rfl (fun _ _ h => by cases h) rfl (fun l w' hsz hs hc hw => ?_) ?_; focus (have h := Tab.stageC_at hc hs; simp only [Bool.false_eq_true, if_false] at h; subst h; refine ⟨(wr.drew.setCell ⟨w.heap.size, 2, none⟩ (.int .u64 ((x1 + 18446744073709551616 - b' - y) % 18446744073709551616))), ?_, trivial, Tab.stageC_done (if_pos rfl).symm (by rw [hsz]; decide)⟩; skip; go_simp; done))
        iterate 1 (first | (refine Tab.tab_moveE _ rfl (Tab.silent_at (by decide)) (.inl rfl) rfl rfl (fun _ => trivial) ?_; apply Exists.intro; refine And.intro ?_ ?_; focus (simp [Tab.Env.ev, Tab.Env.get]; rfl)) | (refine Tab.tab_moveE _ rfl (Tab.silent_at (by decide)) (.inr rfl) rfl rfl (fun _ => trivial) ?_; apply Exists.intro; refine And.intro ?_ ?_; focus (simp [Tab.Env.ev, Tab.Env.get]; rfl)) | refine Tab.tab_skip rfl (Tab.silent_at (by decide)) rfl ?_ | (refine Tab.tab_repE rfl (Tab.silent_at (by decide)) rfl (fun _ _ h => by cases h) rfl (fun _ => trivial) ?_; apply Exists.intro; refine And.intro (fun l w' _ _ hw => ?_) ?_; focus (go_simp; rfl)) | (refine Tab.tab_repE rfl (Tab.silent_at (by decide)) rfl (fun _ _ h => by cases h) rfl (fun _ => trivial) ?_; apply Exists.intro; refine And.intro (fun l w' hs hc hw => ?_) ?_; focus (go_simp; rfl)))
        intro l_ a_ w_ hall_ hcl_ _ hsat_
        have hw_ := Tab.stageC_end hcl_ hall_ (by decide)
        simp only [if_true] at hw_
        subst hw_
        refine Tab.fin_of_sat rfl ?_ hsat_
        simp only [Tab.fin, Act.put, List.setIfInBounds_toArray, List.set_cons_succ, List.set_cons_zero]
        go_wp2
        go_roundw
        case rel => exact ⟨2, _, _, _, _, _, rfl, rfl, ST.out, C0.drew.set_ 2 _, C1.drew.farB (by omega) _, C2.drew.farB (by omega) _, hbel.drew.setCell (p := ⟨w.heap.size, 2, none⟩) (Nat.le_refl _) _⟩
        case measure => simp [intOf]
      · have ST := Lib.hid (minus_step2 ha hb hc hd ha' hb' hc' hd' h0 h1 hy0 hy1 he)
        clear he
        have hA_ := sub64b x2 c' y hc.lo hc'.lo hc'.hi hy0 hy1
        go_wp2
        refine Tab.wp_region_tabC (fun _ _ => True) (Tab.stageC 16 fun b_ w_' => w_' = if b_ = true then (wr.drew.setCell ⟨w.heap.size, 3, none⟩ (.int .u64 ((x2 + 18446744073709551616 - c' - y) % 18446744073709551616))) else wr.drew) (by kernel_rfl) (by kernel_rfl) (fun _ => trivial) (fun _ _ _ _ _ => trivial) (Tab.stageC_start rfl) ?_
        iterate 16 (first | (refine Tab.tab_moveE _ rfl (Tab.silent_at (by decide)) (.inl rfl) rfl rfl (fun _ => trivial) ?_; apply Exists.intro; refine And.intro ?_ ?_; focus (simp [Tab.Env.ev, Tab.Env.get]; rfl)) | (refine Tab.tab_moveE _ rfl (Tab.silent_at (by decide)) (.inr rfl) rfl rfl (fun _ => trivial) ?_; apply Exists.intro; refine And.intro ?_ ?_; focus (simp [Tab.Env.ev, Tab.Env.get]; rfl)) | refine Tab.tab_skip rfl (Tab.silent_at (by decide)) rfl ?_ | (refine Tab.tab_repE rfl (Tab.silent_at (by decide)) rfl (fun _ _ h => by cases h) rfl (fun _ => trivial) ?_; apply Exists.intro; refine And.intro (fun l w' _ _ hw => ?_) ?_; focus (go_simp; rfl)) | (refine Tab.tab_repE rfl (Tab.silent_at (by decide)) rfl (fun _ _ h => by cases h) rfl (fun _ => trivial) ?_; apply Exists.intro; refine And.intro (fun l w' hs hc hw => ?_) ?_; focus (first | (go_simp; rfl) | (have h := Tab.stageC_before hc hs (by kernel_rfl); simp only [Bool.false_eq_true, if_false] at h; subst h; skip; go_simp; rfl))))
        (refine Tab.tab_act rfl rfl (fun _ _ h => by cases h) rfl (fun l w' hsz hs hc hw => ?_) ?_; focus (have h := Tab.stageC_at hc hs; simp only [Bool.false_eq_true, if_false] at h; subst h; refine ⟨(wr.drew.setCell ⟨w.heap.size, 3, none⟩ (.int .u64 ((x2 + 18446744073709551616 - c' - y) % 18446744073709551616))), ?_, trivial, Tab.stageC_done (if_pos rfl).symm (by rw [hsz]; decide)⟩; skip; go_simp; done))
        iterate 1 (first | (refine Tab.tab_moveE _ rfl (Tab.silent_at (by decide)) (.inl rfl) rfl rfl (fun _ => trivial) ?_; apply Exists.intro; refine And.intro ?_ ?_; focus (simp [Tab.Env.ev, Tab.Env.get]; rfl)) | (refine Tab.tab_moveE _ rfl (Tab.silent_at (by decide)) (.inr rfl) rfl rfl (fun _ => trivial) ?_; apply Exists.intro; refine And.intro ?_ ?_; focus (simp [Tab.Env.ev, Tab.Env.get]; rfl)) | refine Tab.tab_skip rfl (Tab.silent_at (by decide)) rfl ?_ | (refine Tab.tab_repE rfl (Tab.silent_at (by decide)) rfl (fun _ _ h => by cases h) rfl (fun _ => trivial) ?_; apply Exists.intro; refine And.intro (fun l w' _ _ hw => ?_) ?_; focus (go_simp; rfl)) | (refine Tab.tab_repE rfl (Tab.silent_at (by decide)) rfl (fun _ _ h => by cases h) rfl (fun _ => trivial) ?_; apply Exists.intro; refine And.intro (fun l w' hs hc hw => ?_) ?_; focus (go_simp; rfl)))
        intro l_ a_ w_ hall_ hcl_ _ hsat_
        have hw_ := Tab.stageC_end hcl_ hall_ (by decide)
        simp only [if_true] at hw_
        subst hw_
        refine Tab.fin_of_sat rfl ?_ hsat_
        simp only [Tab.fin, Act.put, List.setIfInBounds_toArray, List.set_cons_succ, List.set_cons_zero]
        go_wp2
        go_roundw
        case rel => exact ⟨3, _, _, _, _, _, rfl, rfl, ST.out, C0.drew.set_ 3 _, C1.drew.farB (by omega) _, C2.drew.farB (by omega) _, hbel.drew.setCell (p := ⟨w.heap.size, 3, none⟩) (Nat.le_refl _) _⟩
        case measure => simp [intOf]
      · have ST := Lib.hid (minus_step3 ha hb hc hd ha' hb' hc' hd' h0 h1 h2 hy0 hy1 he)
        clear he
        have hA_ := sub64b x3 d' y hd.lo hd'.lo hd'.hi hy0 hy1
        go_wp2
        refine Tab.wp_region_tabC (fun _ _ => True) (Tab.stageC 16 fun b_ w_' => w_' = if b_ = true then (wr.drew.setCell ⟨w.heap.size, 4, none⟩ (.int .u64 ((x3 + 18446744073709551616 - d' - y) % 18446744073709551616))) else wr.drew) (by kernel_rfl) (by kernel_rfl) (fun _ => trivial) (fun _ _ _ _ _ => trivial) (Tab.stageC_start rfl) ?_
        iterate 16 (first | (refine Tab.tab_moveE _ rfl (Tab.silent_at (by decide)) (.inl rfl) rfl rfl (fun _ => trivial) ?_; apply Exists.intro; refine And.intro ?_ ?_; focus (simp [Tab.Env.ev, Tab.Env.get]; rfl)) | (refine Tab.tab_moveE _ rfl (Tab.silent_at (by decide)) (.inr rfl) rfl rfl (fun _ => trivial) ?_; apply Exists.intro; refine And.intro ?_ ?_; focus (simp [Tab.Env.ev, Tab.Env.get]; rfl)) | refine Tab.tab_skip rfl (Tab.silent_at (by decide)) rfl ?_ | (refine Tab.tab_repE rfl (Tab.silent_at (by decide)) rfl (fun _ _ h => by cases h) rfl (fun _ => trivial) ?_; apply Exists.intro; refine And.intro (fun l w' _ _ hw => ?_) ?_; focus (go_simp; rfl)) | (refine Tab.tab_repE rfl (Tab.silent_at (by decide)) rfl (fun _ _ h => by cases h) rfl (fun _ => trivial) ?_; apply Exists.intro; refine And.intro (fun l w' hs hc hw => ?_) ?_; focus (first | (go_simp; rfl) | (have h := Tab.stageC_before hc hs (by kernel_rfl); simp only [Bool.false_eq_true, if_false] at h; subst h; skip; go_simp; rfl))))
        (refine Tab.tab_act rfl rfl (fun _ _ h => by cases h) rfl (fun l w' hsz hs hc hw => ?_) ?_; focus (have h := Tab.stageC_at hc hs; simp only [Bool.false_eq_true, if_false] at h; subst h; refine ⟨(wr.drew.setCell ⟨w.heap.size, 4, none⟩ (.int .u64 ((x3 + 18446744073709551616 - d' - y) % 18446744073709551616))), ?_, trivial, Tab.stageC_done (if_pos rfl).symm (by rw [hsz]; decide)⟩; skip; go_simp; done))
        iterate 1 (first | (refine Tab.tab_moveE _ rfl (Tab.silent_at (by decide)) (.inl rfl) rfl rfl (fun _ => trivial) ?_; apply Exists.intro; refine And.intro ?_ ?_; focus (simp [Tab.Env.ev, Tab.Env.get]; rfl)) | (refine Tab.tab_moveE _ rfl (Tab.silent_at (by decide)) (.inr rfl) rfl rfl (fun _ => trivial) ?_; apply Exists.intro; refine And.intro ?_ ?_; focus (simp [Tab.Env.ev, Tab.Env.get]; rfl)) | refine Tab.tab_skip rfl (Tab.silent_at (by decide)) rfl ?_ | (refine Tab.tab_repE rfl (Tab.silent_at (by decide)) rfl (fun _ _ h => by cases h) rfl (fun _ => trivial) ?_; apply Exists.intro; refine And.intro (fun l w' _ _ hw => ?_) ?_; focus (go_simp; rfl)) | (refine Tab.tab_repE rfl (Tab.silent_at (by decide)) rfl (fun _ _ h => by cases h) rfl (fun _ => trivial) ?_; apply Exists.intro; refine And.intro (fun l w' hs hc hw => ?_) ?_; focus (go_simp; rfl)))
        intro l_ a_ w_ hall_ hcl_ _ hsat_
        have hw_ := Tab.stageC_end hcl_ hall_ (by decide)
        simp only [if_true] at hw_
        subst hw_
        refine Tab.fin_of_sat rfl ?_ hsat_
        simp only [Tab.fin, Act.put, List.setIfInBounds_toArray, List.set_cons_succ, List.set_cons_zero]
        go_wp2
        go_roundw
        case rel => exact ⟨4, _, _, _, _, _, rfl, rfl, ST.out, C0.drew.set_ 4 _, C1.drew.farB (by omega) _, C2.drew.farB (by omega) _, hbel.drew.setCell (p := ⟨w.heap.size, 4, none⟩) (Nat.le_refl _) _⟩
        case measure => simp [intOf]
      · have HE := Lib.hid he
        clear he
        go_wp2_with fail
        have hfin := wcell5 (C2.set5 (.bool (neg)) (.int .u64 x0) (.int .u64 x1) (.int .u64 x2) (.int .u64 x3))
        refine bodyPost_ret (v := .agg (wcells (neg) x0 x1 x2 x3)) (by simp [results, Tryz.results217, go_sem, wcells, hfin]) rfl ⟨_, rfl, ⟨_, _, _, _, rfl, h0, h1, h2, h3, ?_⟩, below_set5 hbel (by omega) _ _ _ _ _⟩
        have h1_ := HE.out; rw [HM.out, HM'.out] at h1_; have := wnum_bound h0 h1 h2 h3; omega
end Go.Proofs.YthejmnmkbldacaaGreatDoor
