/-
  What is proved: sums and differences of wide numbers. Conditions: sizes below 2^256.
-/
import Derived.Test.YthejmnmkbldacaaGreatDoorAp03
import Derived.StillTailTactics
set_option linter.all false
namespace Go.Proofs.YthejmnmkbldacaaGreatDoor
open Go.RowKit
attribute [local go_sem] Tab.Env.ev Tab.Env.get

/-- behind k words of a sum -/
def PlusRel (a b c d a' b' c' d' : Int) (k : Int) (x0 x1 x2 x3 cy : Int) : Prop :=
  (k = 0 ∧ x0 = a ∧ x1 = b ∧ x2 = c ∧ x3 = d ∧ cy = 0) ∨
  (k = 1 ∧ x1 = b ∧ x2 = c ∧ x3 = d ∧ Word x0 ∧ 0 ≤ cy ∧ cy ≤ 1 ∧ x0 + 18446744073709551616 * cy = a + a') ∨
  (k = 2 ∧ x2 = c ∧ x3 = d ∧ Word x0 ∧ Word x1 ∧ 0 ≤ cy ∧ cy ≤ 1 ∧ x0 + 18446744073709551616 * x1 + 340282366920938463463374607431768211456 * cy = a + a' + 18446744073709551616 * (b + b')) ∨
  (k = 3 ∧ x3 = d ∧ Word x0 ∧ Word x1 ∧ Word x2 ∧ 0 ≤ cy ∧ cy ≤ 1 ∧ x0 + 18446744073709551616 * x1 + 340282366920938463463374607431768211456 * x2 + 6277101735386680763835789423207666416102355444464034512896 * cy = a + a' + 18446744073709551616 * (b + b') + 340282366920938463463374607431768211456 * (c + c')) ∨
  (k = 4 ∧ Word x0 ∧ Word x1 ∧ Word x2 ∧ Word x3 ∧ 0 ≤ cy ∧ cy ≤ 1 ∧ wnum x0 x1 x2 x3 + 115792089237316195423570985008687907853269984665640564039457584007913129639936 * cy = wnum a b c d + wnum a' b' c' d')

theorem plus_step0 {a b c d a' b' c' d' : Int} (ha : Word a) (_ : Word b) (_ : Word c) (_ : Word d) (ha' : Word a') (_ : Word b') (_ : Word c') (_ : Word d') : PlusRel a b c d a' b' c' d' 1 ((a + a') % 18446744073709551616) b c d ((a + a') / 18446744073709551616) := by
  obtain ⟨_, _⟩ := ha; obtain ⟨_, _⟩ := ha'
  exact .inr (.inl ⟨rfl, rfl, rfl, rfl, ⟨by omega, by omega⟩, by omega, by omega, by omega⟩)
theorem plus_step1 {a b c d a' b' c' d' x0 y : Int} (_ : Word a) (hb : Word b) (_ : Word c) (_ : Word d) (_ : Word a') (hb' : Word b') (_ : Word c') (_ : Word d') (h0 : Word x0) (hy0 : 0 ≤ y) (hy1 : y ≤ 1) (he : x0 + 18446744073709551616 * y = a + a') :
    PlusRel a b c d a' b' c' d' 2 x0 ((b + b' + y) % 18446744073709551616) c d ((b + b' + y) / 18446744073709551616) := by
  obtain ⟨_, _⟩ := hb; obtain ⟨_, _⟩ := hb'
  exact .inr (.inr (.inl ⟨rfl, rfl, rfl, h0, ⟨by omega, by omega⟩, by omega, by omega, by omega⟩))
theorem plus_step2 {a b c d a' b' c' d' x0 x1 y : Int} (_ : Word a) (_ : Word b) (hc : Word c) (_ : Word d) (_ : Word a') (_ : Word b') (hc' : Word c') (_ : Word d') (h0 : Word x0) (h1 : Word x1) (hy0 : 0 ≤ y) (hy1 : y ≤ 1) (he : x0 + 18446744073709551616 * x1 + 340282366920938463463374607431768211456 * y = a + a' + 18446744073709551616 * (b + b')) :
    PlusRel a b c d a' b' c' d' 3 x0 x1 ((c + c' + y) % 18446744073709551616) d ((c + c' + y) / 18446744073709551616) := by
  obtain ⟨_, _⟩ := hc; obtain ⟨_, _⟩ := hc'
  exact .inr (.inr (.inr (.inl ⟨rfl, rfl, h0, h1, ⟨by omega, by omega⟩, by omega, by omega, by omega⟩)))
theorem plus_step3 {a b c d a' b' c' d' x0 x1 x2 y : Int} (_ : Word a) (_ : Word b) (_ : Word c) (hd : Word d) (_ : Word a') (_ : Word b') (_ : Word c') (hd' : Word d') (h0 : Word x0) (h1 : Word x1) (h2 : Word x2) (hy0 : 0 ≤ y) (hy1 : y ≤ 1)
    (he : x0 + 18446744073709551616 * x1 + 340282366920938463463374607431768211456 * x2 + 6277101735386680763835789423207666416102355444464034512896 * y = a + a' + 18446744073709551616 * (b + b') + 340282366920938463463374607431768211456 * (c + c')) :
    PlusRel a b c d a' b' c' d' 4 x0 x1 x2 ((d + d' + y) % 18446744073709551616) ((d + d' + y) / 18446744073709551616) := by
  obtain ⟨_, _⟩ := hd; obtain ⟨_, _⟩ := hd'
  refine .inr (.inr (.inr (.inr ⟨rfl, h0, h1, h2, ⟨by omega, by omega⟩, by omega, by omega, ?_⟩)))
  unfold wnum
  omega

/-- the world of a sum: the boxes of both numbers, the result's -/
def plusW (w : World) (neg neg' : Bool) (x0 x1 x2 x3 a' b' c' d' : Int) : World := ((w.alloc (.cells #[.bool neg, .int .u64 x0, .int .u64 x1, .int .u64 x2, .int .u64 x3] 214)).alloc (.cells #[.bool neg', .int .u64 a', .int .u64 b', .int .u64 c', .int .u64 d'] 214)).alloc (.cells #[.bool false, .int .u64 0, .int .u64 0, .int .u64 0, .int .u64 0] 214)

set_option maxHeartbeats 4000000 in
set_option maxRecDepth 100000 in
theorem plus_same (neg : Bool) (v v' : Value) (m m' : Int) (hv : IsWide v neg m) (hv' : IsWide v' neg m') (hm : m + m' < 115792089237316195423570985008687907853269984665640564039457584007913129639936) (w : World) :
    Calls Tryz.prog 210 #[v, v'] w fun e w' => ∃ r, e = .returned r ∧ IsWide r neg (m + m') ∧ Below w.heap.size w w' := by
  obtain ⟨a, b, c, d, rfl, ha, hb, hc, hd, rfl⟩ := hv
  obtain ⟨a', b', c', d', rfl, ha', hb', hc', hd', rfl⟩ := hv'
  unfold wcells
  go_enter Tryz.func210, Tryz.ntmps210
  go_wp2
  go_loopw [5, 6, 16] (fun cy _ i wr => ∃ (k x0 x1 x2 x3 y : Int) (n : Nat), i = .int .i64 k ∧ cy = .int .u64 y ∧ PlusRel a b c d a' b' c' d' k x0 x1 x2 x3 y ∧ wr = (plusW w neg neg x0 x1 x2 x3 a' b' c' d').drewN n) (fun _ _ i _ => (4 - intOf i).toNat)
  case atStart => exact ⟨0, a, b, c, d, 0, 0, rfl, rfl, .inl ⟨rfl, rfl, rfl, rfl, rfl, rfl⟩, rfl⟩
  case round =>
    obtain ⟨k, x0, x1, x2, x3, y, n, rfl, rfl, hrel, rfl⟩ := hrel
    rcases hrel with ⟨rfl, rfl, rfl, rfl, rfl, rfl⟩ | ⟨rfl, rfl, rfl, rfl, h0, hy0, hy1, he⟩ | ⟨rfl, rfl, rfl, h0, h1, hy0, hy1, he⟩ | ⟨rfl, rfl, h0, h1, h2, hy0, hy1, he⟩ | ⟨rfl, h0, h1, h2, h3, hy0, hy1, he⟩
    · unfold plusW
      have hA := add64 x0 a' 0 ha.lo ha'.lo (by omega) (by omega)
      go_wp2
      refine Tab.wp_region_tabC (fun _ _ => True) (Tab.stageC 16 fun b_ w_' => w_' = if b_ = true then ((plusW w neg neg ((x0 + a') % 18446744073709551616) x1 x2 x3 a' b' c' d').drewN n).drew else ((plusW w neg neg x0 x1 x2 x3 a' b' c' d').drewN n).drew) (by kernel_rfl) (by kernel_rfl) (fun _ => trivial) (fun _ _ _ _ _ => trivial) (Tab.stageC_start rfl) ?_
      iterate 16 (first | (refine Tab.tab_moveE _ rfl (Tab.silent_at (by decide)) (.inl rfl) rfl rfl (fun _ => trivial) ?_; apply Exists.intro; refine And.intro ?_ ?_; focus (simp [Tab.Env.ev, Tab.Env.get]; rfl)) | (refine Tab.tab_moveE _ rfl (Tab.silent_at (by decide)) (.inr rfl) rfl rfl (fun _ => trivial) ?_; apply Exists.intro; refine And.intro ?_ ?_; focus (simp [Tab.Env.ev, Tab.Env.get]; rfl)) | refine Tab.tab_skip rfl (Tab.silent_at (by decide)) rfl ?_ | (refine Tab.tab_repE rfl (Tab.silent_at (by decide)) rfl (fun _ _ h => by cases h) rfl (fun _ => trivial) ?_; apply Exists.intro; refine And.intro (fun l w' _ _ hw => ?_) ?_; focus (go_simp; rfl)) | (refine Tab.tab_repE rfl (Tab.silent_at (by decide)) rfl (fun _ _ h => by cases h) rfl (fun _ => trivial) ?_; apply Exists.intro; refine And.intro (fun l w' hs hc hw => ?_) ?_; focus (first | (go_simp; rfl) | (have h := Tab.stageC_before hc hs (by kernel_rfl); simp only [Bool.false_eq_true, if_false] at h; subst h; unfold plusW; go_simp; rfl))))
      (refine Tab.tab_act rfl rfl (fun _ _ h => by cases h) rfl (fun l w' hsz hs hc hw => ?_) ?_; focus (have h := Tab.stageC_at hc hs; simp only [Bool.false_eq_true, if_false] at h; subst h; refine ⟨((plusW w neg neg ((x0 + a') % 18446744073709551616) x1 x2 x3 a' b' c' d').drewN n).drew, ?_, trivial, Tab.stageC_done (if_pos rfl).symm (by rw [hsz]; decide)⟩; unfold plusW; go_simp; done))
      iterate 1 (first | (refine Tab.tab_moveE _ rfl (Tab.silent_at (by decide)) (.inl rfl) rfl rfl (fun _ => trivial) ?_; apply Exists.intro; refine And.intro ?_ ?_; focus (simp [Tab.Env.ev, Tab.Env.get]; rfl)) | (refine Tab.tab_moveE _ rfl (Tab.silent_at (by decide)) (.inr rfl) rfl rfl (fun _ => trivial) ?_; apply Exists.intro; refine And.intro ?_ ?_; focus (simp [Tab.Env.ev, Tab.Env.get]; rfl)) | refine Tab.tab_skip rfl (Tab.silent_at (by decide)) rfl ?_ | (refine Tab.tab_repE rfl (Tab.silent_at (by decide)) rfl (fun _ _ h => by cases h) rfl (fun _ => trivial) ?_; apply Exists.intro; refine And.intro (fun l w' _ _ hw => ?_) ?_; focus (go_simp; rfl)) | (refine Tab.tab_repE rfl (Tab.silent_at (by decide)) rfl (fun _ _ h => by cases h) rfl (fun _ => trivial) ?_; apply Exists.intro; refine And.intro (fun l w' hs hc hw => ?_) ?_; focus (go_simp; rfl)))
      intro l_ a_ w_ hall_ hcl_ _ hsat_
      have hw_ := Tab.stageC_end hcl_ hall_ (by decide)
      simp only [if_true] at hw_
      subst hw_
      refine Tab.fin_of_sat rfl ?_ hsat_
      simp only [Tab.fin, Act.put, List.setIfInBounds_toArray, List.set_cons_succ, List.set_cons_zero]
      go_wp2
      go_roundw
      case rel => exact ⟨1, _, _, _, _, _, _, rfl, rfl, plus_step0 ha hb hc hd ha' hb' hc' hd', rfl⟩
      case measure => simp [intOf]
    · have ST := Lib.hid (plus_step1 ha hb hc hd ha' hb' hc' hd' h0 hy0 hy1 he)
      clear he
      unfold plusW
      have hA := add64 x1 b' y hb.lo hb'.lo (by omega) (by omega)
      go_wp2
      refine Tab.wp_region_tabC (fun _ _ => True) (Tab.stageC 16 fun b_ w_' => w_' = if b_ = true then ((plusW w neg neg x0 ((x1 + b' + y) % 18446744073709551616) x2 x3 a' b' c' d').drewN n).drew else ((plusW w neg neg x0 x1 x2 x3 a' b' c' d').drewN n).drew) (by kernel_rfl) (by kernel_rfl) (fun _ => trivial) (fun _ _ _ _ _ => trivial) (Tab.stageC_start rfl) ?_
      iterate 16 (first | (refine Tab.tab_moveE _ rfl (Tab.silent_at (by decide)) (.inl rfl) rfl rfl (fun _ => trivial) ?_; apply Exists.intro; refine And.intro ?_ ?_; focus (simp [Tab.Env.ev, Tab.Env.get]; rfl)) | (refine Tab.tab_moveE _ rfl (Tab.silent_at (by decide)) (.inr rfl) rfl rfl (fun _ => trivial) ?_; apply Exists.intro; refine And.intro ?_ ?_; focus (simp [Tab.Env.ev, Tab.Env.get]; rfl)) | refine Tab.tab_skip rfl (Tab.silent_at (by decide)) rfl ?_ | (refine Tab.tab_repE rfl (Tab.silent_at (by decide)) rfl (fun _ _ h => by cases h) rfl (fun _ => trivial) ?_; apply Exists.intro; refine And.intro (fun l w' _ _ hw => ?_) ?_; focus (go_simp; rfl)) | (refine Tab.tab_repE rfl (Tab.silent_at (by decide)) rfl (fun _ _ h => by cases h) rfl (fun _ => trivial) ?_; apply Exists.intro; refine And.intro (fun l w' hs hc hw => ?_) ?_; focus (first | (go_simp; rfl) | (have h := Tab.stageC_before hc hs (by kernel_rfl); simp only [Bool.false_eq_true, if_false] at h; subst h; unfold plusW; go_simp; rfl))))
      (refine Tab.tab_act rfl rfl (fun _ _ h => by cases h) rfl (fun l w' hsz hs hc hw => ?_) ?_; focus (have h := Tab.stageC_at hc hs; simp only [Bool.false_eq_true, if_false] at h; subst h; refine ⟨((plusW w neg neg x0 ((x1 + b' + y) % 18446744073709551616) x2 x3 a' b' c' d').drewN n).drew, ?_, trivial, Tab.stageC_done (if_pos rfl).symm (by rw [hsz]; decide)⟩; unfold plusW; go_simp; done))
      iterate 1 (first | (refine Tab.tab_moveE _ rfl (Tab.silent_at (by decide)) (.inl rfl) rfl rfl (fun _ => trivial) ?_; apply Exists.intro; refine And.intro ?_ ?_; focus (simp [Tab.Env.ev, Tab.Env.get]; rfl)) | (refine Tab.tab_moveE _ rfl (Tab.silent_at (by decide)) (.inr rfl) rfl rfl (fun _ => trivial) ?_; apply Exists.intro; refine And.intro ?_ ?_; focus (simp [Tab.Env.ev, Tab.Env.get]; rfl)) | refine Tab.tab_skip rfl (Tab.silent_at (by decide)) rfl ?_ | (refine Tab.tab_repE rfl (Tab.silent_at (by decide)) rfl (fun _ _ h => by cases h) rfl (fun _ => trivial) ?_; apply Exists.intro; refine And.intro (fun l w' _ _ hw => ?_) ?_; focus (go_simp; rfl)) | (refine Tab.tab_repE rfl (Tab.silent_at (by decide)) rfl (fun _ _ h => by cases h) rfl (fun _ => trivial) ?_; apply Exists.intro; refine And.intro (fun l w' hs hc hw => ?_) ?_; focus (go_simp; rfl)))
      intro l_ a_ w_ hall_ hcl_ _ hsat_
      have hw_ := Tab.stageC_end hcl_ hall_ (by decide)
      simp only [if_true] at hw_
      subst hw_
      refine Tab.fin_of_sat rfl ?_ hsat_
      simp only [Tab.fin, Act.put, List.setIfInBounds_toArray, List.set_cons_succ, List.set_cons_zero]
      go_wp2
      go_roundw
      case rel => exact ⟨2, _, _, _, _, _, _, rfl, rfl, ST.out, rfl⟩
      case measure => simp [intOf]
    · have ST := Lib.hid (plus_step2 ha hb hc hd ha' hb' hc' hd' h0 h1 hy0 hy1 he)
      clear he
      unfold plusW
      have hA := add64 x2 c' y hc.lo hc'.lo (by omega) (by omega)
      go_wp2
      refine Tab.wp_region_tabC (fun _ _ => True) (Tab.stageC 16 fun b_ w_' => w_' = if b_ = true then ((plusW w neg neg x0 x1 ((x2 + c' + y) % 18446744073709551616) x3 a' b' c' d').drewN n).drew else ((plusW w neg neg x0 x1 x2 x3 a' b' c' d').drewN n).drew) (by kernel_rfl) (by kernel_rfl) (fun _ => trivial) (fun _ _ _ _ _ => trivial) (Tab.stageC_start rfl) ?_
      iterate 16 (first | (refine Tab.tab_moveE _ rfl (Tab.silent_at (by decide)) (.inl rfl) rfl rfl (fun _ => trivial) ?_; apply Exists.intro; refine And.intro ?_ ?_; focus (simp [Tab.Env.ev, Tab.Env.get]; rfl)) | (refine Tab.tab_moveE _ rfl (Tab.silent_at (by decide)) (.inr rfl) rfl rfl (fun _ => trivial) ?_; apply Exists.intro; refine And.intro ?_ ?_; focus (simp [Tab.Env.ev, Tab.Env.get]; rfl)) | refine Tab.tab_skip rfl (Tab.silent_at (by decide)) rfl ?_ | (refine Tab.tab_repE rfl (Tab.silent_at (by decide)) rfl (fun _ _ h => by cases h) rfl (fun _ => trivial) ?_; apply Exists.intro; refine And.intro (fun l w' _ _ hw => ?_) ?_; focus (go_simp; rfl)) | (refine Tab.tab_repE rfl (Tab.silent_at (by decide)) rfl (fun _ _ h => by cases h) rfl (fun _ => trivial) ?_; apply Exists.intro; refine And.intro (fun l w' hs hc hw => ?_) ?_; focus (first | (go_simp; rfl) | (have h := Tab.stageC_before hc hs (by kernel_rfl); simp only [Bool.false_eq_true, if_false] at h; subst h; unfold plusW; go_simp; rfl))))
      (refine Tab.tab_act rfl rfl (fun _ _ h => by cases h) rfl (fun l w' hsz hs hc hw => ?_) ?_; focus (have h := Tab.stageC_at hc hs; simp only [Bool.false_eq_true, if_false] at h; subst h; refine ⟨((plusW w neg neg x0 x1 ((x2 + c' + y) % 18446744073709551616) x3 a' b' c' d').drewN n).drew, ?_, trivial, Tab.stageC_done (if_pos rfl).symm (by rw [hsz]; decide)⟩; unfold plusW; go_simp; done))
      iterate 1 (first | (refine Tab.tab_moveE _ rfl (Tab.silent_at (by decide)) (.inl rfl) rfl rfl (fun _ => trivial) ?_; apply Exists.intro; refine And.intro ?_ ?_; focus (simp [Tab.Env.ev, Tab.Env.get]; rfl)) | (refine Tab.tab_moveE _ rfl (Tab.silent_at (by decide)) (.inr rfl) rfl rfl (fun _ => trivial) ?_; apply Exists.intro; refine And.intro ?_ ?_; focus (simp [Tab.Env.ev, Tab.Env.get]; rfl)) | refine Tab.tab_skip rfl (Tab.silent_at (by decide)) rfl ?_ | (refine Tab.tab_repE rfl (Tab.silent_at (by decide)) rfl (fun _ _ h => by cases h) rfl (fun _ => trivial) ?_; apply Exists.intro; refine And.intro (fun l w' _ _ hw => ?_) ?_; focus (go_simp; rfl)) | (refine Tab.tab_repE rfl (Tab.silent_at (by decide)) rfl (fun _ _ h => by cases h) rfl (fun _ => trivial) ?_; apply Exists.intro; refine And.intro (fun l w' hs hc hw => ?_) ?_; focus (go_simp; rfl)))
      intro l_ a_ w_ hall_ hcl_ _ hsat_
      have hw_ := Tab.stageC_end hcl_ hall_ (by decide)
      simp only [if_true] at hw_
      subst hw_
      refine Tab.fin_of_sat rfl ?_ hsat_
      simp only [Tab.fin, Act.put, List.setIfInBounds_toArray, List.set_cons_succ, List.set_cons_zero]
      go_wp2
      go_roundw
      case rel => exact ⟨3, _, _, _, _, _, _, rfl, rfl, ST.out, rfl⟩
      case measure => simp [intOf]
    · have ST := Lib.hid (plus_step3 ha hb hc hd ha' hb' hc' hd' h0 h1 h2 hy0 hy1 he)
      clear he
      unfold plusW
      have hA := add64 x3 d' y hd.lo hd'.lo (by omega) (by omega)
      go_wp2
      refine Tab.wp_region_tabC (fun _ _ => True) (Tab.stageC 16 fun b_ w_' => w_' = if b_ = true then ((plusW w neg neg x0 x1 x2 ((x3 + d' + y) % 18446744073709551616) a' b' c' d').drewN n).drew else ((plusW w neg neg x0 x1 x2 x3 a' b' c' d').drewN n).drew) (by kernel_rfl) (by kernel_rfl) (fun _ => trivial) (fun _ _ _ _ _ => trivial) (Tab.stageC_start rfl) ?_
      iterate 16 (first | (refine Tab.tab_moveE _ rfl (Tab.silent_at (by decide)) (.inl rfl) rfl rfl (fun _ => trivial) ?_; apply Exists.intro; refine And.intro ?_ ?_; focus (simp [Tab.Env.ev, Tab.Env.get]; rfl)) | (refine Tab.tab_moveE _ rfl (Tab.silent_at (by decide)) (.inr rfl) rfl rfl (fun _ => trivial) ?_; apply Exists.intro; refine And.intro ?_ ?_; focus (simp [Tab.Env.ev, Tab.Env.get]; rfl)) | refine Tab.tab_skip rfl (Tab.silent_at (by decide)) rfl ?_ | (refine Tab.tab_repE rfl (Tab.silent_at (by decide)) rfl (fun _ _ h => by cases h) rfl (fun _ => trivial) ?_; apply Exists.intro; refine And.intro (fun l w' _ _ hw => ?_) ?_; focus (go_simp; rfl)) | (refine Tab.tab_repE rfl (Tab.silent_at (by decide)) rfl (fun _ _ h => by cases h) rfl (fun _ => trivial) ?_; apply Exists.intro; refine And.intro (fun l w' hs hc hw => ?_) ?_; focus (first | (go_simp; rfl) | (have h := Tab.stageC_before hc hs (by kernel_rfl); simp only [Bool.false_eq_true, if_false] at h; subst h; unfold plusW; go_simp; rfl))))
      (refine Tab.tab_act rfl rfl (fun _ _ h => by cases h) rfl (fun l w' hsz hs hc hw => ?_) ?_; focus (have h := Tab.stageC_at hc hs; simp only [Bool.false_eq_true, if_false] at h; subst h; refine ⟨((plusW w neg neg x0 x1 x2 ((x3 + d' + y) % 18446744073709551616) a' b' c' d').drewN n).drew, ?_, trivial, Tab.stageC_done (if_pos rfl).symm (by rw [hsz]; decide)⟩; unfold plusW; go_simp; done))
      iterate 1 (first | (refine Tab.tab_moveE _ rfl (Tab.silent_at (by decide)) (.inl rfl) rfl rfl (fun _ => trivial) ?_; apply Exists.intro; refine And.intro ?_ ?_; focus (simp [Tab.Env.ev, Tab.Env.get]; rfl)) | (refine Tab.tab_moveE _ rfl (Tab.silent_at (by decide)) (.inr rfl) rfl rfl (fun _ => trivial) ?_; apply Exists.intro; refine And.intro ?_ ?_; focus (simp [Tab.Env.ev, Tab.Env.get]; rfl)) | refine Tab.tab_skip rfl (Tab.silent_at (by decide)) rfl ?_ | (refine Tab.tab_repE rfl (Tab.silent_at (by decide)) rfl (fun _ _ h => by cases h) rfl (fun _ => trivial) ?_; apply Exists.intro; refine And.intro (fun l w' _ _ hw => ?_) ?_; focus (go_simp; rfl)) | (refine Tab.tab_repE rfl (Tab.silent_at (by decide)) rfl (fun _ _ h => by cases h) rfl (fun _ => trivial) ?_; apply Exists.intro; refine And.intro (fun l w' hs hc hw => ?_) ?_; focus (go_simp; rfl)))
      intro l_ a_ w_ hall_ hcl_ _ hsat_
      have hw_ := Tab.stageC_end hcl_ hall_ (by decide)
      simp only [if_true] at hw_
      subst hw_
      refine Tab.fin_of_sat rfl ?_ hsat_
      simp only [Tab.fin, Act.put, List.setIfInBounds_toArray, List.set_cons_succ, List.set_cons_zero]
      go_wp2
      go_roundw
      case rel => exact ⟨4, _, _, _, _, _, _, rfl, rfl, ST.out, rfl⟩
      case measure => simp [intOf]
    · have hw := wnum_nonneg h0 h1 h2 h3
      have ey : wnum x0 x1 x2 x3 = wnum a b c d + wnum a' b' c' d' := by omega
      have EY := Lib.hid ey
      clear ey he hm hw
      unfold plusW
      go_wp2_with fail
      refine bodyPost_ret (v := .agg (wcells neg x0 x1 x2 x3)) (by simp [results, Tryz.results210, go_sem, wcells]) rfl ⟨_, rfl, ⟨_, _, _, _, rfl, h0, h1, h2, h3, EY.out⟩, ?_⟩
      exact below_drewN (((below_new _ _).alloc (by simp) _).alloc (by simp; omega) _) _

/-- behind k words of a difference -/
def MinusRel (a b c d a' b' c' d' : Int) (k : Int) (x0 x1 x2 x3 cy : Int) : Prop :=
  (k = 0 ∧ x0 = a ∧ x1 = b ∧ x2 = c ∧ x3 = d ∧ cy = 0) ∨
  (k = 1 ∧ x1 = b ∧ x2 = c ∧ x3 = d ∧ Word x0 ∧ 0 ≤ cy ∧ cy ≤ 1 ∧ x0 = a - a' + 18446744073709551616 * cy) ∨
  (k = 2 ∧ x2 = c ∧ x3 = d ∧ Word x0 ∧ Word x1 ∧ 0 ≤ cy ∧ cy ≤ 1 ∧ x0 + 18446744073709551616 * x1 = a - a' + 18446744073709551616 * (b - b') + 340282366920938463463374607431768211456 * cy) ∨
  (k = 3 ∧ x3 = d ∧ Word x0 ∧ Word x1 ∧ Word x2 ∧ 0 ≤ cy ∧ cy ≤ 1 ∧ x0 + 18446744073709551616 * x1 + 340282366920938463463374607431768211456 * x2 = a - a' + 18446744073709551616 * (b - b') + 340282366920938463463374607431768211456 * (c - c') + 6277101735386680763835789423207666416102355444464034512896 * cy) ∨
  (k = 4 ∧ Word x0 ∧ Word x1 ∧ Word x2 ∧ Word x3 ∧ 0 ≤ cy ∧ cy ≤ 1 ∧ wnum x0 x1 x2 x3 = wnum a b c d - wnum a' b' c' d' + 115792089237316195423570985008687907853269984665640564039457584007913129639936 * cy)
/-- the borrow -/
def bor (x z : Int) : Int := if x < z then 1 else 0
theorem bor_spec (x z : Int) : (bor x z = 1 ∧ x < z) ∨ (bor x z = 0 ∧ z ≤ x) := by
  unfold bor
  by_cases h : x < z
  · rw [if_pos h]; exact .inl ⟨rfl, h⟩
  · rw [if_neg h]; exact .inr ⟨rfl, by omega⟩
theorem minus_step0 {a b c d a' b' c' d' : Int} (ha : Word a) (_ : Word b) (_ : Word c) (_ : Word d) (ha' : Word a') (_ : Word b') (_ : Word c') (_ : Word d') : MinusRel a b c d a' b' c' d' 1 ((a + 18446744073709551616 - a') % 18446744073709551616) b c d (bor a a') := by
  obtain ⟨_, _⟩ := ha; obtain ⟨_, _⟩ := ha'
  rcases bor_spec a a' with ⟨e, h⟩ | ⟨e, h⟩ <;> rw [e] <;> exact .inr (.inl ⟨rfl, rfl, rfl, rfl, ⟨by omega, by omega⟩, by omega, by omega, by omega⟩)
theorem minus_step1 {a b c d a' b' c' d' x0 y : Int} (_ : Word a) (hb : Word b) (_ : Word c) (_ : Word d) (_ : Word a') (hb' : Word b') (_ : Word c') (_ : Word d') (h0 : Word x0) (hy0 : 0 ≤ y) (hy1 : y ≤ 1) (he : x0 = a - a' + 18446744073709551616 * y) :
    MinusRel a b c d a' b' c' d' 2 x0 ((b + 18446744073709551616 - b' - y) % 18446744073709551616) c d (bor b (b' + y)) := by
  obtain ⟨_, _⟩ := hb; obtain ⟨_, _⟩ := hb'
  rcases bor_spec b (b' + y) with ⟨e, h⟩ | ⟨e, h⟩ <;> rw [e] <;> exact .inr (.inr (.inl ⟨rfl, rfl, rfl, h0, ⟨by omega, by omega⟩, by omega, by omega, by omega⟩))
theorem minus_step2 {a b c d a' b' c' d' x0 x1 y : Int} (_ : Word a) (_ : Word b) (hc : Word c) (_ : Word d) (_ : Word a') (_ : Word b') (hc' : Word c') (_ : Word d') (h0 : Word x0) (h1 : Word x1) (hy0 : 0 ≤ y) (hy1 : y ≤ 1) (he : x0 + 18446744073709551616 * x1 = a - a' + 18446744073709551616 * (b - b') + 340282366920938463463374607431768211456 * y) :
    MinusRel a b c d a' b' c' d' 3 x0 x1 ((c + 18446744073709551616 - c' - y) % 18446744073709551616) d (bor c (c' + y)) := by
  obtain ⟨_, _⟩ := hc; obtain ⟨_, _⟩ := hc'
  rcases bor_spec c (c' + y) with ⟨e, h⟩ | ⟨e, h⟩ <;> rw [e] <;> exact .inr (.inr (.inr (.inl ⟨rfl, rfl, h0, h1, ⟨by omega, by omega⟩, by omega, by omega, by omega⟩)))
theorem minus_step3 {a b c d a' b' c' d' x0 x1 x2 y : Int} (_ : Word a) (_ : Word b) (_ : Word c) (hd : Word d) (_ : Word a') (_ : Word b') (_ : Word c') (hd' : Word d') (h0 : Word x0) (h1 : Word x1) (h2 : Word x2) (hy0 : 0 ≤ y) (hy1 : y ≤ 1)
    (he : x0 + 18446744073709551616 * x1 + 340282366920938463463374607431768211456 * x2 = a - a' + 18446744073709551616 * (b - b') + 340282366920938463463374607431768211456 * (c - c') + 6277101735386680763835789423207666416102355444464034512896 * y) :
    MinusRel a b c d a' b' c' d' 4 x0 x1 x2 ((d + 18446744073709551616 - d' - y) % 18446744073709551616) (bor d (d' + y)) := by
  obtain ⟨_, _⟩ := hd; obtain ⟨_, _⟩ := hd'
  rcases bor_spec d (d' + y) with ⟨e, h⟩ | ⟨e, h⟩ <;> rw [e]
  all_goals
    refine .inr (.inr (.inr (.inr ⟨rfl, h0, h1, h2, ⟨by omega, by omega⟩, by omega, by omega, ?_⟩)))
    unfold wnum
    omega
end Go.Proofs.YthejmnmkbldacaaGreatDoor
