/-
  What is proved: what of a value the reference takes for plain: what package value takes for it. Conditions: the tables of unicode/utf8 lie as they are laid.
  What is proved: which values package value takes for sound. Conditions: the tables of unicode/utf8 lie as they are laid.
  What is proved: ranged tells whether all numbers can be those of differences. Conditions: fewer than 2^30 differences.
  What is proved: which rows and which differences package stream takes for sound. Conditions: the tables of unicode/utf8 lie as they are laid.
-/
import Derived.Test.YthejmnmkbldacaaGreatDoorAp13
import Derived.Test.YthejmnmkbldacaaGreatDoorAp14
import Derived.Test.YthejmnmkbldacaaGreatDoorAp10
set_option linter.all false
namespace Go.Proofs.YthejmnmkbldacaaGreatDoor
open Go.RowKit
attribute [local go_sem] Tab.Env.ev Tab.Env.get

set_option maxHeartbeats 4000000 in
set_option maxRecDepth 100000 in
theorem alone_0 (n sc : Int) (s : ByteArray) (A : Option Addr) (len c : Nat) (w : World) :
    Calls Tryz.prog 118 #[.agg #[.int .i64 0, .int .i64 n, .int .i64 sc, .string s, .slice A len c]] w fun e w' => e = .returned (.bool (plain0 n sc s len)) ∧ Below w.heap.size w w' := by
  obtain ⟨r, hr⟩ : ∃ r, plain0 n sc s len = r := ⟨_, rfl⟩
  rw [hr]
  have HP := Lib.hid hr
  clear hr
  unfold plain0 at HP
  cases h0 : sEmpty s <;> cases h1 : ((len : Int) == 0) <;> cases h2 : (n == 0) <;> cases h3 : (sc == 0) <;>
  (
    rw [h0, h1, h2, h3] at HP
    unfold sEmpty at h0
    go_enter Tryz.func118, Tryz.ntmps118
    go_wp2_with fail
    go_ret
    exact ⟨ret_bool (by rw [← HP.out]; rfl), below_new w _⟩
  )

set_option maxHeartbeats 4000000 in
set_option maxRecDepth 100000 in
theorem alone_1 (n sc : Int) (s : ByteArray) (A : Option Addr) (len c : Nat) (w : World) :
    Calls Tryz.prog 118 #[.agg #[.int .i64 1, .int .i64 n, .int .i64 sc, .string s, .slice A len c]] w fun e w' => e = .returned (.bool (plain1 n sc s len)) ∧ Below w.heap.size w w' := by
  obtain ⟨r, hr⟩ : ∃ r, plain1 n sc s len = r := ⟨_, rfl⟩
  rw [hr]
  have HP := Lib.hid hr
  clear hr
  unfold plain1 at HP
  cases h0 : sEmpty s <;> cases h1 : ((len : Int) == 0) <;> cases h2 : decide ((0 : Int) ≤ n ∧ n ≤ 1) <;> cases h3 : (sc == 0) <;>
  (
    rw [h0, h1, h2, h3] at HP
    unfold sEmpty at h0
    go_enter Tryz.func118, Tryz.ntmps118
    go_wp2_with fail
    (try (refine (withinR_any _ _ _ _).mono ?_; rintro e w1 ⟨rfl, rfl⟩; rw [h2]; go_wp2_with fail))
    go_ret
    exact ⟨ret_bool (by rw [← HP.out]; rfl), below_new w _⟩
  )

set_option maxHeartbeats 4000000 in
set_option maxRecDepth 100000 in
theorem alone_2 (n sc : Int) (s : ByteArray) (A : Option Addr) (len c : Nat) (w : World) :
    Calls Tryz.prog 118 #[.agg #[.int .i64 2, .int .i64 n, .int .i64 sc, .string s, .slice A len c]] w fun e w' => e = .returned (.bool (plain2 n sc s len)) ∧ Below w.heap.size w w' := by
  obtain ⟨r, hr⟩ : ∃ r, plain2 n sc s len = r := ⟨_, rfl⟩
  rw [hr]
  have HP := Lib.hid hr
  clear hr
  unfold plain2 at HP
  cases h0 : sEmpty s <;> cases h1 : ((len : Int) == 0) <;> cases h2 : decide ((-999999999999999999 : Int) ≤ n ∧ n ≤ 999999999999999999) <;> cases h3 : (sc == 0) <;>
  (
    rw [h0, h1, h2, h3] at HP
    unfold sEmpty at h0
    go_enter Tryz.func118, Tryz.ntmps118
    go_wp2_with fail
    (try (refine (withinR_any _ _ _ _).mono ?_; rintro e w1 ⟨rfl, rfl⟩; rw [h2]; go_wp2_with fail))
    go_ret
    exact ⟨ret_bool (by rw [← HP.out]; rfl), below_new w _⟩
  )

set_option maxHeartbeats 4000000 in
set_option maxRecDepth 100000 in
theorem alone_3 (n sc : Int) (s : ByteArray) (A : Option Addr) (len c : Nat) (w : World) :
    Calls Tryz.prog 118 #[.agg #[.int .i64 3, .int .i64 n, .int .i64 sc, .string s, .slice A len c]] w fun e w' => e = .returned (.bool (plain3 n sc s len)) ∧ Below w.heap.size w w' := by
  obtain ⟨r, hr⟩ : ∃ r, plain3 n sc s len = r := ⟨_, rfl⟩
  rw [hr]
  have HP := Lib.hid hr
  clear hr
  unfold plain3 at HP
  cases h0 : sEmpty s <;> cases h1 : ((len : Int) == 0) <;> cases h2 : decide ((-999999999999999999 : Int) ≤ n ∧ n ≤ 999999999999999999) <;> cases h3 : decide ((0 : Int) ≤ sc ∧ sc ≤ 12) <;>
  (
    rw [h0, h1, h2, h3] at HP
    unfold sEmpty at h0
    go_enter Tryz.func118, Tryz.ntmps118
    go_wp2_with fail
    (try (refine (withinR_any _ _ _ _).mono ?_; rintro e w1 ⟨rfl, rfl⟩; rw [h2]; go_wp2_with fail))
    (try (refine (withinR_any _ _ _ _).mono ?_; rintro e w1 ⟨rfl, rfl⟩; rw [h3]; go_wp2_with fail))
    go_ret
    exact ⟨ret_bool (by rw [← HP.out]; rfl), below_new w _⟩
  )

set_option maxHeartbeats 4000000 in
set_option maxRecDepth 100000 in
theorem alone_4 (n sc : Int) (s : ByteArray) (A : Option Addr) (len c : Nat) (w : World) (hs : s.size ≤ maxLen) (hT : Tabs w) :
    Calls Tryz.prog 118 #[.agg #[.int .i64 4, .int .i64 n, .int .i64 sc, .string s, .slice A len c]] w fun e w' => e = .returned (.bool (plain4 n sc s len)) ∧ Below w.heap.size w w' := by
  obtain ⟨r, hr⟩ : ∃ r, plain4 n sc s len = r := ⟨_, rfl⟩
  rw [hr]
  have HP := Lib.hid hr
  clear hr
  have HX := Lib.hid (fun W (hW : Below w.heap.size w W) => characters_any s hs W (hT.later hW))
  clear hT hs
  unfold plain4 at HP
  cases h0 : sEmpty s <;> cases h1 : ((len : Int) == 0) <;> cases h2 : (n == 0) <;> cases h3 : (sc == 0) <;> cases h4 : textOk s <;>
  (
    rw [h1, h2, h3, h4] at HP
    unfold sEmpty at h0
    go_enter Tryz.func118, Tryz.ntmps118
    go_wp2_with fail
    (try (refine (HX.out _ (below_new w _)).mono ?_; rintro e w1 ⟨rfl, hb⟩; rw [h4]; have hbb := Lib.hid ((below_new w (.cells #[.int .i64 4, .int .i64 n, .int .i64 sc, .string s, .slice A len c] 33)).trans (hb.mono (by simp))); clear hb; go_wp2_with fail))
    go_ret
    exact ⟨ret_bool (by rw [← HP.out]; rfl), by first | exact below_new w _ | exact hbb.out⟩
  )

set_option maxHeartbeats 4000000 in
set_option maxRecDepth 100000 in
theorem alone_5 (n sc : Int) (s : ByteArray) (A : Option Addr) (len c : Nat) (w : World) :
    Calls Tryz.prog 118 #[.agg #[.int .i64 5, .int .i64 n, .int .i64 sc, .string s, .slice A len c]] w fun e w' => e = .returned (.bool (plain5 n sc s len)) ∧ Below w.heap.size w w' := by
  obtain ⟨r, hr⟩ : ∃ r, plain5 n sc s len = r := ⟨_, rfl⟩
  rw [hr]
  have HP := Lib.hid hr
  clear hr
  unfold plain5 at HP
  cases h0 : sEmpty s <;> cases h1 : ((len : Int) == 0) <;> cases h2 : decide ((-62135596800 : Int) ≤ n ∧ n ≤ 253402300799) <;> cases h3 : (sc == 0) <;>
  (
    rw [h0, h1, h2, h3] at HP
    unfold sEmpty at h0
    go_enter Tryz.func118, Tryz.ntmps118
    go_wp2_with fail
    (try (refine (withinR_any _ _ _ _).mono ?_; rintro e w1 ⟨rfl, rfl⟩; rw [h2]; go_wp2_with fail))
    go_ret
    exact ⟨ret_bool (by rw [← HP.out]; rfl), below_new w _⟩
  )

set_option maxHeartbeats 4000000 in
set_option maxRecDepth 100000 in
theorem alone_6 (n sc : Int) (s : ByteArray) (A : Option Addr) (len c : Nat) (w : World) :
    Calls Tryz.prog 118 #[.agg #[.int .i64 6, .int .i64 n, .int .i64 sc, .string s, .slice A len c]] w fun e w' => e = .returned (.bool (plain6 n sc s len)) ∧ Below w.heap.size w w' := by
  obtain ⟨r, hr⟩ : ∃ r, plain6 n sc s len = r := ⟨_, rfl⟩
  rw [hr]
  have HP := Lib.hid hr
  clear hr
  unfold plain6 at HP
  cases h0 : sEmpty s <;> cases h1 : ((len : Int) == 0) <;> cases h2 : (n == 0) <;> cases h3 : (sc == 0) <;> cases h4 : decide ((len : Int) ≤ 64) <;>
  (
    rw [h0, h2, h3, h4] at HP
    unfold sEmpty at h0
    go_enter Tryz.func118, Tryz.ntmps118
    go_wp2_with fail
    go_ret
    exact ⟨ret_bool (by rw [← HP.out]; rfl), below_new w _⟩
  )

set_option maxHeartbeats 4000000 in
set_option maxRecDepth 100000 in
theorem alone_7 (n sc : Int) (s : ByteArray) (A : Option Addr) (len c : Nat) (w : World) :
    Calls Tryz.prog 118 #[.agg #[.int .i64 7, .int .i64 n, .int .i64 sc, .string s, .slice A len c]] w fun e w' => e = .returned (.bool (plain7 n sc s len)) ∧ Below w.heap.size w w' := by
  obtain ⟨r, hr⟩ : ∃ r, plain7 n sc s len = r := ⟨_, rfl⟩
  rw [hr]
  have HP := Lib.hid hr
  clear hr
  unfold plain7 at HP
  cases h0 : sEmpty s <;> cases h1 : ((len : Int) == 0) <;> cases h2 : (n == 0) <;> cases h3 : (sc == 0) <;> cases h4 : decide (0 < len) <;>
  (
    rw [h0, h2, h3, h4] at HP
    unfold sEmpty at h0
    have h4' : decide ((0 : Int) < len) = decide (0 < len) := by simp
    rw [h4] at h4'
    go_enter Tryz.func118, Tryz.ntmps118
    go_wp2_with fail
    go_ret
    exact ⟨ret_bool (by rw [← HP.out]; rfl), below_new w _⟩
  )

set_option maxHeartbeats 1000000 in
theorem alone_none (k n sc : Int) (s : ByteArray) (A : Option Addr) (len c : Nat) (w : World) (h0 : (k == 0) = false) (h1 : (k == 1) = false) (h2 : (k == 2) = false) (h3 : (k == 3) = false) (h4 : (k == 4) = false) (h5 : (k == 5) = false) (h6 : (k == 6) = false) (h7 : (k == 7) = false) :
    Calls Tryz.prog 118 #[.agg #[.int .i64 k, .int .i64 n, .int .i64 sc, .string s, .slice A len c]] w fun e w' => e = .returned (.bool false) ∧ Below w.heap.size w w' := by
  cases g0 : sEmpty s <;> cases g1 : ((len : Int) == 0) <;>
  (
    unfold sEmpty at g0
    go_enter Tryz.func118, Tryz.ntmps118
    go_wp2_with fail
    go_ret
    exact ⟨rfl, below_new w _⟩
  )
theorem alone_any (k n sc : Int) (s : ByteArray) (A : Option Addr) (len c : Nat) (w : World) (hs : s.size ≤ maxLen) (hT : Tabs w) :
    Calls Tryz.prog 118 #[.agg #[.int .i64 k, .int .i64 n, .int .i64 sc, .string s, .slice A len c]] w fun e w' => e = .returned (.bool (plainF k n sc s len)) ∧ Below w.heap.size w w' := by
  by_cases h0 : k = 0
  · subst h0
    exact alone_0 n sc s A len c w
  by_cases h1 : k = 1
  · subst h1
    exact alone_1 n sc s A len c w
  by_cases h2 : k = 2
  · subst h2
    exact alone_2 n sc s A len c w
  by_cases h3 : k = 3
  · subst h3
    exact alone_3 n sc s A len c w
  by_cases h4 : k = 4
  · subst h4
    exact alone_4 n sc s A len c w hs hT
  by_cases h5 : k = 5
  · subst h5
    exact alone_5 n sc s A len c w
  by_cases h6 : k = 6
  · subst h6
    exact alone_6 n sc s A len c w
  by_cases h7 : k = 7
  · subst h7
    exact alone_7 n sc s A len c w
  have e : plainF k n sc s len = false := by unfold plainF; simp [h0, h1, h2, h3, h4, h5, h6, h7]
  rw [e]
  exact alone_none k n sc s A len c w (by simp [h0]) (by simp [h1]) (by simp [h2]) (by simp [h3]) (by simp [h4]) (by simp [h5]) (by simp [h6]) (by simp [h7])
end Go.Proofs.YthejmnmkbldacaaGreatDoor

namespace Go.Proofs.YthejmnmkbldacaaGreatDoor
open Go.RowKit
attribute [local go_sem] Tab.Env.ev Tab.Env.get

mutual
/-- a value at a level is sound, so many cells having been counted; and how many are counted behind it -/
def soundV : Int → Int → VD → Bool × Int
  | lev, c, .mk k n sc s l =>
    if 4 < lev ∨ 256 < (if k = 0 then c else c + 1) ∨ plainF k n sc s l.length = false then (false, if k = 0 then c else c + 1) else soundL (lev + 1) (if k = 0 then c else c + 1) l
def soundL : Int → Int → List VD → Bool × Int
  | _, c, [] => (true, c)
  | lev, c, x :: r => if (soundV lev c x).1 = true then soundL lev (soundV lev c x).2 r else (false, (soundV lev c x).2)
end
theorem soundV_eq (lev c : Int) (x : VD) : soundV lev c x = if 4 < lev ∨ 256 < (if x.k = 0 then c else c + 1) ∨ plainF x.k x.n x.sc x.s x.items.length = false then (false, if x.k = 0 then c else c + 1) else soundL (lev + 1) (if x.k = 0 then c else c + 1) x.items := by
  cases x
  rw [soundV]
  rfl
mutual
theorem soundV_bound : ∀ (x : VD) (lev c : Int), 0 ≤ c → (soundV lev c x).1 = true → 0 ≤ (soundV lev c x).2 ∧ (soundV lev c x).2 ≤ 256
  | .mk k n sc s l, lev, c, h0, h => by
    have hc : 0 ≤ (if k = 0 then c else c + 1) := by split <;> omega
    rw [soundV] at h ⊢
    by_cases hx : 4 < lev ∨ 256 < (if k = 0 then c else c + 1) ∨ plainF k n sc s l.length = false
    · rw [if_pos hx] at h
      cases h
    · rw [if_neg hx] at h ⊢
      exact soundL_bound l _ _ hc (by omega) h
theorem soundL_bound : ∀ (l : List VD) (lev c : Int), 0 ≤ c → c ≤ 256 → (soundL lev c l).1 = true → 0 ≤ (soundL lev c l).2 ∧ (soundL lev c l).2 ≤ 256
  | [], _, _, h0, h1, _ => ⟨h0, h1⟩
  | x :: r, lev, c, h0, h1, h => by
    rw [soundL] at h ⊢
    by_cases hx : (soundV lev c x).1 = true
    · rw [if_pos hx] at h ⊢
      have := soundV_bound x lev c h0 hx
      exact soundL_bound r lev _ this.1 this.2 h
    · rw [if_neg hx] at h
      cases h
end
/-- how many cells are counted behind i items -/
def stC (lev c : Int) (l : List VD) : Nat → Int
  | 0 => c
  | i + 1 => (soundV lev (stC lev c l i) (at_ l i)).2
theorem soundL_drop (lev c : Int) (l : List VD) : ∀ i, i ≤ l.length → (∀ j, j < i → (soundV lev (stC lev c l j) (at_ l j)).1 = true) → soundL lev c l = soundL lev (stC lev c l i) (l.drop i)
  | 0, _, _ => by simp [stC]
  | i + 1, hi, h => by
    rw [soundL_drop lev c l i (by omega) (fun j hj => h j (by omega)), at_drop (by omega), soundL, if_pos (h i (by omega))]
    rfl
theorem soundL_all (lev c : Int) (l : List VD) (h : ∀ j, j < l.length → (soundV lev (stC lev c l j) (at_ l j)).1 = true) : soundL lev c l = (true, stC lev c l l.length) := by
  rw [soundL_drop lev c l l.length (Nat.le_refl _) h, List.drop_length, soundL]
theorem soundL_first (lev c : Int) (l : List VD) (i : Nat) (hi : i < l.length) (h : ∀ j, j < i → (soundV lev (stC lev c l j) (at_ l j)).1 = true) (hf : (soundV lev (stC lev c l i) (at_ l i)).1 = false) : soundL lev c l = (false, (soundV lev (stC lev c l i) (at_ l i)).2) := by
  rw [soundL_drop lev c l i (by omega) h, at_drop hi, soundL, if_neg (by rw [hf]; simp)]

/-- sound's contract at a value -/
def SoundAt (x : VD) : Prop := ∀ (F : Nat → Prop) (va : Value) (w : World) (lev c : Int) (pb : Nat), VAgg w F va x → Tabs w → Blk w pb 3 [.int .i64 c] → (∀ b, F b → b ≠ pb) → 1 ≤ lev → lev ≤ 5 → 0 ≤ c → c ≤ 256 →
  Calls Tryz.prog 157 #[va, .int .i64 lev, .pointer (some ⟨pb, 0, none⟩)] w fun e w' => e = .returned (.bool (soundV lev c x).1) ∧ Blk w' pb 3 [.int .i64 (soundV lev c x).2] ∧ Tab.Ext (fun b => b = pb) w w'

set_option maxHeartbeats 1000000 in
theorem sound1_any (x : VD) (H : SoundAt x) (F : Nat → Prop) (va : Value) (w : World) (lev c : Int) (pb bl bp : Nat) (hv : VAgg w F va x) (hT : Tabs w) (hb : Blk w pb 3 [.int .i64 c]) (hF : ∀ b, F b → b ≠ pb)
    (hl : Blk w bl 3 [.int .i64 lev]) (hp : Blk w bp 96 [.pointer (some ⟨pb, 0, none⟩)]) (h1 : 0 ≤ lev) (h2 : lev ≤ 4) (h3 : 0 ≤ c) (h4 : c ≤ 256) :
    Calls Tryz.prog 193 #[va, .pointer (some ⟨bl, 0, none⟩), .pointer (some ⟨bp, 0, none⟩)] w fun e w' => e = .returned (.bool (!(soundV (lev + 1) c x).1)) ∧ Blk w' pb 3 [.int .i64 (soundV (lev + 1) c x).2] ∧ Tab.Ext (fun b => b = pb) w w' := by
  obtain ⟨A, cc, rfl, hok, hr⟩ := hv
  have HC := Lib.hid (fun (W : World) (hW : Below w.heap.size w W) => H F (.agg #[.int .i64 x.k, .int .i64 x.n, .int .i64 x.sc, .string x.s, .slice A x.items.length cc]) W (lev + 1) c pb ⟨A, cc, rfl, hok, hr.later hW⟩ (hT.later hW) (hb.below hW hb.lt) hF (by omega) (by omega) h3 h4)
  have q1 := hl.cell 0
  have q2 := hp.cell 0
  simp only [List.getElem?_cons_zero] at q1 q2
  have z1 := hl.lt
  have z2 := hp.lt
  have hbn := Lib.hid (below_new w (.cells #[.int .i64 x.k, .int .i64 x.n, .int .i64 x.sc, .string x.s, .slice A x.items.length cc] 33))
  clear hok hr H hT hb hF hl hp
  go_enter Tryz.func193, Tryz.ntmps193
  go_wp2_with fail
  refine (HC.out _ hbn.out).mono ?_
  rintro e w1 ⟨rfl, o1, o2⟩
  have O := Lib.hid (And.intro o1 ((Tab.Ext.of_below (M := fun b => b = pb) hbn.out).trans o2))
  clear o1 o2 HC hbn
  go_wp2_with fail
  go_ret
  exact ⟨rfl, O.out⟩
theorem cfSound1 : ∀ (args : Array Value) (w : World), (callFunc 193 args).run Tryz.prog w = .ok (.enter 193 args) w := fun _ _ => by simp [go_sem]

/-- where sound stands behind its count -/
structure SW (w W : World) (x : VD) (A : Option Addr) (cc : Nat) (lev c : Int) (pb : Nat) : Prop where
  b0 : Blk W w.heap.size 33 [.int .i64 x.k, .int .i64 x.n, .int .i64 x.sc, .string x.s, .slice A x.items.length cc]
  b1 : Blk W (w.heap.size + 1) 3 [.int .i64 lev]
  b2 : Blk W (w.heap.size + 2) 96 [.pointer (some ⟨pb, 0, none⟩)]
  b3 : Blk W pb 3 [.int .i64 c]
  ext : Tab.Ext (fun b => b = pb) w W
  pl : pb < w.heap.size
theorem SW.ext_ {w W W' : World} {x : VD} {A : Option Addr} {cc : Nat} {lev c c' : Int} {pb : Nat} (h : SW w W x A cc lev c pb) (he : Tab.Ext (fun b => b = pb) W W') (h3 : Blk W' pb 3 [.int .i64 c']) : SW w W' x A cc lev c' pb :=
  have := h.pl
  ⟨h.b0.ext he (by omega), h.b1.ext he (by omega), h.b2.ext he (by omega), h3, h.ext.trans he, h.pl⟩

theorem sw_start {w : World} {x : VD} {A : Option Addr} {cc : Nat} {lev c : Int} {pb : Nat} (hb : Blk w pb 3 [.int .i64 c]) :
    SW w (((w.alloc (.cells #[.int .i64 x.k, .int .i64 x.n, .int .i64 x.sc, .string x.s, .slice A x.items.length cc] 33)).alloc (.cells #[.int .i64 lev] 3)).alloc (.cells #[.pointer (some ⟨pb, 0, none⟩)] 96)) x A cc lev c pb where
  b0 := ((Blk.new w _ _).alloc _).alloc _
  b1 := by
    have h := (Blk.new (w.alloc (.cells #[.int .i64 x.k, .int .i64 x.n, .int .i64 x.sc, .string x.s, .slice A x.items.length cc] 33)) 3 [.int .i64 lev]).alloc (.cells #[.pointer (some ⟨pb, 0, none⟩)] 96)
    simpa using h
  b2 := by
    have h := Blk.new ((w.alloc (.cells #[.int .i64 x.k, .int .i64 x.n, .int .i64 x.sc, .string x.s, .slice A x.items.length cc] 33)).alloc (.cells #[.int .i64 lev] 3)) 96 [.pointer (some ⟨pb, 0, none⟩)]
    simpa using h
  b3 := ((hb.alloc _).alloc _).alloc _
  ext := (((Tab.Ext.refl _ w).alloc _).alloc _).alloc _
  pl := hb.lt

/-- the items, one by one -/
theorem sound_items (x : VD) (H : ∀ y, y ∈ x.items → SoundAt y) (F : Nat → Prop) (A : Option Addr) (cc : Nat) (w W : World) (lev c : Int) (pb : Nat) (sw : SW w W x A cc lev c pb) (hr : RI w F (.slice A x.items.length cc) x.items) (hT : Tabs W) (hF : ∀ b, F b → b ≠ pb) (l1 : 0 ≤ lev) (l2 : lev ≤ 4) (c1 : 0 ≤ c) (c2 : c ≤ 256) :
    Calls Tryz.prog 120 #[.slice A x.items.length cc, .func (.func 193) #[] #[.pointer (some ⟨w.heap.size + 1, 0, none⟩), .pointer (some ⟨w.heap.size + 2, 0, none⟩)]] W fun e w' => e = .returned (.bool (!(soundL (lev + 1) c x.items).1)) ∧ Blk w' pb 3 [.int .i64 (soundL (lev + 1) c x.items).2] ∧ Tab.Ext (fun b => b = pb) w w' := by
  have hne := hT.ne_int sw.b3
  refine (containsV2_any 193 (.pointer (some ⟨w.heap.size + 1, 0, none⟩)) (.pointer (some ⟨w.heap.size + 2, 0, none⟩)) cfSound1 F (.slice A x.items.length cc) x.items (fun i => !(soundV (lev + 1) (stC (lev + 1) c x.items i) (at_ x.items i)).1)
    (fun i w1 => Tab.Ext (fun b => b = pb) W w1 ∧ Blk w1 pb 3 [.int .i64 (stC (lev + 1) c x.items i)] ∧ 0 ≤ stC (lev + 1) c x.items i ∧ stC (lev + 1) c x.items i ≤ 256)
    (fun i w1 => Tab.Ext (fun b => b = pb) W w1 ∧ Blk w1 pb 3 [.int .i64 (soundV (lev + 1) (stC (lev + 1) c x.items i) (at_ x.items i)).2]) W ⟨Tab.Ext.refl _ _, sw.b3, c1, c2⟩
    (fun i w1 h => (hr.ext sw.ext (fun b hb => hF b hb)).ext h.1 (fun b hb => hF b hb)) (fun i w1 hi h va hva => ?_)).mono ?_
  · have sw1 := sw.ext_ h.1 h.2.1
    refine (sound1_any (at_ x.items i) (H _ (at_mem hi)) F va w1 lev (stC (lev + 1) c x.items i) pb (w.heap.size + 1) (w.heap.size + 2) hva (hT.ext h.1 (fun e => hne.1 e.symm) (fun e => hne.2 e.symm)) h.2.1 hF sw1.b1 sw1.b2 l1 l2 h.2.2.1 h.2.2.2).mono ?_
    rintro e w2 ⟨rfl, o1, o2⟩
    refine ⟨rfl, fun _ => ⟨h.1.trans o2, o1⟩, fun hp => ⟨h.1.trans o2, o1, ?_⟩⟩
    have hb := soundV_bound (at_ x.items i) (lev + 1) (stC (lev + 1) c x.items i) h.2.2.1 (by simpa using hp)
    exact hb
  · rintro e w1 (⟨rfl, o1, o2⟩ | ⟨i, hi, rfl, o1, o2, o3⟩)
    · have hs := soundL_all (lev + 1) c x.items (fun j hj => by simpa using o1 j hj)
      rw [hs]
      exact ⟨rfl, o2.2.1, sw.ext.trans o2.1⟩
    · have hs := soundL_first (lev + 1) c x.items i hi (fun j hj => by simpa using o2 j hj) (by simpa using o1)
      rw [hs]
      exact ⟨rfl, o3.2, sw.ext.trans o3.1⟩

/-- what sound leaves, of the pair that it answers -/
def SoundPost (w : World) (pb : Nat) (r : Bool × Int) (e : Ending) (w' : World) : Prop := e = .returned (.bool r.1) ∧ Blk w' pb 3 [.int .i64 r.2] ∧ Tab.Ext (fun b => b = pb) w w'

set_option maxHeartbeats 4000000 in
theorem sound_step (x : VD) (H : ∀ y, y ∈ x.items → SoundAt y) : SoundAt x := by
  intro F va w lev c pb hv hT hb hF l1 l2 c1 c2
  obtain ⟨A, cc, rfl, hok, hr⟩ := hv
  show Calls _ _ _ w (SoundPost w pb (soundV lev c x))
  have SW3 := Lib.hid (sw_start (x := x) (A := A) (cc := cc) (lev := lev) hb)
  have HH := Lib.hid H
  have HR := Lib.hid hr
  have HT := Lib.hid hT
  have HF := Lib.hid hF
  have HOK := Lib.hid hok
  have hpl := hb.lt
  have q0 := SW3.out.b3.cell 0
  have f0 := SW3.out.b3.frozen 0
  simp only [List.getElem?_cons_zero] at q0
  have hbI := Lib.hid hb
  clear H hr hT hF hok hb
  by_cases hk : x.k = 0
  · have ek : (x.k != 0) = false := by simp [hk]
    have HEQ := Lib.hid (show soundV lev c x = if 4 < lev ∨ 256 < c ∨ plainF x.k x.n x.sc x.s x.items.length = false then (false, c) else soundL (lev + 1) c x.items by rw [soundV_eq]; simp only [if_pos hk])
    have SW4 := Lib.hid (show SW w (((w.alloc (.cells #[.int .i64 x.k, .int .i64 x.n, .int .i64 x.sc, .string x.s, .slice A x.items.length cc] 33)).alloc (.cells #[.int .i64 lev] 3)).alloc (.cells #[.pointer (some ⟨pb, 0, none⟩)] 96)) x A cc lev c pb from SW3.out)
    have q4 := SW4.out.b3.cell 0
    simp only [List.getElem?_cons_zero] at q4
    clear hk SW3
    by_cases h1 : 4 < lev
    · have HRES := Lib.hid (show soundV lev c x = (false, c) by rw [HEQ.out, if_pos (.inl h1)])
      rw [HRES.out]
      clear HEQ HRES
      have hd : decide ((4 : Int) < lev) = true := by simp [h1]
      clear h1 l2
      go_enter Tryz.func157, Tryz.ntmps157
      go_wp2_with fail
      go_ret
      exact ⟨rfl, SW4.out.b3, SW4.out.ext⟩
    · have hd : decide ((4 : Int) < lev) = false := by simp; omega
      by_cases h2 : 256 < c
      · exact absurd h2 (by omega)
      · have hd2 : decide ((256 : Int) < c) = false := by simp; omega
        have hne : ¬ ((((w.alloc (.cells #[.int .i64 x.k, .int .i64 x.n, .int .i64 x.sc, .string x.s, .slice A x.items.length cc] 33)).alloc (.cells #[.int .i64 lev] 3)).alloc (.cells #[.pointer (some ⟨pb, 0, none⟩)] 96)).heap.size ≤ pb) := by simp; omega
        have HP := Lib.hid (fun W (hW : SW w W x A cc lev c pb) (hTW : Tabs W) => plain_any x.k x.n x.sc x.s A x.items.length cc W HOK.out.s hTW)
        have HT4 := Lib.hid (HT.out.ext SW4.out.ext (fun e => (HT.out.ne_int (hbI.out)).1 e.symm) (fun e => (HT.out.ne_int (hbI.out)).2 e.symm))
        clear hne
        go_enter Tryz.func157, Tryz.ntmps157
        go_wp2_with fail
        refine (HP.out _ SW4.out HT4.out).mono ?_
        rintro e w5 ⟨rfl, hb5⟩
        have SW5 := SW4.out.ext_ (Tab.Ext.of_below hb5) (SW4.out.b3.below hb5 SW4.out.b3.lt)
        have HT5 := Lib.hid (HT4.out.later hb5)
        clear HP SW4 HT4 hb5
        cases hpl2 : plainF x.k x.n x.sc x.s x.items.length with
        | false =>
          have HRES := Lib.hid (show soundV lev c x = (false, c) by rw [HEQ.out, if_pos (.inr (.inr hpl2))])
          clear HEQ hpl2
          have SW5 := Lib.hid SW5
          go_wp2_with fail
          go_ret
          rw [HRES.out]
          exact ⟨rfl, SW5.out.b3, SW5.out.ext⟩
        | true =>
          have HRES := Lib.hid (show soundV lev c x = soundL (lev + 1) c x.items by rw [HEQ.out, if_neg (by rw [hpl2]; simp; omega)])
          clear HEQ hpl2
          have q := wcell5 SW5.b0
          have r0 := SW5.b1.cell 0
          have r1 := SW5.b2.cell 0
          simp only [List.getElem?_cons_zero] at r0 r1
          have HCN := Lib.hid (sound_items x HH.out F A cc w w5 lev c pb SW5 HR.out HT5.out HF.out (by omega) (by omega) (by omega) (by omega))
          have SW5 := Lib.hid SW5
          go_wp2_with fail
          refine HCN.out.mono ?_
          rintro e w6 ⟨rfl, o2, o3⟩
          have O := Lib.hid (And.intro o2 o3)
          clear o2 o3 HCN
          go_wp2_with fail
          go_ret
          rw [HRES.out]
          exact ⟨by simp, O.out⟩
  · have ek : (x.k != 0) = true := by simp [hk]
    have HEQ := Lib.hid (show soundV lev c x = if 4 < lev ∨ 256 < (c + 1) ∨ plainF x.k x.n x.sc x.s x.items.length = false then (false, (c + 1)) else soundL (lev + 1) (c + 1) x.items by rw [soundV_eq]; simp only [if_neg hk])
    have SW4 := Lib.hid (show SW w ((((w.alloc (.cells #[.int .i64 x.k, .int .i64 x.n, .int .i64 x.sc, .string x.s, .slice A x.items.length cc] 33)).alloc (.cells #[.int .i64 lev] 3)).alloc (.cells #[.pointer (some ⟨pb, 0, none⟩)] 96)).setCell ⟨pb, 0, none⟩ (.int .i64 (c + 1))) x A cc lev (c + 1) pb from SW3.out.ext_ ((Tab.Ext.refl (fun b => b = pb) _).setCell (p := ⟨pb, 0, none⟩) (.inl rfl) _) (SW3.out.b3.set_ 0 _))
    have q4 := SW4.out.b3.cell 0
    simp only [List.getElem?_cons_zero] at q4
    clear hk SW3
    by_cases h1 : 4 < lev
    · have HRES := Lib.hid (show soundV lev c x = (false, (c + 1)) by rw [HEQ.out, if_pos (.inl h1)])
      rw [HRES.out]
      clear HEQ HRES
      have hd : decide ((4 : Int) < lev) = true := by simp [h1]
      clear h1 l2
      go_enter Tryz.func157, Tryz.ntmps157
      go_wp2_with fail
      go_ret
      exact ⟨rfl, SW4.out.b3, SW4.out.ext⟩
    · have hd : decide ((4 : Int) < lev) = false := by simp; omega
      by_cases h2 : 256 < (c + 1)
      · have HRES := Lib.hid (show soundV lev c x = (false, (c + 1)) by rw [HEQ.out, if_pos (.inr (.inl h2))])
        rw [HRES.out]
        clear HEQ HRES
        have hd2 : decide ((256 : Int) < (c + 1)) = true := by simp; omega
        clear h1
        go_enter Tryz.func157, Tryz.ntmps157
        go_wp2_with fail
        go_ret
        exact ⟨rfl, SW4.out.b3, SW4.out.ext⟩
      · have hd2 : decide ((256 : Int) < (c + 1)) = false := by simp; omega
        have hne : ¬ (((((w.alloc (.cells #[.int .i64 x.k, .int .i64 x.n, .int .i64 x.sc, .string x.s, .slice A x.items.length cc] 33)).alloc (.cells #[.int .i64 lev] 3)).alloc (.cells #[.pointer (some ⟨pb, 0, none⟩)] 96)).setCell ⟨pb, 0, none⟩ (.int .i64 (c + 1))).heap.size ≤ pb) := by simp; omega
        have HP := Lib.hid (fun W (hW : SW w W x A cc lev (c + 1) pb) (hTW : Tabs W) => plain_any x.k x.n x.sc x.s A x.items.length cc W HOK.out.s hTW)
        have HT4 := Lib.hid (HT.out.ext SW4.out.ext (fun e => (HT.out.ne_int (hbI.out)).1 e.symm) (fun e => (HT.out.ne_int (hbI.out)).2 e.symm))
        clear hne
        go_enter Tryz.func157, Tryz.ntmps157
        go_wp2_with fail
        refine (HP.out _ SW4.out HT4.out).mono ?_
        rintro e w5 ⟨rfl, hb5⟩
        have SW5 := SW4.out.ext_ (Tab.Ext.of_below hb5) (SW4.out.b3.below hb5 SW4.out.b3.lt)
        have HT5 := Lib.hid (HT4.out.later hb5)
        clear HP SW4 HT4 hb5
        cases hpl2 : plainF x.k x.n x.sc x.s x.items.length with
        | false =>
          have HRES := Lib.hid (show soundV lev c x = (false, (c + 1)) by rw [HEQ.out, if_pos (.inr (.inr hpl2))])
          clear HEQ hpl2
          have SW5 := Lib.hid SW5
          go_wp2_with fail
          go_ret
          rw [HRES.out]
          exact ⟨rfl, SW5.out.b3, SW5.out.ext⟩
        | true =>
          have HRES := Lib.hid (show soundV lev c x = soundL (lev + 1) (c + 1) x.items by rw [HEQ.out, if_neg (by rw [hpl2]; simp; omega)])
          clear HEQ hpl2
          have q := wcell5 SW5.b0
          have r0 := SW5.b1.cell 0
          have r1 := SW5.b2.cell 0
          simp only [List.getElem?_cons_zero] at r0 r1
          have HCN := Lib.hid (sound_items x HH.out F A cc w w5 lev (c + 1) pb SW5 HR.out HT5.out HF.out (by omega) (by omega) (by omega) (by omega))
          have SW5 := Lib.hid SW5
          go_wp2_with fail
          refine HCN.out.mono ?_
          rintro e w6 ⟨rfl, o2, o3⟩
          have O := Lib.hid (And.intro o2 o3)
          clear o2 o3 HCN
          go_wp2_with fail
          go_ret
          rw [HRES.out]
          exact ⟨by simp, O.out⟩

theorem soundAt (x : VD) : SoundAt x := sound_step x fun y _ => soundAt y
termination_by SizeOf.sizeOf x
decreasing_by
  rename_i hy
  have := List.sizeOf_lt_of_mem hy
  cases x
  simp only [VD.items] at this
  simp
  omega
end Go.Proofs.YthejmnmkbldacaaGreatDoor

namespace Go.Proofs.YthejmnmkbldacaaGreatDoor
open Go.RowKit
attribute [local go_sem] Tab.Env.ev Tab.Env.get

set_option maxHeartbeats 400000 in
theorem withinS_any (n low high : Int) (w : World) : Calls Tryz.prog 69 #[.int .i64 n, .int .i64 low, .int .i64 high] w fun e w' => e = .returned (.bool (decide (low ≤ n ∧ n ≤ high))) ∧ w = w' := by
  by_cases h : low ≤ n
  · by_cases h2 : n ≤ high
    · rw [decide_eq_true (And.intro h h2)]
      go_enter Tryz.func69, Tryz.ntmps69
      go_wp2
      go_ret
      exact ⟨rfl, rfl⟩
    · rw [decide_eq_false (fun h' => h2 h'.2)]
      have h3 : high < n := by omega
      clear h2
      go_enter Tryz.func69, Tryz.ntmps69
      go_wp2
      go_ret
      exact ⟨ret_bool (decide_eq_false (by omega)), rfl⟩
  · rw [decide_eq_false (fun h' => h h'.1)]
    have h3 : n < low := by omega
    clear h
    go_enter Tryz.func69, Tryz.ntmps69
    go_wp2
    go_ret
    exact ⟨rfl, rfl⟩
/-- a number that a difference can have -/
def timesB (n : Int) : Bool := decide (-1099511627776 ≤ n ∧ n ≤ 1099511627776)
set_option maxHeartbeats 400000 in
theorem timesOf_any (n : Int) (w : World) : Calls Tryz.prog 79 #[.int .i64 n] w fun e w' => e = .returned (.bool (timesB n)) ∧ w = w' := by
  go_enter Tryz.func79, Tryz.ntmps79
  go_wp2_with fail
  refine (withinS_any _ _ _ _).mono ?_
  rintro e w1 ⟨rfl, rfl⟩
  have hb : decide ((-1099511627776 : Int) ≤ n ∧ n ≤ 1099511627776) = timesB n := rfl
  rw [hb]
  clear hb
  go_wp2_with fail
  go_ret
  exact ⟨rfl, rfl⟩
set_option maxHeartbeats 400000 in
theorem ranged1_any (F : Nat → Prop) (d : DE) (w : World) (h : d.good w F) :
    Calls Tryz.prog 134 #[d.val] w fun e w' => e = .returned (.bool (!timesB d.n)) ∧ Below w.heap.size w w' := by
  unfold DE.val
  obtain ⟨A1, c1, _, _, e1, _⟩ := h.row.shape
  rw [e1]
  clear e1 h
  go_enter Tryz.func134, Tryz.ntmps134
  go_wp2_with fail
  refine (timesOf_any _ _).mono ?_
  rintro e w1 ⟨rfl, rfl⟩
  go_wp2_with fail
  go_ret
  exact ⟨rfl, below_new w _⟩

/-- a test of all differences by ContainsFunc -/
theorem allD_any (f : FuncId) (hcf : ∀ (args : Array Value) (w : World), (callFunc f args).run Tryz.prog w = .ok (.enter f args) w) (q : DE → Bool) (F F' : Nat → Prop) (v : Value) (l : List DE) (w : World) (h : RD w F F' v l) (hn : l.length < 1073741824)
    (hf : ∀ (d : DE) (w1 : World), d ∈ l → d.good w1 F' → Below w.heap.size w w1 → Calls Tryz.prog f #[d.val] w1 fun e w' => e = .returned (.bool (!q d)) ∧ Below w1.heap.size w1 w') :
    Calls Tryz.prog 109 #[v, .func (.func f) #[] #[]] w fun e w' => e = .returned (.bool (!l.all q)) ∧ Below w.heap.size w w' := by
  refine (containsD_any f hcf F F' v l hn (fun i => !q (dat l i)) (fun _ w1 => Below w.heap.size w w1) (fun _ w1 => Below w.heap.size w w1) w (Below.refl _ _) (fun _ w1 hb => h.later hb) (fun i w1 hi hb => ?_)).mono ?_
  · refine (hf (dat l i) w1 (dat_mem hi) ((h.later hb).good _ (dat_mem hi)) hb).mono ?_
    rintro e w2 ⟨rfl, hb2⟩
    exact ⟨rfl, fun _ => hb.trans (hb2.mono hb.size), fun _ => hb.trans (hb2.mono hb.size)⟩
  · rintro e w1 (⟨rfl, o1, o2⟩ | ⟨i, hi, rfl, o1, o2, o3⟩)
    · refine ⟨ret_bool ?_, o2⟩
      have : l.all q = true := List.all_eq_true.2 fun d hd => by
        obtain ⟨j, hj, rfl⟩ := List.mem_iff_getElem.1 hd
        have := o1 j hj
        simp only [dat_eq hj] at this
        simpa using this
      rw [this]; rfl
    · refine ⟨ret_bool ?_, o3⟩
      have : l.all q = false := by
        rw [List.all_eq_false]
        exact ⟨dat l i, dat_mem hi, by simpa using o1⟩
      rw [this]; rfl
def rangedB (l : List DE) : Bool := l.all fun d => timesB d.n
set_option maxHeartbeats 400000 in
theorem ranged_any (F F' : Nat → Prop) (v : Value) (l : List DE) (w : World) (h : RD w F F' v l) (hn : l.length < 1073741824) :
    Calls Tryz.prog 86 #[v] w fun e w' => e = .returned (.bool (rangedB l)) ∧ Below w.heap.size w w' := by
  have H := Lib.hid (allD_any 134 (fun _ _ => by simp [go_sem]) (fun d => timesB d.n) F F' v l w h hn (fun d w1 _ hg _ => ranged1_any F' d w1 hg))
  clear h
  go_enter Tryz.func86, Tryz.ntmps86
  go_wp2_with fail
  refine H.out.mono ?_
  rintro e w1 ⟨rfl, hb⟩
  change Below w.heap.size w w1 at hb
  have he : l.all (fun d => timesB d.n) = rangedB l := rfl
  rw [he]
  clear he H
  go_wp2_with fail
  go_ret
  exact ⟨by simp, hb⟩
end Go.Proofs.YthejmnmkbldacaaGreatDoor

namespace Go.Proofs.YthejmnmkbldacaaGreatDoor
open Go.RowKit
attribute [local go_sem] Tab.Env.ev Tab.Env.get

/-- a value is sound -/
def soundB (x : VD) : Bool := (soundV 1 0 x).1
def rowSound (l : List VD) : Bool := l.all soundB
def allSound (l : List DE) : Bool := l.all fun d => rowSound d.row

set_option maxHeartbeats 1000000 in
theorem Sound_any (x : VD) (F : Nat → Prop) (va : Value) (w : World) (hv : VAgg w F va x) (hT : Tabs w) :
    Calls Tryz.prog 122 #[va] w fun e w' => e = .returned (.bool (soundB x)) ∧ Below w.heap.size w w' := by
  obtain ⟨A, cc, rfl, hok, hr⟩ := hv
  have hb1 : Blk ((w.alloc (.cells #[.int .i64 x.k, .int .i64 x.n, .int .i64 x.sc, .string x.s, .slice A x.items.length cc] 33)).alloc (.cells #[.int .i64 0] 3)) (w.heap.size + 1) 3 [.int .i64 0] := by
    have h := Blk.new (w.alloc (.cells #[.int .i64 x.k, .int .i64 x.n, .int .i64 x.sc, .string x.s, .slice A x.items.length cc] 33)) 3 [.int .i64 0]
    simpa using h
  have hbel : Below w.heap.size w ((w.alloc (.cells #[.int .i64 x.k, .int .i64 x.n, .int .i64 x.sc, .string x.s, .slice A x.items.length cc] 33)).alloc (.cells #[.int .i64 0] 3)) := (below_new w _).alloc (by simp) _
  have HC := Lib.hid (soundAt x (fun b => F b ∧ b < w.heap.size) (.agg #[.int .i64 x.k, .int .i64 x.n, .int .i64 x.sc, .string x.s, .slice A x.items.length cc]) _ 1 0 (w.heap.size + 1) ⟨A, cc, rfl, hok, (hr.mono (fun b hb hl => ⟨hb, hl⟩)).later hbel⟩ (hT.later hbel) hb1 (fun b hb e => by have := hb.2; omega) (by omega) (by omega) (by omega) (by omega))
  have HB := Lib.hid hbel
  clear hok hr hT hb1 hbel
  go_enter Tryz.func122, Tryz.ntmps122
  go_wp2_with fail
  refine HC.out.mono ?_
  rintro e w1 ⟨rfl, o1, o2⟩
  have O := Lib.hid (show Below w.heap.size w w1 from HB.out.trans ⟨o2.os, o2.tape, o2.output, o2.size, fun k hk => o2.block k (by simp; omega) (by omega)⟩)
  have HE : (soundV 1 0 x).1 = soundB x := rfl
  rw [HE]
  clear o1 o2 HC HE HB
  go_wp2_with fail
  go_ret
  exact ⟨rfl, O.out⟩
set_option maxHeartbeats 1000000 in
theorem soundRow1_any (x : VD) (F : Nat → Prop) (va : Value) (w : World) (hv : VAgg w F va x) (hT : Tabs w) :
    Calls Tryz.prog 121 #[va] w fun e w' => e = .returned (.bool (!soundB x)) ∧ Below w.heap.size w w' := by
  obtain ⟨A, cc, rfl, hok, hr⟩ := hv
  have hbn := below_new w (.cells #[.int .i64 x.k, .int .i64 x.n, .int .i64 x.sc, .string x.s, .slice A x.items.length cc] 33)
  have HC := Lib.hid (Sound_any x F (.agg #[.int .i64 x.k, .int .i64 x.n, .int .i64 x.sc, .string x.s, .slice A x.items.length cc]) _ ⟨A, cc, rfl, hok, hr.later hbn⟩ (hT.later hbn))
  have HB := Lib.hid hbn
  clear hok hr hT hbn
  go_enter Tryz.func121, Tryz.ntmps121
  go_wp2_with fail
  refine HC.out.mono ?_
  rintro e w1 ⟨rfl, o1⟩
  have O := Lib.hid (HB.out.trans (o1.mono HB.out.size))
  clear o1 HC HB
  go_wp2_with fail
  go_ret
  exact ⟨rfl, O.out⟩
theorem cfSoundRow1 : ∀ (args : Array Value) (w : World), (callFunc 121 args).run Tryz.prog w = .ok (.enter 121 args) w := fun _ _ => by simp [go_sem]
theorem soundRowC_any (F : Nat → Prop) (v : Value) (l : List VD) (w : World) (hr : RI w F v l) (hT : Tabs w) :
    Calls Tryz.prog 120 #[v, .func (.func 121) #[] #[]] w fun e w' => e = .returned (.bool (!rowSound l)) ∧ Below w.heap.size w w' := by
  refine (containsV_any 121 cfSoundRow1 F v l (fun i => !soundB (at_ l i)) (fun _ w1 => Below w.heap.size w w1) (fun _ w1 => Below w.heap.size w w1) w (Below.refl _ _) (fun _ w1 hb => hr.later hb) (fun i w1 hi hb va hva => ?_)).mono ?_
  · refine (soundRow1_any (at_ l i) F va w1 hva (hT.later hb)).mono ?_
    rintro e w2 ⟨rfl, hb2⟩
    exact ⟨rfl, fun _ => hb.trans (hb2.mono hb.size), fun _ => hb.trans (hb2.mono hb.size)⟩
  · rintro e w1 (⟨rfl, o1, o2⟩ | ⟨i, hi, rfl, o1, o2, o3⟩)
    · refine ⟨ret_bool ?_, o2⟩
      have : rowSound l = true := List.all_eq_true.2 fun d hd => by
        obtain ⟨j, hj, rfl⟩ := List.mem_iff_getElem.1 hd
        have := o1 j hj
        have e : at_ l j = l[j] := by
          unfold at_
          rw [List.getD_eq_getElem?_getD, List.getElem?_eq_getElem hj]
          rfl
        simp only [e] at this
        simpa using this
      rw [this]; rfl
    · refine ⟨ret_bool ?_, o3⟩
      have : rowSound l = false := by
        unfold rowSound
        rw [List.all_eq_false]
        exact ⟨at_ l i, at_mem hi, by simpa using o1⟩
      rw [this]; rfl
set_option maxHeartbeats 1000000 in
theorem soundRow_any (F : Nat → Prop) (v : Value) (l : List VD) (w : World) (hr : RI w F v l) (hT : Tabs w) :
    Calls Tryz.prog 71 #[v] w fun e w' => e = .returned (.bool (rowSound l)) ∧ Below w.heap.size w w' := by
  have HC := Lib.hid (soundRowC_any F v l w hr hT)
  clear hr hT
  go_enter Tryz.func71, Tryz.ntmps71
  go_wp2_with fail
  refine HC.out.mono ?_
  rintro e w1 ⟨rfl, o1⟩
  have O := Lib.hid o1
  clear o1 HC
  go_wp2_with fail
  go_ret
  exact ⟨by simp, O.out⟩
set_option maxHeartbeats 1000000 in
theorem sound1S_any (F : Nat → Prop) (d : DE) (w : World) (h : d.good w F) (hT : Tabs w) :
    Calls Tryz.prog 110 #[d.val] w fun e w' => e = .returned (.bool (!rowSound d.row)) ∧ Below w.heap.size w w' := by
  unfold DE.val
  obtain ⟨A1, c1, _, _, e1, _⟩ := h.row.shape
  have hbn := below_new w (.cells #[.slice A1 d.row.length c1, .int .i64 d.n] 86)
  have hr := h.row
  rw [e1] at hr ⊢
  have HC := Lib.hid (soundRow_any F _ d.row _ (hr.later hbn) (hT.later hbn))
  have HB := Lib.hid hbn
  clear e1 h hT hbn hr
  go_enter Tryz.func110, Tryz.ntmps110
  go_wp2_with fail
  refine HC.out.mono ?_
  rintro e w1 ⟨rfl, o1⟩
  have O := Lib.hid (HB.out.trans (o1.mono HB.out.size))
  clear o1 HC HB
  go_wp2_with fail
  go_ret
  exact ⟨rfl, O.out⟩
set_option maxHeartbeats 400000 in
theorem soundS_any (F F' : Nat → Prop) (v : Value) (l : List DE) (w : World) (h : RD w F F' v l) (hn : l.length < 1073741824) (hT : Tabs w) :
    Calls Tryz.prog 49 #[v] w fun e w' => e = .returned (.bool (allSound l)) ∧ Below w.heap.size w w' := by
  have H := Lib.hid (allD_any 110 (fun _ _ => by simp [go_sem]) (fun d => rowSound d.row) F F' v l w h hn (fun d w1 _ hg hb => sound1S_any F' d w1 hg (hT.later hb)))
  clear h hT
  go_enter Tryz.func49, Tryz.ntmps49
  go_wp2_with fail
  refine H.out.mono ?_
  rintro e w1 ⟨rfl, hb⟩
  change Below w.heap.size w w1 at hb
  have he : l.all (fun d => rowSound d.row) = allSound l := rfl
  rw [he]
  clear he H
  go_wp2_with fail
  go_ret
  exact ⟨by simp, hb⟩
end Go.Proofs.YthejmnmkbldacaaGreatDoor
