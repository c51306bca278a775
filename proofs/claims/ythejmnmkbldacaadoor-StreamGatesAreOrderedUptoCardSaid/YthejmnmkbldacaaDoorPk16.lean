/-
  What is proved: which texts package value takes for sound. Conditions: the tables of unicode/utf8 lie as they are laid.
  What is proved: what of a value package value takes for plain. Conditions: the tables of unicode/utf8 lie as they are laid.
-/
import Derived.Test.YthejmnmkbldacaaDoorPk15
import Derived.Laws.RangeString
import Derived.Laws.RangeAny
set_option linter.all false
namespace Go.Proofs.YthejmnmkbldacaaDoor
open Go.RowKit
attribute [local go_sem] Tab.Env.ev Tab.Env.get

/-- the tables of unicode/utf8 lie in memory -/
def Tabs (w : World) : Prop := Lib.Utf8Tabs 4 5 w
theorem Tabs.lt {w : World} (h : Tabs w) : 4 < w.heap.size ∧ 5 < w.heap.size := by
  have h1 := h.1 0 (by omega)
  have h2 := (h.2 0 (by omega)).1
  have f : ∀ (b o : Nat) (v : Value), w.cell? ⟨b, o, none⟩ = some v → b < w.heap.size := fun b o v hc => by
    rcases Nat.lt_or_ge b w.heap.size with h' | h'
    · exact h'
    · simp [World.cell?, Array.getElem?_eq_none h'] at hc
  exact ⟨f _ _ _ h1, f _ _ _ h2⟩
theorem Tabs.ext {M : Nat → Prop} {w w' : World} (h : Tabs w) (hb : Tab.Ext M w w') (h1 : ¬ M 4) (h2 : ¬ M 5) : Tabs w' :=
  ⟨fun c hc => (hb.cell (p := ⟨4, c, none⟩) h.lt.1 h1).trans (h.1 c hc), fun i hi => ⟨(hb.cell (p := ⟨5, 2 * i, none⟩) h.lt.2 h2).trans (h.2 i hi).1, (hb.cell (p := ⟨5, 2 * i + 1, none⟩) h.lt.2 h2).trans (h.2 i hi).2⟩⟩
theorem Tabs.later {w w' : World} (h : Tabs w) (hb : Below w.heap.size w w') : Tabs w' := h.ext (M := fun _ => False) (Tab.Ext.of_below hb) id id
/-- a block of whole numbers is no table -/
theorem Tabs.ne_int {w : World} (h : Tabs w) {g : Nat} {t : TypeId} {n : Int} {cs : List Value} (hb : Blk w g t (.int .i64 n :: cs)) : g ≠ 4 ∧ g ≠ 5 := by
  have hc := hb.cell 0
  simp only [List.getElem?_cons_zero] at hc
  refine ⟨fun e => ?_, fun e => ?_⟩
  · subst e
    have := (h.1 0 (by omega)).symm.trans hc
    simp at this
  · subst e
    have := ((h.2 0 (by omega)).1).symm.trans hc
    simp at this

/-- a rune from place pos on is a control character -/
def ctl (s : ByteArray) : Nat → Nat → Bool
  | 0, _ => false
  | b + 1, pos => if pos < s.size then (if (Utf8.decode s pos).1 < 32 ∨ (Utf8.decode s pos).1 = 127 then true else ctl s b (pos + (Utf8.decode s pos).2)) else false
theorem ctl_end (s : ByteArray) (b pos : Nat) (h : ¬ pos < s.size) : ctl s b pos = false := by
  cases b with
  | zero => rfl
  | succ b => simp [ctl, h]
theorem width_pos (s : ByteArray) (pos : Nat) (h : pos < s.size) : 1 ≤ (Utf8.decode s pos).2 := by
  by_cases ha : (s[pos]'h).toNat < 128
  · rw [decode_ascii s pos h ha]
    exact Nat.le_refl _
  · exact (decode_high s pos h (by omega)).2
/-- the text of a sound Text -/
def textOk (s : ByteArray) : Bool := decide (s.size ≤ 256) && (Lib.validD s.data.toList && !ctl s s.size 0)

set_option maxHeartbeats 1000000 in
theorem text_any (s : ByteArray) (hs : s.size ≤ maxLen) (w : World) (hT : Tabs w) :
    Calls Tryd.prog 192 #[.string s] w fun e w' => e = .returned (.bool (textOk s)) ∧ Below w.heap.size w w' := by
  unfold maxLen at hs
  by_cases h256 : s.size ≤ 256
  · have hd : decide ((256 : Int) < (s.size : Int)) = false := by simp; omega
    have hd2 : ¬ ((256 : Int) < (s.size : Int)) := by omega
    have HV := Lib.hid (validString_lies s w (by omega) hT)
    have HB := Lib.hid (show textOk s = (Lib.validD s.data.toList && !ctl s s.size 0) by unfold textOk; rw [decide_eq_true h256, Bool.true_and])
    clear hT
    rw [HB.out]
    generalize Lib.validD s.data.toList = V at *
    clear HB
    go_enter Tryd.func192, Tryd.ntmps192
    go_wp2_with fail
    refine HV.out.mono ?_
    rintro e w1 ⟨rfl, hb⟩
    clear HV
    cases V with
    | false =>
      go_wp2_with fail
      go_ret
      exact ⟨rfl, hb⟩
    | true =>
      go_wp2_with fail
      have HB0 := Lib.hid hb
      have hz := hb.size
      go_loopw [2, 4] (fun _ _ w' => ∃ (pos b : Nat), w' = w1.iter s pos ∧ Hid (ctl s b pos = ctl s s.size 0) ∧ s.size ≤ pos + b) (fun _ _ w' => s.size - w'.iterPos w1.heap.size)
      case atStart => exact ⟨0, s.size, rfl, Lib.hid rfl, by omega⟩
      case round =>
        obtain ⟨pos, b, rfl, HC, hbb⟩ := hrel
        by_cases hp : pos < s.size
        · have hnx : ∀ ty, (Instr.next (.pointer (some ⟨w1.heap.size, 0, none⟩)) true ty).run Tryd.prog (w1.iter s pos) = _ := fun ty => run_next_any w1 s pos ty hp
          obtain ⟨b, rfl⟩ : ∃ b', b = b' + 1 := ⟨b - 1, by omega⟩
          have hwd := width_pos s pos hp
          have HS := Lib.hid (show ctl s (b + 1) pos = if (Utf8.decode s pos).1 < 32 ∨ (Utf8.decode s pos).1 = 127 then true else ctl s b (pos + (Utf8.decode s pos).2) by rw [ctl, if_pos hp])
          generalize hr : (Utf8.decode s pos).1 = r at *
          generalize hwi : (Utf8.decode s pos).2 = wd at *
          clear hr hwi
          by_cases h1 : r < 32
          · have hd1 : decide ((r : Int) < 32) = true := by simp; omega
            have HF := Lib.hid (show ctl s s.size 0 = true by rw [← HC.out, HS.out, if_pos (.inl h1)])
            clear h1
            go_wp2_with fail
            go_ret
            exact ⟨ret_bool (by rw [HF.out]; rfl), HB0.out.trans ((below_new w1 _).mono hz)⟩
          · have hd1 : decide ((r : Int) < 32) = false := by simp; omega
            by_cases h2 : r = 127
            · have hd2 : ((r : Int) == 127) = true := by simp; omega
              have HF := Lib.hid (show ctl s s.size 0 = true by rw [← HC.out, HS.out, if_pos (.inr h2)])
              clear h1 h2
              go_wp2_with fail
              go_ret
              exact ⟨ret_bool (by rw [HF.out]; rfl), HB0.out.trans ((below_new w1 _).mono hz)⟩
            · have hd2 : ((r : Int) == 127) = false := by simp; omega
              have HF := Lib.hid (show ctl s b (pos + wd) = ctl s s.size 0 by rw [← HC.out, HS.out, if_neg (fun h => h.elim h1 h2)])
              clear h1 h2
              go_wp2_with fail
              go_roundw
              case rel => exact ⟨pos + wd, b, rfl, HF, by omega⟩
              case measure => simp; omega
        · have hnx : ∀ ty, (Instr.next (.pointer (some ⟨w1.heap.size, 0, none⟩)) true ty).run Tryd.prog (w1.iter s pos) = _ := fun ty => run_next_end w1 s pos ty hp
          have HF := Lib.hid (show ctl s s.size 0 = false by rw [← HC.out, ctl_end s b pos hp])
          go_wp2_with fail
          go_ret
          exact ⟨ret_bool (by rw [HF.out]; rfl), HB0.out.trans ((below_new w1 _).mono hz)⟩
  · have hd : decide ((256 : Int) < (s.size : Int)) = true := by simp; omega
    have HB := Lib.hid (show textOk s = false by unfold textOk; rw [decide_eq_false h256, Bool.false_and])
    clear h256 hT
    rw [HB.out]
    go_enter Tryd.func192, Tryd.ntmps192
    go_wp2_with fail
    go_ret
    exact ⟨rfl, Below.refl _ _⟩
end Go.Proofs.YthejmnmkbldacaaDoor

namespace Go.Proofs.YthejmnmkbldacaaDoor
open Go.RowKit
attribute [local go_sem] Tab.Env.ev Tab.Env.get

def sEmpty (s : ByteArray) : Bool := s.toList.isEmpty
def plain0 (n sc : Int) (s : ByteArray) (len : Nat) : Bool := (n == 0) && ((sc == 0) && (sEmpty s && (((len : Int) == 0))))
def plain1 (n sc : Int) (s : ByteArray) (len : Nat) : Bool := decide ((0 : Int) ≤ n ∧ n ≤ 1) && ((sc == 0) && (sEmpty s && (((len : Int) == 0))))
def plain2 (n sc : Int) (s : ByteArray) (len : Nat) : Bool := decide ((-999999999999999999 : Int) ≤ n ∧ n ≤ 999999999999999999) && ((sc == 0) && (sEmpty s && (((len : Int) == 0))))
def plain3 (n sc : Int) (s : ByteArray) (len : Nat) : Bool := decide ((-999999999999999999 : Int) ≤ n ∧ n ≤ 999999999999999999) && (decide ((0 : Int) ≤ sc ∧ sc ≤ 12) && (sEmpty s && (((len : Int) == 0))))
def plain4 (n sc : Int) (s : ByteArray) (len : Nat) : Bool := (n == 0) && ((sc == 0) && (textOk s && (((len : Int) == 0))))
def plain5 (n sc : Int) (s : ByteArray) (len : Nat) : Bool := decide ((-62135596800 : Int) ≤ n ∧ n ≤ 253402300799) && ((sc == 0) && (sEmpty s && (((len : Int) == 0))))
def plain6 (n sc : Int) (s : ByteArray) (len : Nat) : Bool := (n == 0) && ((sc == 0) && (sEmpty s && (decide ((len : Int) ≤ 64))))
def plain7 (n sc : Int) (s : ByteArray) (len : Nat) : Bool := (n == 0) && ((sc == 0) && (sEmpty s && (decide (0 < len))))
/-- a value, apart from its items, has just what its kind has -/
def plainF (k n sc : Int) (s : ByteArray) (len : Nat) : Bool :=
  if k = 0 then plain0 n sc s len else if k = 1 then plain1 n sc s len else if k = 2 then plain2 n sc s len else if k = 3 then plain3 n sc s len else if k = 4 then plain4 n sc s len else if k = 5 then plain5 n sc s len else if k = 6 then plain6 n sc s len else if k = 7 then plain7 n sc s len else false

set_option maxHeartbeats 4000000 in
set_option maxRecDepth 100000 in
theorem plain_0 (n sc : Int) (s : ByteArray) (A : Option Addr) (len c : Nat) (w : World) :
    Calls Tryd.prog 149 #[.agg #[.int .i64 0, .int .i64 n, .int .i64 sc, .string s, .slice A len c]] w fun e w' => e = .returned (.bool (plain0 n sc s len)) ∧ Below w.heap.size w w' := by
  by_cases hn : n = 0
  · subst hn
    by_cases hsc : sc = 0
    · subst hsc
      cases h2 : sEmpty s with
      | false =>
        have HP := Lib.hid (show plain0 0 0 s len = false by unfold plain0; simp [h2])
        rw [HP.out]
        clear HP
        unfold sEmpty at h2
        go_enter Tryd.func149, Tryd.ntmps149
        go_wp2_with fail
        go_ret
        exact ⟨rfl, below_new w _⟩
      | true =>
        cases h3 : ((len : Int) == 0) with
        | false =>
          have HP := Lib.hid (show plain0 0 0 s len = false by unfold plain0; simp [h2, h3])
          rw [HP.out]
          clear HP
          unfold sEmpty at h2
          go_enter Tryd.func149, Tryd.ntmps149
          go_wp2_with fail
          go_ret
          exact ⟨rfl, below_new w _⟩
        | true =>
          have HP := Lib.hid (show plain0 0 0 s len = true by unfold plain0; simp [h2, h3])
          rw [HP.out]
          clear HP
          unfold sEmpty at h2
          go_enter Tryd.func149, Tryd.ntmps149
          go_wp2_with fail
          go_ret
          exact ⟨rfl, below_new w _⟩
    · have hSC : (sc == 0) = false := by simp [hsc]
      clear hsc
      have HP := Lib.hid (show plain0 0 sc s len = false by unfold plain0; simp [hSC])
      rw [HP.out]
      clear HP
      go_enter Tryd.func149, Tryd.ntmps149
      go_wp2_with fail
      go_ret
      exact ⟨rfl, below_new w _⟩
  · have hN : (n == 0) = false := by simp [hn]
    clear hn
    have HP := Lib.hid (show plain0 n sc s len = false by unfold plain0; simp [hN])
    rw [HP.out]
    clear HP
    go_enter Tryd.func149, Tryd.ntmps149
    go_wp2_with fail
    go_ret
    exact ⟨rfl, below_new w _⟩

set_option maxHeartbeats 4000000 in
set_option maxRecDepth 100000 in
theorem plain_1 (n sc : Int) (s : ByteArray) (A : Option Addr) (len c : Nat) (w : World) :
    Calls Tryd.prog 149 #[.agg #[.int .i64 1, .int .i64 n, .int .i64 sc, .string s, .slice A len c]] w fun e w' => e = .returned (.bool (plain1 n sc s len)) ∧ Below w.heap.size w w' := by
  by_cases hn : n = 0
  · subst hn
    by_cases hsc : sc = 0
    · subst hsc
      cases h2 : sEmpty s with
      | false =>
        have HP := Lib.hid (show plain1 0 0 s len = false by unfold plain1; simp [h2])
        rw [HP.out]
        clear HP
        unfold sEmpty at h2
        go_enter Tryd.func149, Tryd.ntmps149
        go_wp2_with fail
        refine (within_any _ _ _ _).mono ?_
        rintro e w1 ⟨rfl, rfl⟩
        rw [show decide ((0 : Int) ≤ 0 ∧ (0 : Int) ≤ 1) = true by decide]
        go_wp2_with fail
        go_ret
        exact ⟨rfl, below_new w _⟩
      | true =>
        cases h3 : ((len : Int) == 0) with
        | false =>
          have HP := Lib.hid (show plain1 0 0 s len = false by unfold plain1; simp [h2, h3])
          rw [HP.out]
          clear HP
          unfold sEmpty at h2
          go_enter Tryd.func149, Tryd.ntmps149
          go_wp2_with fail
          refine (within_any _ _ _ _).mono ?_
          rintro e w1 ⟨rfl, rfl⟩
          rw [show decide ((0 : Int) ≤ 0 ∧ (0 : Int) ≤ 1) = true by decide]
          go_wp2_with fail
          go_ret
          exact ⟨rfl, below_new w _⟩
        | true =>
          have HP := Lib.hid (show plain1 0 0 s len = true by unfold plain1; simp [h2, h3])
          rw [HP.out]
          clear HP
          unfold sEmpty at h2
          go_enter Tryd.func149, Tryd.ntmps149
          go_wp2_with fail
          refine (within_any _ _ _ _).mono ?_
          rintro e w1 ⟨rfl, rfl⟩
          rw [show decide ((0 : Int) ≤ 0 ∧ (0 : Int) ≤ 1) = true by decide]
          go_wp2_with fail
          go_ret
          exact ⟨rfl, below_new w _⟩
    · have hSC : (sc == 0) = false := by simp [hsc]
      clear hsc
      have HP := Lib.hid (show plain1 0 sc s len = false by unfold plain1; simp [hSC])
      rw [HP.out]
      clear HP
      go_enter Tryd.func149, Tryd.ntmps149
      go_wp2_with fail
      refine (within_any _ _ _ _).mono ?_
      rintro e w1 ⟨rfl, rfl⟩
      rw [show decide ((0 : Int) ≤ 0 ∧ (0 : Int) ≤ 1) = true by decide]
      go_wp2_with fail
      go_ret
      exact ⟨rfl, below_new w _⟩
  · have hN : (n == 0) = false := by simp [hn]
    clear hn
    cases h0 : decide ((0 : Int) ≤ n ∧ n ≤ 1) with
    | false =>
      have HP := Lib.hid (show plain1 n sc s len = false by unfold plain1; simp [h0, hN])
      rw [HP.out]
      clear HP
      go_enter Tryd.func149, Tryd.ntmps149
      go_wp2_with fail
      refine (within_any _ _ _ _).mono ?_
      rintro e w1 ⟨rfl, rfl⟩
      rw [h0]
      go_wp2_with fail
      go_ret
      exact ⟨rfl, below_new w _⟩
    | true =>
      cases h1 : (sc == 0) with
      | false =>
        have HP := Lib.hid (show plain1 n sc s len = false by unfold plain1; simp [h0, h1, hN])
        rw [HP.out]
        clear HP
        go_enter Tryd.func149, Tryd.ntmps149
        go_wp2_with fail
        refine (within_any _ _ _ _).mono ?_
        rintro e w1 ⟨rfl, rfl⟩
        rw [h0]
        go_wp2_with fail
        go_ret
        exact ⟨rfl, below_new w _⟩
      | true =>
        cases h2 : sEmpty s with
        | false =>
          have HP := Lib.hid (show plain1 n sc s len = false by unfold plain1; simp [h0, h1, h2, hN])
          rw [HP.out]
          clear HP
          unfold sEmpty at h2
          go_enter Tryd.func149, Tryd.ntmps149
          go_wp2_with fail
          refine (within_any _ _ _ _).mono ?_
          rintro e w1 ⟨rfl, rfl⟩
          rw [h0]
          go_wp2_with fail
          go_ret
          exact ⟨rfl, below_new w _⟩
        | true =>
          cases h3 : ((len : Int) == 0) with
          | false =>
            have HP := Lib.hid (show plain1 n sc s len = false by unfold plain1; simp [h0, h1, h2, h3, hN])
            rw [HP.out]
            clear HP
            unfold sEmpty at h2
            go_enter Tryd.func149, Tryd.ntmps149
            go_wp2_with fail
            refine (within_any _ _ _ _).mono ?_
            rintro e w1 ⟨rfl, rfl⟩
            rw [h0]
            go_wp2_with fail
            go_ret
            exact ⟨rfl, below_new w _⟩
          | true =>
            have HP := Lib.hid (show plain1 n sc s len = true by unfold plain1; simp [h0, h1, h2, h3, hN])
            rw [HP.out]
            clear HP
            unfold sEmpty at h2
            go_enter Tryd.func149, Tryd.ntmps149
            go_wp2_with fail
            refine (within_any _ _ _ _).mono ?_
            rintro e w1 ⟨rfl, rfl⟩
            rw [h0]
            go_wp2_with fail
            go_ret
            exact ⟨rfl, below_new w _⟩

set_option maxHeartbeats 4000000 in
set_option maxRecDepth 100000 in
theorem plain_2 (n sc : Int) (s : ByteArray) (A : Option Addr) (len c : Nat) (w : World) :
    Calls Tryd.prog 149 #[.agg #[.int .i64 2, .int .i64 n, .int .i64 sc, .string s, .slice A len c]] w fun e w' => e = .returned (.bool (plain2 n sc s len)) ∧ Below w.heap.size w w' := by
  by_cases hn : n = 0
  · subst hn
    by_cases hsc : sc = 0
    · subst hsc
      cases h2 : sEmpty s with
      | false =>
        have HP := Lib.hid (show plain2 0 0 s len = false by unfold plain2; simp [h2])
        rw [HP.out]
        clear HP
        unfold sEmpty at h2
        go_enter Tryd.func149, Tryd.ntmps149
        go_wp2_with fail
        refine (within_any _ _ _ _).mono ?_
        rintro e w1 ⟨rfl, rfl⟩
        rw [show decide ((-999999999999999999 : Int) ≤ 0 ∧ (0 : Int) ≤ 999999999999999999) = true by decide]
        go_wp2_with fail
        go_ret
        exact ⟨rfl, below_new w _⟩
      | true =>
        cases h3 : ((len : Int) == 0) with
        | false =>
          have HP := Lib.hid (show plain2 0 0 s len = false by unfold plain2; simp [h2, h3])
          rw [HP.out]
          clear HP
          unfold sEmpty at h2
          go_enter Tryd.func149, Tryd.ntmps149
          go_wp2_with fail
          refine (within_any _ _ _ _).mono ?_
          rintro e w1 ⟨rfl, rfl⟩
          rw [show decide ((-999999999999999999 : Int) ≤ 0 ∧ (0 : Int) ≤ 999999999999999999) = true by decide]
          go_wp2_with fail
          go_ret
          exact ⟨rfl, below_new w _⟩
        | true =>
          have HP := Lib.hid (show plain2 0 0 s len = true by unfold plain2; simp [h2, h3])
          rw [HP.out]
          clear HP
          unfold sEmpty at h2
          go_enter Tryd.func149, Tryd.ntmps149
          go_wp2_with fail
          refine (within_any _ _ _ _).mono ?_
          rintro e w1 ⟨rfl, rfl⟩
          rw [show decide ((-999999999999999999 : Int) ≤ 0 ∧ (0 : Int) ≤ 999999999999999999) = true by decide]
          go_wp2_with fail
          go_ret
          exact ⟨rfl, below_new w _⟩
    · have hSC : (sc == 0) = false := by simp [hsc]
      clear hsc
      have HP := Lib.hid (show plain2 0 sc s len = false by unfold plain2; simp [hSC])
      rw [HP.out]
      clear HP
      go_enter Tryd.func149, Tryd.ntmps149
      go_wp2_with fail
      refine (within_any _ _ _ _).mono ?_
      rintro e w1 ⟨rfl, rfl⟩
      rw [show decide ((-999999999999999999 : Int) ≤ 0 ∧ (0 : Int) ≤ 999999999999999999) = true by decide]
      go_wp2_with fail
      go_ret
      exact ⟨rfl, below_new w _⟩
  · have hN : (n == 0) = false := by simp [hn]
    clear hn
    cases h0 : decide ((-999999999999999999 : Int) ≤ n ∧ n ≤ 999999999999999999) with
    | false =>
      have HP := Lib.hid (show plain2 n sc s len = false by unfold plain2; simp [h0, hN])
      rw [HP.out]
      clear HP
      go_enter Tryd.func149, Tryd.ntmps149
      go_wp2_with fail
      refine (within_any _ _ _ _).mono ?_
      rintro e w1 ⟨rfl, rfl⟩
      rw [h0]
      go_wp2_with fail
      go_ret
      exact ⟨rfl, below_new w _⟩
    | true =>
      cases h1 : (sc == 0) with
      | false =>
        have HP := Lib.hid (show plain2 n sc s len = false by unfold plain2; simp [h0, h1, hN])
        rw [HP.out]
        clear HP
        go_enter Tryd.func149, Tryd.ntmps149
        go_wp2_with fail
        refine (within_any _ _ _ _).mono ?_
        rintro e w1 ⟨rfl, rfl⟩
        rw [h0]
        go_wp2_with fail
        go_ret
        exact ⟨rfl, below_new w _⟩
      | true =>
        cases h2 : sEmpty s with
        | false =>
          have HP := Lib.hid (show plain2 n sc s len = false by unfold plain2; simp [h0, h1, h2, hN])
          rw [HP.out]
          clear HP
          unfold sEmpty at h2
          go_enter Tryd.func149, Tryd.ntmps149
          go_wp2_with fail
          refine (within_any _ _ _ _).mono ?_
          rintro e w1 ⟨rfl, rfl⟩
          rw [h0]
          go_wp2_with fail
          go_ret
          exact ⟨rfl, below_new w _⟩
        | true =>
          cases h3 : ((len : Int) == 0) with
          | false =>
            have HP := Lib.hid (show plain2 n sc s len = false by unfold plain2; simp [h0, h1, h2, h3, hN])
            rw [HP.out]
            clear HP
            unfold sEmpty at h2
            go_enter Tryd.func149, Tryd.ntmps149
            go_wp2_with fail
            refine (within_any _ _ _ _).mono ?_
            rintro e w1 ⟨rfl, rfl⟩
            rw [h0]
            go_wp2_with fail
            go_ret
            exact ⟨rfl, below_new w _⟩
          | true =>
            have HP := Lib.hid (show plain2 n sc s len = true by unfold plain2; simp [h0, h1, h2, h3, hN])
            rw [HP.out]
            clear HP
            unfold sEmpty at h2
            go_enter Tryd.func149, Tryd.ntmps149
            go_wp2_with fail
            refine (within_any _ _ _ _).mono ?_
            rintro e w1 ⟨rfl, rfl⟩
            rw [h0]
            go_wp2_with fail
            go_ret
            exact ⟨rfl, below_new w _⟩

set_option maxHeartbeats 4000000 in
set_option maxRecDepth 100000 in
theorem plain_3 (n sc : Int) (s : ByteArray) (A : Option Addr) (len c : Nat) (w : World) :
    Calls Tryd.prog 149 #[.agg #[.int .i64 3, .int .i64 n, .int .i64 sc, .string s, .slice A len c]] w fun e w' => e = .returned (.bool (plain3 n sc s len)) ∧ Below w.heap.size w w' := by
  by_cases hn : n = 0
  · subst hn
    by_cases hsc : sc = 0
    · subst hsc
      cases h2 : sEmpty s with
      | false =>
        have HP := Lib.hid (show plain3 0 0 s len = false by unfold plain3; simp [h2])
        rw [HP.out]
        clear HP
        unfold sEmpty at h2
        go_enter Tryd.func149, Tryd.ntmps149
        go_wp2_with fail
        refine (within_any _ _ _ _).mono ?_
        rintro e w1 ⟨rfl, rfl⟩
        rw [show decide ((-999999999999999999 : Int) ≤ 0 ∧ (0 : Int) ≤ 999999999999999999) = true by decide]
        go_wp2_with fail
        refine (within_any _ _ _ _).mono ?_
        rintro e w1 ⟨rfl, rfl⟩
        rw [show decide ((0 : Int) ≤ 0 ∧ (0 : Int) ≤ 12) = true by decide]
        go_wp2_with fail
        go_ret
        exact ⟨rfl, below_new w _⟩
      | true =>
        cases h3 : ((len : Int) == 0) with
        | false =>
          have HP := Lib.hid (show plain3 0 0 s len = false by unfold plain3; simp [h2, h3])
          rw [HP.out]
          clear HP
          unfold sEmpty at h2
          go_enter Tryd.func149, Tryd.ntmps149
          go_wp2_with fail
          refine (within_any _ _ _ _).mono ?_
          rintro e w1 ⟨rfl, rfl⟩
          rw [show decide ((-999999999999999999 : Int) ≤ 0 ∧ (0 : Int) ≤ 999999999999999999) = true by decide]
          go_wp2_with fail
          refine (within_any _ _ _ _).mono ?_
          rintro e w1 ⟨rfl, rfl⟩
          rw [show decide ((0 : Int) ≤ 0 ∧ (0 : Int) ≤ 12) = true by decide]
          go_wp2_with fail
          go_ret
          exact ⟨rfl, below_new w _⟩
        | true =>
          have HP := Lib.hid (show plain3 0 0 s len = true by unfold plain3; simp [h2, h3])
          rw [HP.out]
          clear HP
          unfold sEmpty at h2
          go_enter Tryd.func149, Tryd.ntmps149
          go_wp2_with fail
          refine (within_any _ _ _ _).mono ?_
          rintro e w1 ⟨rfl, rfl⟩
          rw [show decide ((-999999999999999999 : Int) ≤ 0 ∧ (0 : Int) ≤ 999999999999999999) = true by decide]
          go_wp2_with fail
          refine (within_any _ _ _ _).mono ?_
          rintro e w1 ⟨rfl, rfl⟩
          rw [show decide ((0 : Int) ≤ 0 ∧ (0 : Int) ≤ 12) = true by decide]
          go_wp2_with fail
          go_ret
          exact ⟨rfl, below_new w _⟩
    · have hSC : (sc == 0) = false := by simp [hsc]
      clear hsc
      cases h1 : decide ((0 : Int) ≤ sc ∧ sc ≤ 12) with
      | false =>
        have HP := Lib.hid (show plain3 0 sc s len = false by unfold plain3; simp [h1, hSC])
        rw [HP.out]
        clear HP
        go_enter Tryd.func149, Tryd.ntmps149
        go_wp2_with fail
        refine (within_any _ _ _ _).mono ?_
        rintro e w1 ⟨rfl, rfl⟩
        rw [show decide ((-999999999999999999 : Int) ≤ 0 ∧ (0 : Int) ≤ 999999999999999999) = true by decide]
        go_wp2_with fail
        refine (within_any _ _ _ _).mono ?_
        rintro e w1 ⟨rfl, rfl⟩
        rw [h1]
        go_wp2_with fail
        go_ret
        exact ⟨rfl, below_new w _⟩
      | true =>
        cases h2 : sEmpty s with
        | false =>
          have HP := Lib.hid (show plain3 0 sc s len = false by unfold plain3; simp [h1, h2, hSC])
          rw [HP.out]
          clear HP
          unfold sEmpty at h2
          go_enter Tryd.func149, Tryd.ntmps149
          go_wp2_with fail
          refine (within_any _ _ _ _).mono ?_
          rintro e w1 ⟨rfl, rfl⟩
          rw [show decide ((-999999999999999999 : Int) ≤ 0 ∧ (0 : Int) ≤ 999999999999999999) = true by decide]
          go_wp2_with fail
          refine (within_any _ _ _ _).mono ?_
          rintro e w1 ⟨rfl, rfl⟩
          rw [h1]
          go_wp2_with fail
          go_ret
          exact ⟨rfl, below_new w _⟩
        | true =>
          cases h3 : ((len : Int) == 0) with
          | false =>
            have HP := Lib.hid (show plain3 0 sc s len = false by unfold plain3; simp [h1, h2, h3, hSC])
            rw [HP.out]
            clear HP
            unfold sEmpty at h2
            go_enter Tryd.func149, Tryd.ntmps149
            go_wp2_with fail
            refine (within_any _ _ _ _).mono ?_
            rintro e w1 ⟨rfl, rfl⟩
            rw [show decide ((-999999999999999999 : Int) ≤ 0 ∧ (0 : Int) ≤ 999999999999999999) = true by decide]
            go_wp2_with fail
            refine (within_any _ _ _ _).mono ?_
            rintro e w1 ⟨rfl, rfl⟩
            rw [h1]
            go_wp2_with fail
            go_ret
            exact ⟨rfl, below_new w _⟩
          | true =>
            have HP := Lib.hid (show plain3 0 sc s len = true by unfold plain3; simp [h1, h2, h3, hSC])
            rw [HP.out]
            clear HP
            unfold sEmpty at h2
            go_enter Tryd.func149, Tryd.ntmps149
            go_wp2_with fail
            refine (within_any _ _ _ _).mono ?_
            rintro e w1 ⟨rfl, rfl⟩
            rw [show decide ((-999999999999999999 : Int) ≤ 0 ∧ (0 : Int) ≤ 999999999999999999) = true by decide]
            go_wp2_with fail
            refine (within_any _ _ _ _).mono ?_
            rintro e w1 ⟨rfl, rfl⟩
            rw [h1]
            go_wp2_with fail
            go_ret
            exact ⟨rfl, below_new w _⟩
  · have hN : (n == 0) = false := by simp [hn]
    clear hn
    cases h0 : decide ((-999999999999999999 : Int) ≤ n ∧ n ≤ 999999999999999999) with
    | false =>
      have HP := Lib.hid (show plain3 n sc s len = false by unfold plain3; simp [h0, hN])
      rw [HP.out]
      clear HP
      go_enter Tryd.func149, Tryd.ntmps149
      go_wp2_with fail
      refine (within_any _ _ _ _).mono ?_
      rintro e w1 ⟨rfl, rfl⟩
      rw [h0]
      go_wp2_with fail
      go_ret
      exact ⟨rfl, below_new w _⟩
    | true =>
      cases h1 : decide ((0 : Int) ≤ sc ∧ sc ≤ 12) with
      | false =>
        have HP := Lib.hid (show plain3 n sc s len = false by unfold plain3; simp [h0, h1, hN])
        rw [HP.out]
        clear HP
        go_enter Tryd.func149, Tryd.ntmps149
        go_wp2_with fail
        refine (within_any _ _ _ _).mono ?_
        rintro e w1 ⟨rfl, rfl⟩
        rw [h0]
        go_wp2_with fail
        refine (within_any _ _ _ _).mono ?_
        rintro e w1 ⟨rfl, rfl⟩
        rw [h1]
        go_wp2_with fail
        go_ret
        exact ⟨rfl, below_new w _⟩
      | true =>
        cases h2 : sEmpty s with
        | false =>
          have HP := Lib.hid (show plain3 n sc s len = false by unfold plain3; simp [h0, h1, h2, hN])
          rw [HP.out]
          clear HP
          unfold sEmpty at h2
          go_enter Tryd.func149, Tryd.ntmps149
          go_wp2_with fail
          refine (within_any _ _ _ _).mono ?_
          rintro e w1 ⟨rfl, rfl⟩
          rw [h0]
          go_wp2_with fail
          refine (within_any _ _ _ _).mono ?_
          rintro e w1 ⟨rfl, rfl⟩
          rw [h1]
          go_wp2_with fail
          go_ret
          exact ⟨rfl, below_new w _⟩
        | true =>
          cases h3 : ((len : Int) == 0) with
          | false =>
            have HP := Lib.hid (show plain3 n sc s len = false by unfold plain3; simp [h0, h1, h2, h3, hN])
            rw [HP.out]
            clear HP
            unfold sEmpty at h2
            go_enter Tryd.func149, Tryd.ntmps149
            go_wp2_with fail
            refine (within_any _ _ _ _).mono ?_
            rintro e w1 ⟨rfl, rfl⟩
            rw [h0]
            go_wp2_with fail
            refine (within_any _ _ _ _).mono ?_
            rintro e w1 ⟨rfl, rfl⟩
            rw [h1]
            go_wp2_with fail
            go_ret
            exact ⟨rfl, below_new w _⟩
          | true =>
            have HP := Lib.hid (show plain3 n sc s len = true by unfold plain3; simp [h0, h1, h2, h3, hN])
            rw [HP.out]
            clear HP
            unfold sEmpty at h2
            go_enter Tryd.func149, Tryd.ntmps149
            go_wp2_with fail
            refine (within_any _ _ _ _).mono ?_
            rintro e w1 ⟨rfl, rfl⟩
            rw [h0]
            go_wp2_with fail
            refine (within_any _ _ _ _).mono ?_
            rintro e w1 ⟨rfl, rfl⟩
            rw [h1]
            go_wp2_with fail
            go_ret
            exact ⟨rfl, below_new w _⟩

set_option maxHeartbeats 4000000 in
set_option maxRecDepth 100000 in
theorem plain_4 (n sc : Int) (s : ByteArray) (A : Option Addr) (len c : Nat) (w : World) (hs : s.size ≤ maxLen) (hT : Tabs w) :
    Calls Tryd.prog 149 #[.agg #[.int .i64 4, .int .i64 n, .int .i64 sc, .string s, .slice A len c]] w fun e w' => e = .returned (.bool (plain4 n sc s len)) ∧ Below w.heap.size w w' := by
  have HTX := Lib.hid (fun W (hW : Below w.heap.size w W) => text_any s hs W (hT.later hW))
  clear hT hs
  by_cases hn : n = 0
  · subst hn
    by_cases hsc : sc = 0
    · subst hsc
      cases h2 : textOk s with
      | false =>
        have HP := Lib.hid (show plain4 0 0 s len = false by unfold plain4; simp [h2])
        rw [HP.out]
        clear HP
        go_enter Tryd.func149, Tryd.ntmps149
        go_wp2_with fail
        refine (HTX.out _ (below_new w _)).mono ?_
        rintro e w1 ⟨rfl, hb⟩
        rw [h2]
        have q := wcell5 ((Blk.new w 41 [.int .i64 4, .int .i64 0, .int .i64 0, .string s, .slice A len c]).below hb (by simp))
        have hbb := (below_new w (.cells #[.int .i64 4, .int .i64 0, .int .i64 0, .string s, .slice A len c] 41)).trans (hb.mono (by simp))
        go_wp2_with fail
        go_ret
        exact ⟨rfl, hbb⟩
      | true =>
        cases h3 : ((len : Int) == 0) with
        | false =>
          have HP := Lib.hid (show plain4 0 0 s len = false by unfold plain4; simp [h2, h3])
          rw [HP.out]
          clear HP
          go_enter Tryd.func149, Tryd.ntmps149
          go_wp2_with fail
          refine (HTX.out _ (below_new w _)).mono ?_
          rintro e w1 ⟨rfl, hb⟩
          rw [h2]
          have q := wcell5 ((Blk.new w 41 [.int .i64 4, .int .i64 0, .int .i64 0, .string s, .slice A len c]).below hb (by simp))
          have hbb := (below_new w (.cells #[.int .i64 4, .int .i64 0, .int .i64 0, .string s, .slice A len c] 41)).trans (hb.mono (by simp))
          go_wp2_with fail
          go_ret
          exact ⟨rfl, hbb⟩
        | true =>
          have HP := Lib.hid (show plain4 0 0 s len = true by unfold plain4; simp [h2, h3])
          rw [HP.out]
          clear HP
          go_enter Tryd.func149, Tryd.ntmps149
          go_wp2_with fail
          refine (HTX.out _ (below_new w _)).mono ?_
          rintro e w1 ⟨rfl, hb⟩
          rw [h2]
          have q := wcell5 ((Blk.new w 41 [.int .i64 4, .int .i64 0, .int .i64 0, .string s, .slice A len c]).below hb (by simp))
          have hbb := (below_new w (.cells #[.int .i64 4, .int .i64 0, .int .i64 0, .string s, .slice A len c] 41)).trans (hb.mono (by simp))
          go_wp2_with fail
          go_ret
          exact ⟨rfl, hbb⟩
    · have hSC : (sc == 0) = false := by simp [hsc]
      clear hsc
      have HP := Lib.hid (show plain4 0 sc s len = false by unfold plain4; simp [hSC])
      rw [HP.out]
      clear HP
      go_enter Tryd.func149, Tryd.ntmps149
      go_wp2_with fail
      go_ret
      exact ⟨rfl, below_new w _⟩
  · have hN : (n == 0) = false := by simp [hn]
    clear hn
    have HP := Lib.hid (show plain4 n sc s len = false by unfold plain4; simp [hN])
    rw [HP.out]
    clear HP
    go_enter Tryd.func149, Tryd.ntmps149
    go_wp2_with fail
    go_ret
    exact ⟨rfl, below_new w _⟩

set_option maxHeartbeats 4000000 in
set_option maxRecDepth 100000 in
theorem plain_5 (n sc : Int) (s : ByteArray) (A : Option Addr) (len c : Nat) (w : World) :
    Calls Tryd.prog 149 #[.agg #[.int .i64 5, .int .i64 n, .int .i64 sc, .string s, .slice A len c]] w fun e w' => e = .returned (.bool (plain5 n sc s len)) ∧ Below w.heap.size w w' := by
  by_cases hn : n = 0
  · subst hn
    by_cases hsc : sc = 0
    · subst hsc
      cases h2 : sEmpty s with
      | false =>
        have HP := Lib.hid (show plain5 0 0 s len = false by unfold plain5; simp [h2])
        rw [HP.out]
        clear HP
        unfold sEmpty at h2
        go_enter Tryd.func149, Tryd.ntmps149
        go_wp2_with fail
        refine (within_any _ _ _ _).mono ?_
        rintro e w1 ⟨rfl, rfl⟩
        rw [show decide ((-62135596800 : Int) ≤ 0 ∧ (0 : Int) ≤ 253402300799) = true by decide]
        go_wp2_with fail
        go_ret
        exact ⟨rfl, below_new w _⟩
      | true =>
        cases h3 : ((len : Int) == 0) with
        | false =>
          have HP := Lib.hid (show plain5 0 0 s len = false by unfold plain5; simp [h2, h3])
          rw [HP.out]
          clear HP
          unfold sEmpty at h2
          go_enter Tryd.func149, Tryd.ntmps149
          go_wp2_with fail
          refine (within_any _ _ _ _).mono ?_
          rintro e w1 ⟨rfl, rfl⟩
          rw [show decide ((-62135596800 : Int) ≤ 0 ∧ (0 : Int) ≤ 253402300799) = true by decide]
          go_wp2_with fail
          go_ret
          exact ⟨rfl, below_new w _⟩
        | true =>
          have HP := Lib.hid (show plain5 0 0 s len = true by unfold plain5; simp [h2, h3])
          rw [HP.out]
          clear HP
          unfold sEmpty at h2
          go_enter Tryd.func149, Tryd.ntmps149
          go_wp2_with fail
          refine (within_any _ _ _ _).mono ?_
          rintro e w1 ⟨rfl, rfl⟩
          rw [show decide ((-62135596800 : Int) ≤ 0 ∧ (0 : Int) ≤ 253402300799) = true by decide]
          go_wp2_with fail
          go_ret
          exact ⟨rfl, below_new w _⟩
    · have hSC : (sc == 0) = false := by simp [hsc]
      clear hsc
      have HP := Lib.hid (show plain5 0 sc s len = false by unfold plain5; simp [hSC])
      rw [HP.out]
      clear HP
      go_enter Tryd.func149, Tryd.ntmps149
      go_wp2_with fail
      refine (within_any _ _ _ _).mono ?_
      rintro e w1 ⟨rfl, rfl⟩
      rw [show decide ((-62135596800 : Int) ≤ 0 ∧ (0 : Int) ≤ 253402300799) = true by decide]
      go_wp2_with fail
      go_ret
      exact ⟨rfl, below_new w _⟩
  · have hN : (n == 0) = false := by simp [hn]
    clear hn
    cases h0 : decide ((-62135596800 : Int) ≤ n ∧ n ≤ 253402300799) with
    | false =>
      have HP := Lib.hid (show plain5 n sc s len = false by unfold plain5; simp [h0, hN])
      rw [HP.out]
      clear HP
      go_enter Tryd.func149, Tryd.ntmps149
      go_wp2_with fail
      refine (within_any _ _ _ _).mono ?_
      rintro e w1 ⟨rfl, rfl⟩
      rw [h0]
      go_wp2_with fail
      go_ret
      exact ⟨rfl, below_new w _⟩
    | true =>
      cases h1 : (sc == 0) with
      | false =>
        have HP := Lib.hid (show plain5 n sc s len = false by unfold plain5; simp [h0, h1, hN])
        rw [HP.out]
        clear HP
        go_enter Tryd.func149, Tryd.ntmps149
        go_wp2_with fail
        refine (within_any _ _ _ _).mono ?_
        rintro e w1 ⟨rfl, rfl⟩
        rw [h0]
        go_wp2_with fail
        go_ret
        exact ⟨rfl, below_new w _⟩
      | true =>
        cases h2 : sEmpty s with
        | false =>
          have HP := Lib.hid (show plain5 n sc s len = false by unfold plain5; simp [h0, h1, h2, hN])
          rw [HP.out]
          clear HP
          unfold sEmpty at h2
          go_enter Tryd.func149, Tryd.ntmps149
          go_wp2_with fail
          refine (within_any _ _ _ _).mono ?_
          rintro e w1 ⟨rfl, rfl⟩
          rw [h0]
          go_wp2_with fail
          go_ret
          exact ⟨rfl, below_new w _⟩
        | true =>
          cases h3 : ((len : Int) == 0) with
          | false =>
            have HP := Lib.hid (show plain5 n sc s len = false by unfold plain5; simp [h0, h1, h2, h3, hN])
            rw [HP.out]
            clear HP
            unfold sEmpty at h2
            go_enter Tryd.func149, Tryd.ntmps149
            go_wp2_with fail
            refine (within_any _ _ _ _).mono ?_
            rintro e w1 ⟨rfl, rfl⟩
            rw [h0]
            go_wp2_with fail
            go_ret
            exact ⟨rfl, below_new w _⟩
          | true =>
            have HP := Lib.hid (show plain5 n sc s len = true by unfold plain5; simp [h0, h1, h2, h3, hN])
            rw [HP.out]
            clear HP
            unfold sEmpty at h2
            go_enter Tryd.func149, Tryd.ntmps149
            go_wp2_with fail
            refine (within_any _ _ _ _).mono ?_
            rintro e w1 ⟨rfl, rfl⟩
            rw [h0]
            go_wp2_with fail
            go_ret
            exact ⟨rfl, below_new w _⟩

set_option maxHeartbeats 4000000 in
set_option maxRecDepth 100000 in
theorem plain_6 (n sc : Int) (s : ByteArray) (A : Option Addr) (len c : Nat) (w : World) :
    Calls Tryd.prog 149 #[.agg #[.int .i64 6, .int .i64 n, .int .i64 sc, .string s, .slice A len c]] w fun e w' => e = .returned (.bool (plain6 n sc s len)) ∧ Below w.heap.size w w' := by
  by_cases hn : n = 0
  · subst hn
    by_cases hsc : sc = 0
    · subst hsc
      cases h2 : sEmpty s with
      | false =>
        have HP := Lib.hid (show plain6 0 0 s len = false by unfold plain6; simp [h2])
        rw [HP.out]
        clear HP
        unfold sEmpty at h2
        go_enter Tryd.func149, Tryd.ntmps149
        go_wp2_with fail
        go_ret
        exact ⟨rfl, below_new w _⟩
      | true =>
        cases h3 : decide ((len : Int) ≤ 64) with
        | false =>
          have HP := Lib.hid (show plain6 0 0 s len = false by unfold plain6; simp [h2, h3])
          rw [HP.out]
          clear HP
          unfold sEmpty at h2
          go_enter Tryd.func149, Tryd.ntmps149
          go_wp2_with fail
          go_ret
          exact ⟨rfl, below_new w _⟩
        | true =>
          have HP := Lib.hid (show plain6 0 0 s len = true by unfold plain6; simp [h2, h3])
          rw [HP.out]
          clear HP
          unfold sEmpty at h2
          go_enter Tryd.func149, Tryd.ntmps149
          go_wp2_with fail
          go_ret
          exact ⟨rfl, below_new w _⟩
    · have hSC : (sc == 0) = false := by simp [hsc]
      clear hsc
      have HP := Lib.hid (show plain6 0 sc s len = false by unfold plain6; simp [hSC])
      rw [HP.out]
      clear HP
      go_enter Tryd.func149, Tryd.ntmps149
      go_wp2_with fail
      go_ret
      exact ⟨rfl, below_new w _⟩
  · have hN : (n == 0) = false := by simp [hn]
    clear hn
    have HP := Lib.hid (show plain6 n sc s len = false by unfold plain6; simp [hN])
    rw [HP.out]
    clear HP
    go_enter Tryd.func149, Tryd.ntmps149
    go_wp2_with fail
    go_ret
    exact ⟨rfl, below_new w _⟩

set_option maxHeartbeats 4000000 in
set_option maxRecDepth 100000 in
theorem plain_7 (n sc : Int) (s : ByteArray) (A : Option Addr) (len c : Nat) (w : World) :
    Calls Tryd.prog 149 #[.agg #[.int .i64 7, .int .i64 n, .int .i64 sc, .string s, .slice A len c]] w fun e w' => e = .returned (.bool (plain7 n sc s len)) ∧ Below w.heap.size w w' := by
  by_cases hn : n = 0
  · subst hn
    by_cases hsc : sc = 0
    · subst hsc
      cases h2 : sEmpty s with
      | false =>
        have HP := Lib.hid (show plain7 0 0 s len = false by unfold plain7; simp [h2])
        rw [HP.out]
        clear HP
        unfold sEmpty at h2
        go_enter Tryd.func149, Tryd.ntmps149
        go_wp2_with fail
        go_ret
        exact ⟨rfl, below_new w _⟩
      | true =>
        cases h3 : decide (0 < len) with
        | false =>
          have HP := Lib.hid (show plain7 0 0 s len = false by unfold plain7; simp [h2, h3])
          rw [HP.out]
          clear HP
          unfold sEmpty at h2
          go_enter Tryd.func149, Tryd.ntmps149
          go_wp2_with fail
          go_ret
          exact ⟨rfl, below_new w _⟩
        | true =>
          have HP := Lib.hid (show plain7 0 0 s len = true by unfold plain7; simp [h2, h3])
          rw [HP.out]
          clear HP
          unfold sEmpty at h2
          go_enter Tryd.func149, Tryd.ntmps149
          go_wp2_with fail
          go_ret
          exact ⟨rfl, below_new w _⟩
    · have hSC : (sc == 0) = false := by simp [hsc]
      clear hsc
      have HP := Lib.hid (show plain7 0 sc s len = false by unfold plain7; simp [hSC])
      rw [HP.out]
      clear HP
      go_enter Tryd.func149, Tryd.ntmps149
      go_wp2_with fail
      go_ret
      exact ⟨rfl, below_new w _⟩
  · have hN : (n == 0) = false := by simp [hn]
    clear hn
    have HP := Lib.hid (show plain7 n sc s len = false by unfold plain7; simp [hN])
    rw [HP.out]
    clear HP
    go_enter Tryd.func149, Tryd.ntmps149
    go_wp2_with fail
    go_ret
    exact ⟨rfl, below_new w _⟩

set_option maxHeartbeats 1000000 in
theorem plain_none (k n sc : Int) (s : ByteArray) (A : Option Addr) (len c : Nat) (w : World) (h0 : (k == 0) = false) (h1 : (k == 1) = false) (h2 : (k == 2) = false) (h3 : (k == 3) = false) (h4 : (k == 4) = false) (h5 : (k == 5) = false) (h6 : (k == 6) = false) (h7 : (k == 7) = false) :
    Calls Tryd.prog 149 #[.agg #[.int .i64 k, .int .i64 n, .int .i64 sc, .string s, .slice A len c]] w fun e w' => e = .returned (.bool false) ∧ Below w.heap.size w w' := by
  by_cases hn : n = 0
  · subst hn
    by_cases hsc : sc = 0
    · subst hsc
      go_enter Tryd.func149, Tryd.ntmps149
      go_wp2_with fail
      go_ret
      exact ⟨rfl, below_new w _⟩
    · have hSC : (sc == 0) = false := by simp [hsc]
      clear hsc
      go_enter Tryd.func149, Tryd.ntmps149
      go_wp2_with fail
      go_ret
      exact ⟨rfl, below_new w _⟩
  · have hN : (n == 0) = false := by simp [hn]
    clear hn
    go_enter Tryd.func149, Tryd.ntmps149
    go_wp2_with fail
    go_ret
    exact ⟨rfl, below_new w _⟩
theorem plain_any (k n sc : Int) (s : ByteArray) (A : Option Addr) (len c : Nat) (w : World) (hs : s.size ≤ maxLen) (hT : Tabs w) :
    Calls Tryd.prog 149 #[.agg #[.int .i64 k, .int .i64 n, .int .i64 sc, .string s, .slice A len c]] w fun e w' => e = .returned (.bool (plainF k n sc s len)) ∧ Below w.heap.size w w' := by
  by_cases h0 : k = 0
  · subst h0
    exact plain_0 n sc s A len c w
  by_cases h1 : k = 1
  · subst h1
    exact plain_1 n sc s A len c w
  by_cases h2 : k = 2
  · subst h2
    exact plain_2 n sc s A len c w
  by_cases h3 : k = 3
  · subst h3
    exact plain_3 n sc s A len c w
  by_cases h4 : k = 4
  · subst h4
    exact plain_4 n sc s A len c w hs hT
  by_cases h5 : k = 5
  · subst h5
    exact plain_5 n sc s A len c w
  by_cases h6 : k = 6
  · subst h6
    exact plain_6 n sc s A len c w
  by_cases h7 : k = 7
  · subst h7
    exact plain_7 n sc s A len c w
  have e : plainF k n sc s len = false := by unfold plainF; simp [h0, h1, h2, h3, h4, h5, h6, h7]
  rw [e]
  exact plain_none k n sc s A len c w (by simp [h0]) (by simp [h1]) (by simp [h2]) (by simp [h3]) (by simp [h4]) (by simp [h5]) (by simp [h6]) (by simp [h7])
end Go.Proofs.YthejmnmkbldacaaDoor
