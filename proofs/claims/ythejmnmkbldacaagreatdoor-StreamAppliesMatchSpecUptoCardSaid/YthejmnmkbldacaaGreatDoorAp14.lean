/-
  What is proved: what of a value package value takes for plain. Conditions: the tables of unicode/utf8 lie as they are laid.
-/
import Derived.Test.YthejmnmkbldacaaGreatDoorAp13
set_option linter.all false
namespace Go.Proofs.YthejmnmkbldacaaGreatDoor
open Go.RowKit
attribute [local go_sem] Tab.Env.ev Tab.Env.get

def sEmpty (s : ByteArray) : Bool := s.toList.isEmpty
def plain0 (n sc : Int) (s : ByteArray) (len : Nat) : Bool := (n == 0) && ((sc == 0) && (sEmpty s && (((len : Int) == 0))))
def plain1 (n sc : Int) (s : ByteArray) (len : Nat) : Bool := decide ((0 : Int) ≤ n ∧ n ≤ 1) && ((sc == 0) && (sEmpty s && (((len : Int) == 0))))
def plain2 (n sc : Int) (s : ByteArray) (len : Nat) : Bool := decide ((-999999999999999999 : Int) ≤ n ∧ n ≤ 999999999999999999) && ((sc == 0) && (sEmpty s && (((len : Int) == 0))))
def plain3 (n sc : Int) (s : ByteArray) (len : Nat) : Bool := decide ((-999999999999999999 : Int) ≤ n ∧ n ≤ 999999999999999999) && (decide ((0 : Int) ≤ sc ∧ sc ≤ 12) && (sEmpty s && (((len : Int) == 0))))
def plain4 (n sc : Int) (s : ByteArray) (len : Nat) : Bool := (n == 0) && ((sc == 0) && (textOk s && (((len : Int) == 0))))
def plain5 (n sc : Int) (s : ByteArray) (len : Nat) : Bool := decide ((-62135596800 : Int) ≤ n ∧ n ≤ 253402300799) && ((sc == 0) && (sEmpty s && (((len : Int) == 0))))
def plain6 (n sc : Int) (s : ByteArray) (len : Nat) : Bool := (n == 0) && ((sc == 0) && (sEmpty s && (decide ((len : Int) ≤ 64))))
def plain7 (n sc : Int) (s : ByteArray) (len : Nat) : Bool := (n == 0) && ((sc == 0) && (sEmpty s && (decide (0 < len))))
/-- a value, apart from its items, has just what its kind has -/
def plainF (k n sc : Int) (s : ByteArray) (len : Nat) : Bool :=
  if k = 0 then plain0 n sc s len else if k = 1 then plain1 n sc s len else if k = 2 then plain2 n sc s len else if k = 3 then plain3 n sc s len else if k = 4 then plain4 n sc s len else if k = 5 then plain5 n sc s len else if k = 6 then plain6 n sc s len else if k = 7 then plain7 n sc s len else false

set_option maxHeartbeats 4000000 in
set_option maxRecDepth 100000 in
theorem plain_0 (n sc : Int) (s : ByteArray) (A : Option Addr) (len c : Nat) (w : World) :
    Calls Tryz.prog 192 #[.agg #[.int .i64 0, .int .i64 n, .int .i64 sc, .string s, .slice A len c]] w fun e w' => e = .returned (.bool (plain0 n sc s len)) ∧ Below w.heap.size w w' := by
  by_cases hn : n = 0
  · subst hn
    by_cases hsc : sc = 0
    · subst hsc
      cases h2 : sEmpty s with
      | false =>
        have HP := Lib.hid (show plain0 0 0 s len = false by unfold plain0; simp [h2])
        rw [HP.out]
        clear HP
        unfold sEmpty at h2
        go_enter Tryz.func192, Tryz.ntmps192
        go_wp2_with fail
        go_ret
        exact ⟨rfl, below_new w _⟩
      | true =>
        cases h3 : ((len : Int) == 0) with
        | false =>
          have HP := Lib.hid (show plain0 0 0 s len = false by unfold plain0; simp [h2, h3])
          rw [HP.out]
          clear HP
          unfold sEmpty at h2
          go_enter Tryz.func192, Tryz.ntmps192
          go_wp2_with fail
          go_ret
          exact ⟨rfl, below_new w _⟩
        | true =>
          have HP := Lib.hid (show plain0 0 0 s len = true by unfold plain0; simp [h2, h3])
          rw [HP.out]
          clear HP
          unfold sEmpty at h2
          go_enter Tryz.func192, Tryz.ntmps192
          go_wp2_with fail
          go_ret
          exact ⟨rfl, below_new w _⟩
    · have hSC : (sc == 0) = false := by simp [hsc]
      clear hsc
      have HP := Lib.hid (show plain0 0 sc s len = false by unfold plain0; simp [hSC])
      rw [HP.out]
      clear HP
      go_enter Tryz.func192, Tryz.ntmps192
      go_wp2_with fail
      go_ret
      exact ⟨rfl, below_new w _⟩
  · have hN : (n == 0) = false := by simp [hn]
    clear hn
    have HP := Lib.hid (show plain0 n sc s len = false by unfold plain0; simp [hN])
    rw [HP.out]
    clear HP
    go_enter Tryz.func192, Tryz.ntmps192
    go_wp2_with fail
    go_ret
    exact ⟨rfl, below_new w _⟩

set_option maxHeartbeats 4000000 in
set_option maxRecDepth 100000 in
theorem plain_1 (n sc : Int) (s : ByteArray) (A : Option Addr) (len c : Nat) (w : World) :
    Calls Tryz.prog 192 #[.agg #[.int .i64 1, .int .i64 n, .int .i64 sc, .string s, .slice A len c]] w fun e w' => e = .returned (.bool (plain1 n sc s len)) ∧ Below w.heap.size w w' := by
  by_cases hn : n = 0
  · subst hn
    by_cases hsc : sc = 0
    · subst hsc
      cases h2 : sEmpty s with
      | false =>
        have HP := Lib.hid (show plain1 0 0 s len = false by unfold plain1; simp [h2])
        rw [HP.out]
        clear HP
        unfold sEmpty at h2
        go_enter Tryz.func192, Tryz.ntmps192
        go_wp2_with fail
        refine (within_any _ _ _ _).mono ?_
        rintro e w1 ⟨rfl, rfl⟩
        rw [show decide ((0 : Int) ≤ 0 ∧ (0 : Int) ≤ 1) = true by decide]
        go_wp2_with fail
        go_ret
        exact ⟨rfl, below_new w _⟩
      | true =>
        cases h3 : ((len : Int) == 0) with
        | false =>
          have HP := Lib.hid (show plain1 0 0 s len = false by unfold plain1; simp [h2, h3])
          rw [HP.out]
          clear HP
          unfold sEmpty at h2
          go_enter Tryz.func192, Tryz.ntmps192
          go_wp2_with fail
          refine (within_any _ _ _ _).mono ?_
          rintro e w1 ⟨rfl, rfl⟩
          rw [show decide ((0 : Int) ≤ 0 ∧ (0 : Int) ≤ 1) = true by decide]
          go_wp2_with fail
          go_ret
          exact ⟨rfl, below_new w _⟩
        | true =>
          have HP := Lib.hid (show plain1 0 0 s len = true by unfold plain1; simp [h2, h3])
          rw [HP.out]
          clear HP
          unfold sEmpty at h2
          go_enter Tryz.func192, Tryz.ntmps192
          go_wp2_with fail
          refine (within_any _ _ _ _).mono ?_
          rintro e w1 ⟨rfl, rfl⟩
          rw [show decide ((0 : Int) ≤ 0 ∧ (0 : Int) ≤ 1) = true by decide]
          go_wp2_with fail
          go_ret
          exact ⟨rfl, below_new w _⟩
    · have hSC : (sc == 0) = false := by simp [hsc]
      clear hsc
      have HP := Lib.hid (show plain1 0 sc s len = false by unfold plain1; simp [hSC])
      rw [HP.out]
      clear HP
      go_enter Tryz.func192, Tryz.ntmps192
      go_wp2_with fail
      refine (within_any _ _ _ _).mono ?_
      rintro e w1 ⟨rfl, rfl⟩
      rw [show decide ((0 : Int) ≤ 0 ∧ (0 : Int) ≤ 1) = true by decide]
      go_wp2_with fail
      go_ret
      exact ⟨rfl, below_new w _⟩
  · have hN : (n == 0) = false := by simp [hn]
    clear hn
    cases h0 : decide ((0 : Int) ≤ n ∧ n ≤ 1) with
    | false =>
      have HP := Lib.hid (show plain1 n sc s len = false by unfold plain1; simp [h0, hN])
      rw [HP.out]
      clear HP
      go_enter Tryz.func192, Tryz.ntmps192
      go_wp2_with fail
      refine (within_any _ _ _ _).mono ?_
      rintro e w1 ⟨rfl, rfl⟩
      rw [h0]
      go_wp2_with fail
      go_ret
      exact ⟨rfl, below_new w _⟩
    | true =>
      cases h1 : (sc == 0) with
      | false =>
        have HP := Lib.hid (show plain1 n sc s len = false by unfold plain1; simp [h0, h1, hN])
        rw [HP.out]
        clear HP
        go_enter Tryz.func192, Tryz.ntmps192
        go_wp2_with fail
        refine (within_any _ _ _ _).mono ?_
        rintro e w1 ⟨rfl, rfl⟩
        rw [h0]
        go_wp2_with fail
        go_ret
        exact ⟨rfl, below_new w _⟩
      | true =>
        cases h2 : sEmpty s with
        | false =>
          have HP := Lib.hid (show plain1 n sc s len = false by unfold plain1; simp [h0, h1, h2, hN])
          rw [HP.out]
          clear HP
          unfold sEmpty at h2
          go_enter Tryz.func192, Tryz.ntmps192
          go_wp2_with fail
          refine (within_any _ _ _ _).mono ?_
          rintro e w1 ⟨rfl, rfl⟩
          rw [h0]
          go_wp2_with fail
          go_ret
          exact ⟨rfl, below_new w _⟩
        | true =>
          cases h3 : ((len : Int) == 0) with
          | false =>
            have HP := Lib.hid (show plain1 n sc s len = false by unfold plain1; simp [h0, h1, h2, h3, hN])
            rw [HP.out]
            clear HP
            unfold sEmpty at h2
            go_enter Tryz.func192, Tryz.ntmps192
            go_wp2_with fail
            refine (within_any _ _ _ _).mono ?_
            rintro e w1 ⟨rfl, rfl⟩
            rw [h0]
            go_wp2_with fail
            go_ret
            exact ⟨rfl, below_new w _⟩
          | true =>
            have HP := Lib.hid (show plain1 n sc s len = true by unfold plain1; simp [h0, h1, h2, h3, hN])
            rw [HP.out]
            clear HP
            unfold sEmpty at h2
            go_enter Tryz.func192, Tryz.ntmps192
            go_wp2_with fail
            refine (within_any _ _ _ _).mono ?_
            rintro e w1 ⟨rfl, rfl⟩
            rw [h0]
            go_wp2_with fail
            go_ret
            exact ⟨rfl, below_new w _⟩

set_option maxHeartbeats 4000000 in
set_option maxRecDepth 100000 in
theorem plain_2 (n sc : Int) (s : ByteArray) (A : Option Addr) (len c : Nat) (w : World) :
    Calls Tryz.prog 192 #[.agg #[.int .i64 2, .int .i64 n, .int .i64 sc, .string s, .slice A len c]] w fun e w' => e = .returned (.bool (plain2 n sc s len)) ∧ Below w.heap.size w w' := by
  by_cases hn : n = 0
  · subst hn
    by_cases hsc : sc = 0
    · subst hsc
      cases h2 : sEmpty s with
      | false =>
        have HP := Lib.hid (show plain2 0 0 s len = false by unfold plain2; simp [h2])
        rw [HP.out]
        clear HP
        unfold sEmpty at h2
        go_enter Tryz.func192, Tryz.ntmps192
        go_wp2_with fail
        refine (within_any _ _ _ _).mono ?_
        rintro e w1 ⟨rfl, rfl⟩
        rw [show decide ((-999999999999999999 : Int) ≤ 0 ∧ (0 : Int) ≤ 999999999999999999) = true by decide]
        go_wp2_with fail
        go_ret
        exact ⟨rfl, below_new w _⟩
      | true =>
        cases h3 : ((len : Int) == 0) with
        | false =>
          have HP := Lib.hid (show plain2 0 0 s len = false by unfold plain2; simp [h2, h3])
          rw [HP.out]
          clear HP
          unfold sEmpty at h2
          go_enter Tryz.func192, Tryz.ntmps192
          go_wp2_with fail
          refine (within_any _ _ _ _).mono ?_
          rintro e w1 ⟨rfl, rfl⟩
          rw [show decide ((-999999999999999999 : Int) ≤ 0 ∧ (0 : Int) ≤ 999999999999999999) = true by decide]
          go_wp2_with fail
          go_ret
          exact ⟨rfl, below_new w _⟩
        | true =>
          have HP := Lib.hid (show plain2 0 0 s len = true by unfold plain2; simp [h2, h3])
          rw [HP.out]
          clear HP
          unfold sEmpty at h2
          go_enter Tryz.func192, Tryz.ntmps192
          go_wp2_with fail
          refine (within_any _ _ _ _).mono ?_
          rintro e w1 ⟨rfl, rfl⟩
          rw [show decide ((-999999999999999999 : Int) ≤ 0 ∧ (0 : Int) ≤ 999999999999999999) = true by decide]
          go_wp2_with fail
          go_ret
          exact ⟨rfl, below_new w _⟩
    · have hSC : (sc == 0) = false := by simp [hsc]
      clear hsc
      have HP := Lib.hid (show plain2 0 sc s len = false by unfold plain2; simp [hSC])
      rw [HP.out]
      clear HP
      go_enter Tryz.func192, Tryz.ntmps192
      go_wp2_with fail
      refine (within_any _ _ _ _).mono ?_
      rintro e w1 ⟨rfl, rfl⟩
      rw [show decide ((-999999999999999999 : Int) ≤ 0 ∧ (0 : Int) ≤ 999999999999999999) = true by decide]
      go_wp2_with fail
      go_ret
      exact ⟨rfl, below_new w _⟩
  · have hN : (n == 0) = false := by simp [hn]
    clear hn
    cases h0 : decide ((-999999999999999999 : Int) ≤ n ∧ n ≤ 999999999999999999) with
    | false =>
      have HP := Lib.hid (show plain2 n sc s len = false by unfold plain2; simp [h0, hN])
      rw [HP.out]
      clear HP
      go_enter Tryz.func192, Tryz.ntmps192
      go_wp2_with fail
      refine (within_any _ _ _ _).mono ?_
      rintro e w1 ⟨rfl, rfl⟩
      rw [h0]
      go_wp2_with fail
      go_ret
      exact ⟨rfl, below_new w _⟩
    | true =>
      cases h1 : (sc == 0) with
      | false =>
        have HP := Lib.hid (show plain2 n sc s len = false by unfold plain2; simp [h0, h1, hN])
        rw [HP.out]
        clear HP
        go_enter Tryz.func192, Tryz.ntmps192
        go_wp2_with fail
        refine (within_any _ _ _ _).mono ?_
        rintro e w1 ⟨rfl, rfl⟩
        rw [h0]
        go_wp2_with fail
        go_ret
        exact ⟨rfl, below_new w _⟩
      | true =>
        cases h2 : sEmpty s with
        | false =>
          have HP := Lib.hid (show plain2 n sc s len = false by unfold plain2; simp [h0, h1, h2, hN])
          rw [HP.out]
          clear HP
          unfold sEmpty at h2
          go_enter Tryz.func192, Tryz.ntmps192
          go_wp2_with fail
          refine (within_any _ _ _ _).mono ?_
          rintro e w1 ⟨rfl, rfl⟩
          rw [h0]
          go_wp2_with fail
          go_ret
          exact ⟨rfl, below_new w _⟩
        | true =>
          cases h3 : ((len : Int) == 0) with
          | false =>
            have HP := Lib.hid (show plain2 n sc s len = false by unfold plain2; simp [h0, h1, h2, h3, hN])
            rw [HP.out]
            clear HP
            unfold sEmpty at h2
            go_enter Tryz.func192, Tryz.ntmps192
            go_wp2_with fail
            refine (within_any _ _ _ _).mono ?_
            rintro e w1 ⟨rfl, rfl⟩
            rw [h0]
            go_wp2_with fail
            go_ret
            exact ⟨rfl, below_new w _⟩
          | true =>
            have HP := Lib.hid (show plain2 n sc s len = true by unfold plain2; simp [h0, h1, h2, h3, hN])
            rw [HP.out]
            clear HP
            unfold sEmpty at h2
            go_enter Tryz.func192, Tryz.ntmps192
            go_wp2_with fail
            refine (within_any _ _ _ _).mono ?_
            rintro e w1 ⟨rfl, rfl⟩
            rw [h0]
            go_wp2_with fail
            go_ret
            exact ⟨rfl, below_new w _⟩

set_option maxHeartbeats 4000000 in
set_option maxRecDepth 100000 in
theorem plain_3 (n sc : Int) (s : ByteArray) (A : Option Addr) (len c : Nat) (w : World) :
    Calls Tryz.prog 192 #[.agg #[.int .i64 3, .int .i64 n, .int .i64 sc, .string s, .slice A len c]] w fun e w' => e = .returned (.bool (plain3 n sc s len)) ∧ Below w.heap.size w w' := by
  by_cases hn : n = 0
  · subst hn
    by_cases hsc : sc = 0
    · subst hsc
      cases h2 : sEmpty s with
      | false =>
        have HP := Lib.hid (show plain3 0 0 s len = false by unfold plain3; simp [h2])
        rw [HP.out]
        clear HP
        unfold sEmpty at h2
        go_enter Tryz.func192, Tryz.ntmps192
        go_wp2_with fail
        refine (within_any _ _ _ _).mono ?_
        rintro e w1 ⟨rfl, rfl⟩
        rw [show decide ((-999999999999999999 : Int) ≤ 0 ∧ (0 : Int) ≤ 999999999999999999) = true by decide]
        go_wp2_with fail
        refine (within_any _ _ _ _).mono ?_
        rintro e w1 ⟨rfl, rfl⟩
        rw [show decide ((0 : Int) ≤ 0 ∧ (0 : Int) ≤ 12) = true by decide]
        go_wp2_with fail
        go_ret
        exact ⟨rfl, below_new w _⟩
      | true =>
        cases h3 : ((len : Int) == 0) with
        | false =>
          have HP := Lib.hid (show plain3 0 0 s len = false by unfold plain3; simp [h2, h3])
          rw [HP.out]
          clear HP
          unfold sEmpty at h2
          go_enter Tryz.func192, Tryz.ntmps192
          go_wp2_with fail
          refine (within_any _ _ _ _).mono ?_
          rintro e w1 ⟨rfl, rfl⟩
          rw [show decide ((-999999999999999999 : Int) ≤ 0 ∧ (0 : Int) ≤ 999999999999999999) = true by decide]
          go_wp2_with fail
          refine (within_any _ _ _ _).mono ?_
          rintro e w1 ⟨rfl, rfl⟩
          rw [show decide ((0 : Int) ≤ 0 ∧ (0 : Int) ≤ 12) = true by decide]
          go_wp2_with fail
          go_ret
          exact ⟨rfl, below_new w _⟩
        | true =>
          have HP := Lib.hid (show plain3 0 0 s len = true by unfold plain3; simp [h2, h3])
          rw [HP.out]
          clear HP
          unfold sEmpty at h2
          go_enter Tryz.func192, Tryz.ntmps192
          go_wp2_with fail
          refine (within_any _ _ _ _).mono ?_
          rintro e w1 ⟨rfl, rfl⟩
          rw [show decide ((-999999999999999999 : Int) ≤ 0 ∧ (0 : Int) ≤ 999999999999999999) = true by decide]
          go_wp2_with fail
          refine (within_any _ _ _ _).mono ?_
          rintro e w1 ⟨rfl, rfl⟩
          rw [show decide ((0 : Int) ≤ 0 ∧ (0 : Int) ≤ 12) = true by decide]
          go_wp2_with fail
          go_ret
          exact ⟨rfl, below_new w _⟩
    · have hSC : (sc == 0) = false := by simp [hsc]
      clear hsc
      cases h1 : decide ((0 : Int) ≤ sc ∧ sc ≤ 12) with
      | false =>
        have HP := Lib.hid (show plain3 0 sc s len = false by unfold plain3; simp [h1, hSC])
        rw [HP.out]
        clear HP
        go_enter Tryz.func192, Tryz.ntmps192
        go_wp2_with fail
        refine (within_any _ _ _ _).mono ?_
        rintro e w1 ⟨rfl, rfl⟩
        rw [show decide ((-999999999999999999 : Int) ≤ 0 ∧ (0 : Int) ≤ 999999999999999999) = true by decide]
        go_wp2_with fail
        refine (within_any _ _ _ _).mono ?_
        rintro e w1 ⟨rfl, rfl⟩
        rw [h1]
        go_wp2_with fail
        go_ret
        exact ⟨rfl, below_new w _⟩
      | true =>
        cases h2 : sEmpty s with
        | false =>
          have HP := Lib.hid (show plain3 0 sc s len = false by unfold plain3; simp [h1, h2, hSC])
          rw [HP.out]
          clear HP
          unfold sEmpty at h2
          go_enter Tryz.func192, Tryz.ntmps192
          go_wp2_with fail
          refine (within_any _ _ _ _).mono ?_
          rintro e w1 ⟨rfl, rfl⟩
          rw [show decide ((-999999999999999999 : Int) ≤ 0 ∧ (0 : Int) ≤ 999999999999999999) = true by decide]
          go_wp2_with fail
          refine (within_any _ _ _ _).mono ?_
          rintro e w1 ⟨rfl, rfl⟩
          rw [h1]
          go_wp2_with fail
          go_ret
          exact ⟨rfl, below_new w _⟩
        | true =>
          cases h3 : ((len : Int) == 0) with
          | false =>
            have HP := Lib.hid (show plain3 0 sc s len = false by unfold plain3; simp [h1, h2, h3, hSC])
            rw [HP.out]
            clear HP
            unfold sEmpty at h2
            go_enter Tryz.func192, Tryz.ntmps192
            go_wp2_with fail
            refine (within_any _ _ _ _).mono ?_
            rintro e w1 ⟨rfl, rfl⟩
            rw [show decide ((-999999999999999999 : Int) ≤ 0 ∧ (0 : Int) ≤ 999999999999999999) = true by decide]
            go_wp2_with fail
            refine (within_any _ _ _ _).mono ?_
            rintro e w1 ⟨rfl, rfl⟩
            rw [h1]
            go_wp2_with fail
            go_ret
            exact ⟨rfl, below_new w _⟩
          | true =>
            have HP := Lib.hid (show plain3 0 sc s len = true by unfold plain3; simp [h1, h2, h3, hSC])
            rw [HP.out]
            clear HP
            unfold sEmpty at h2
            go_enter Tryz.func192, Tryz.ntmps192
            go_wp2_with fail
            refine (within_any _ _ _ _).mono ?_
            rintro e w1 ⟨rfl, rfl⟩
            rw [show decide ((-999999999999999999 : Int) ≤ 0 ∧ (0 : Int) ≤ 999999999999999999) = true by decide]
            go_wp2_with fail
            refine (within_any _ _ _ _).mono ?_
            rintro e w1 ⟨rfl, rfl⟩
            rw [h1]
            go_wp2_with fail
            go_ret
            exact ⟨rfl, below_new w _⟩
  · have hN : (n == 0) = false := by simp [hn]
    clear hn
    cases h0 : decide ((-999999999999999999 : Int) ≤ n ∧ n ≤ 999999999999999999) with
    | false =>
      have HP := Lib.hid (show plain3 n sc s len = false by unfold plain3; simp [h0, hN])
      rw [HP.out]
      clear HP
      go_enter Tryz.func192, Tryz.ntmps192
      go_wp2_with fail
      refine (within_any _ _ _ _).mono ?_
      rintro e w1 ⟨rfl, rfl⟩
      rw [h0]
      go_wp2_with fail
      go_ret
      exact ⟨rfl, below_new w _⟩
    | true =>
      cases h1 : decide ((0 : Int) ≤ sc ∧ sc ≤ 12) with
      | false =>
        have HP := Lib.hid (show plain3 n sc s len = false by unfold plain3; simp [h0, h1, hN])
        rw [HP.out]
        clear HP
        go_enter Tryz.func192, Tryz.ntmps192
        go_wp2_with fail
        refine (within_any _ _ _ _).mono ?_
        rintro e w1 ⟨rfl, rfl⟩
        rw [h0]
        go_wp2_with fail
        refine (within_any _ _ _ _).mono ?_
        rintro e w1 ⟨rfl, rfl⟩
        rw [h1]
        go_wp2_with fail
        go_ret
        exact ⟨rfl, below_new w _⟩
      | true =>
        cases h2 : sEmpty s with
        | false =>
          have HP := Lib.hid (show plain3 n sc s len = false by unfold plain3; simp [h0, h1, h2, hN])
          rw [HP.out]
          clear HP
          unfold sEmpty at h2
          go_enter Tryz.func192, Tryz.ntmps192
          go_wp2_with fail
          refine (within_any _ _ _ _).mono ?_
          rintro e w1 ⟨rfl, rfl⟩
          rw [h0]
          go_wp2_with fail
          refine (within_any _ _ _ _).mono ?_
          rintro e w1 ⟨rfl, rfl⟩
          rw [h1]
          go_wp2_with fail
          go_ret
          exact ⟨rfl, below_new w _⟩
        | true =>
          cases h3 : ((len : Int) == 0) with
          | false =>
            have HP := Lib.hid (show plain3 n sc s len = false by unfold plain3; simp [h0, h1, h2, h3, hN])
            rw [HP.out]
            clear HP
            unfold sEmpty at h2
            go_enter Tryz.func192, Tryz.ntmps192
            go_wp2_with fail
            refine (within_any _ _ _ _).mono ?_
            rintro e w1 ⟨rfl, rfl⟩
            rw [h0]
            go_wp2_with fail
            refine (within_any _ _ _ _).mono ?_
            rintro e w1 ⟨rfl, rfl⟩
            rw [h1]
            go_wp2_with fail
            go_ret
            exact ⟨rfl, below_new w _⟩
          | true =>
            have HP := Lib.hid (show plain3 n sc s len = true by unfold plain3; simp [h0, h1, h2, h3, hN])
            rw [HP.out]
            clear HP
            unfold sEmpty at h2
            go_enter Tryz.func192, Tryz.ntmps192
            go_wp2_with fail
            refine (within_any _ _ _ _).mono ?_
            rintro e w1 ⟨rfl, rfl⟩
            rw [h0]
            go_wp2_with fail
            refine (within_any _ _ _ _).mono ?_
            rintro e w1 ⟨rfl, rfl⟩
            rw [h1]
            go_wp2_with fail
            go_ret
            exact ⟨rfl, below_new w _⟩

set_option maxHeartbeats 4000000 in
set_option maxRecDepth 100000 in
theorem plain_4 (n sc : Int) (s : ByteArray) (A : Option Addr) (len c : Nat) (w : World) (hs : s.size ≤ maxLen) (hT : Tabs w) :
    Calls Tryz.prog 192 #[.agg #[.int .i64 4, .int .i64 n, .int .i64 sc, .string s, .slice A len c]] w fun e w' => e = .returned (.bool (plain4 n sc s len)) ∧ Below w.heap.size w w' := by
  have HTX := Lib.hid (fun W (hW : Below w.heap.size w W) => text_any s hs W (hT.later hW))
  clear hT hs
  by_cases hn : n = 0
  · subst hn
    by_cases hsc : sc = 0
    · subst hsc
      cases h2 : textOk s with
      | false =>
        have HP := Lib.hid (show plain4 0 0 s len = false by unfold plain4; simp [h2])
        rw [HP.out]
        clear HP
        go_enter Tryz.func192, Tryz.ntmps192
        go_wp2_with fail
        refine (HTX.out _ (below_new w _)).mono ?_
        rintro e w1 ⟨rfl, hb⟩
        rw [h2]
        have q := wcell5 ((Blk.new w 33 [.int .i64 4, .int .i64 0, .int .i64 0, .string s, .slice A len c]).below hb (by simp))
        have hbb := (below_new w (.cells #[.int .i64 4, .int .i64 0, .int .i64 0, .string s, .slice A len c] 33)).trans (hb.mono (by simp))
        go_wp2_with fail
        go_ret
        exact ⟨rfl, hbb⟩
      | true =>
        cases h3 : ((len : Int) == 0) with
        | false =>
          have HP := Lib.hid (show plain4 0 0 s len = false by unfold plain4; simp [h2, h3])
          rw [HP.out]
          clear HP
          go_enter Tryz.func192, Tryz.ntmps192
          go_wp2_with fail
          refine (HTX.out _ (below_new w _)).mono ?_
          rintro e w1 ⟨rfl, hb⟩
          rw [h2]
          have q := wcell5 ((Blk.new w 33 [.int .i64 4, .int .i64 0, .int .i64 0, .string s, .slice A len c]).below hb (by simp))
          have hbb := (below_new w (.cells #[.int .i64 4, .int .i64 0, .int .i64 0, .string s, .slice A len c] 33)).trans (hb.mono (by simp))
          go_wp2_with fail
          go_ret
          exact ⟨rfl, hbb⟩
        | true =>
          have HP := Lib.hid (show plain4 0 0 s len = true by unfold plain4; simp [h2, h3])
          rw [HP.out]
          clear HP
          go_enter Tryz.func192, Tryz.ntmps192
          go_wp2_with fail
          refine (HTX.out _ (below_new w _)).mono ?_
          rintro e w1 ⟨rfl, hb⟩
          rw [h2]
          have q := wcell5 ((Blk.new w 33 [.int .i64 4, .int .i64 0, .int .i64 0, .string s, .slice A len c]).below hb (by simp))
          have hbb := (below_new w (.cells #[.int .i64 4, .int .i64 0, .int .i64 0, .string s, .slice A len c] 33)).trans (hb.mono (by simp))
          go_wp2_with fail
          go_ret
          exact ⟨rfl, hbb⟩
    · have hSC : (sc == 0) = false := by simp [hsc]
      clear hsc
      have HP := Lib.hid (show plain4 0 sc s len = false by unfold plain4; simp [hSC])
      rw [HP.out]
      clear HP
      go_enter Tryz.func192, Tryz.ntmps192
      go_wp2_with fail
      go_ret
      exact ⟨rfl, below_new w _⟩
  · have hN : (n == 0) = false := by simp [hn]
    clear hn
    have HP := Lib.hid (show plain4 n sc s len = false by unfold plain4; simp [hN])
    rw [HP.out]
    clear HP
    go_enter Tryz.func192, Tryz.ntmps192
    go_wp2_with fail
    go_ret
    exact ⟨rfl, below_new w _⟩

set_option maxHeartbeats 4000000 in
set_option maxRecDepth 100000 in
theorem plain_5 (n sc : Int) (s : ByteArray) (A : Option Addr) (len c : Nat) (w : World) :
    Calls Tryz.prog 192 #[.agg #[.int .i64 5, .int .i64 n, .int .i64 sc, .string s, .slice A len c]] w fun e w' => e = .returned (.bool (plain5 n sc s len)) ∧ Below w.heap.size w w' := by
  by_cases hn : n = 0
  · subst hn
    by_cases hsc : sc = 0
    · subst hsc
      cases h2 : sEmpty s with
      | false =>
        have HP := Lib.hid (show plain5 0 0 s len = false by unfold plain5; simp [h2])
        rw [HP.out]
        clear HP
        unfold sEmpty at h2
        go_enter Tryz.func192, Tryz.ntmps192
        go_wp2_with fail
        refine (within_any _ _ _ _).mono ?_
        rintro e w1 ⟨rfl, rfl⟩
        rw [show decide ((-62135596800 : Int) ≤ 0 ∧ (0 : Int) ≤ 253402300799) = true by decide]
        go_wp2_with fail
        go_ret
        exact ⟨rfl, below_new w _⟩
      | true =>
        cases h3 : ((len : Int) == 0) with
        | false =>
          have HP := Lib.hid (show plain5 0 0 s len = false by unfold plain5; simp [h2, h3])
          rw [HP.out]
          clear HP
          unfold sEmpty at h2
          go_enter Tryz.func192, Tryz.ntmps192
          go_wp2_with fail
          refine (within_any _ _ _ _).mono ?_
          rintro e w1 ⟨rfl, rfl⟩
          rw [show decide ((-62135596800 : Int) ≤ 0 ∧ (0 : Int) ≤ 253402300799) = true by decide]
          go_wp2_with fail
          go_ret
          exact ⟨rfl, below_new w _⟩
        | true =>
          have HP := Lib.hid (show plain5 0 0 s len = true by unfold plain5; simp [h2, h3])
          rw [HP.out]
          clear HP
          unfold sEmpty at h2
          go_enter Tryz.func192, Tryz.ntmps192
          go_wp2_with fail
          refine (within_any _ _ _ _).mono ?_
          rintro e w1 ⟨rfl, rfl⟩
          rw [show decide ((-62135596800 : Int) ≤ 0 ∧ (0 : Int) ≤ 253402300799) = true by decide]
          go_wp2_with fail
          go_ret
          exact ⟨rfl, below_new w _⟩
    · have hSC : (sc == 0) = false := by simp [hsc]
      clear hsc
      have HP := Lib.hid (show plain5 0 sc s len = false by unfold plain5; simp [hSC])
      rw [HP.out]
      clear HP
      go_enter Tryz.func192, Tryz.ntmps192
      go_wp2_with fail
      refine (within_any _ _ _ _).mono ?_
      rintro e w1 ⟨rfl, rfl⟩
      rw [show decide ((-62135596800 : Int) ≤ 0 ∧ (0 : Int) ≤ 253402300799) = true by decide]
      go_wp2_with fail
      go_ret
      exact ⟨rfl, below_new w _⟩
  · have hN : (n == 0) = false := by simp [hn]
    clear hn
    cases h0 : decide ((-62135596800 : Int) ≤ n ∧ n ≤ 253402300799) with
    | false =>
      have HP := Lib.hid (show plain5 n sc s len = false by unfold plain5; simp [h0, hN])
      rw [HP.out]
      clear HP
      go_enter Tryz.func192, Tryz.ntmps192
      go_wp2_with fail
      refine (within_any _ _ _ _).mono ?_
      rintro e w1 ⟨rfl, rfl⟩
      rw [h0]
      go_wp2_with fail
      go_ret
      exact ⟨rfl, below_new w _⟩
    | true =>
      cases h1 : (sc == 0) with
      | false =>
        have HP := Lib.hid (show plain5 n sc s len = false by unfold plain5; simp [h0, h1, hN])
        rw [HP.out]
        clear HP
        go_enter Tryz.func192, Tryz.ntmps192
        go_wp2_with fail
        refine (within_any _ _ _ _).mono ?_
        rintro e w1 ⟨rfl, rfl⟩
        rw [h0]
        go_wp2_with fail
        go_ret
        exact ⟨rfl, below_new w _⟩
      | true =>
        cases h2 : sEmpty s with
        | false =>
          have HP := Lib.hid (show plain5 n sc s len = false by unfold plain5; simp [h0, h1, h2, hN])
          rw [HP.out]
          clear HP
          unfold sEmpty at h2
          go_enter Tryz.func192, Tryz.ntmps192
          go_wp2_with fail
          refine (within_any _ _ _ _).mono ?_
          rintro e w1 ⟨rfl, rfl⟩
          rw [h0]
          go_wp2_with fail
          go_ret
          exact ⟨rfl, below_new w _⟩
        | true =>
          cases h3 : ((len : Int) == 0) with
          | false =>
            have HP := Lib.hid (show plain5 n sc s len = false by unfold plain5; simp [h0, h1, h2, h3, hN])
            rw [HP.out]
            clear HP
            unfold sEmpty at h2
            go_enter Tryz.func192, Tryz.ntmps192
            go_wp2_with fail
            refine (within_any _ _ _ _).mono ?_
            rintro e w1 ⟨rfl, rfl⟩
            rw [h0]
            go_wp2_with fail
            go_ret
            exact ⟨rfl, below_new w _⟩
          | true =>
            have HP := Lib.hid (show plain5 n sc s len = true by unfold plain5; simp [h0, h1, h2, h3, hN])
            rw [HP.out]
            clear HP
            unfold sEmpty at h2
            go_enter Tryz.func192, Tryz.ntmps192
            go_wp2_with fail
            refine (within_any _ _ _ _).mono ?_
            rintro e w1 ⟨rfl, rfl⟩
            rw [h0]
            go_wp2_with fail
            go_ret
            exact ⟨rfl, below_new w _⟩

set_option maxHeartbeats 4000000 in
set_option maxRecDepth 100000 in
theorem plain_6 (n sc : Int) (s : ByteArray) (A : Option Addr) (len c : Nat) (w : World) :
    Calls Tryz.prog 192 #[.agg #[.int .i64 6, .int .i64 n, .int .i64 sc, .string s, .slice A len c]] w fun e w' => e = .returned (.bool (plain6 n sc s len)) ∧ Below w.heap.size w w' := by
  by_cases hn : n = 0
  · subst hn
    by_cases hsc : sc = 0
    · subst hsc
      cases h2 : sEmpty s with
      | false =>
        have HP := Lib.hid (show plain6 0 0 s len = false by unfold plain6; simp [h2])
        rw [HP.out]
        clear HP
        unfold sEmpty at h2
        go_enter Tryz.func192, Tryz.ntmps192
        go_wp2_with fail
        go_ret
        exact ⟨rfl, below_new w _⟩
      | true =>
        cases h3 : decide ((len : Int) ≤ 64) with
        | false =>
          have HP := Lib.hid (show plain6 0 0 s len = false by unfold plain6; simp [h2, h3])
          rw [HP.out]
          clear HP
          unfold sEmpty at h2
          go_enter Tryz.func192, Tryz.ntmps192
          go_wp2_with fail
          go_ret
          exact ⟨rfl, below_new w _⟩
        | true =>
          have HP := Lib.hid (show plain6 0 0 s len = true by unfold plain6; simp [h2, h3])
          rw [HP.out]
          clear HP
          unfold sEmpty at h2
          go_enter Tryz.func192, Tryz.ntmps192
          go_wp2_with fail
          go_ret
          exact ⟨rfl, below_new w _⟩
    · have hSC : (sc == 0) = false := by simp [hsc]
      clear hsc
      have HP := Lib.hid (show plain6 0 sc s len = false by unfold plain6; simp [hSC])
      rw [HP.out]
      clear HP
      go_enter Tryz.func192, Tryz.ntmps192
      go_wp2_with fail
      go_ret
      exact ⟨rfl, below_new w _⟩
  · have hN : (n == 0) = false := by simp [hn]
    clear hn
    have HP := Lib.hid (show plain6 n sc s len = false by unfold plain6; simp [hN])
    rw [HP.out]
    clear HP
    go_enter Tryz.func192, Tryz.ntmps192
    go_wp2_with fail
    go_ret
    exact ⟨rfl, below_new w _⟩

set_option maxHeartbeats 4000000 in
set_option maxRecDepth 100000 in
theorem plain_7 (n sc : Int) (s : ByteArray) (A : Option Addr) (len c : Nat) (w : World) :
    Calls Tryz.prog 192 #[.agg #[.int .i64 7, .int .i64 n, .int .i64 sc, .string s, .slice A len c]] w fun e w' => e = .returned (.bool (plain7 n sc s len)) ∧ Below w.heap.size w w' := by
  by_cases hn : n = 0
  · subst hn
    by_cases hsc : sc = 0
    · subst hsc
      cases h2 : sEmpty s with
      | false =>
        have HP := Lib.hid (show plain7 0 0 s len = false by unfold plain7; simp [h2])
        rw [HP.out]
        clear HP
        unfold sEmpty at h2
        go_enter Tryz.func192, Tryz.ntmps192
        go_wp2_with fail
        go_ret
        exact ⟨rfl, below_new w _⟩
      | true =>
        cases h3 : decide (0 < len) with
        | false =>
          have HP := Lib.hid (show plain7 0 0 s len = false by unfold plain7; simp [h2, h3])
          rw [HP.out]
          clear HP
          unfold sEmpty at h2
          go_enter Tryz.func192, Tryz.ntmps192
          go_wp2_with fail
          go_ret
          exact ⟨rfl, below_new w _⟩
        | true =>
          have HP := Lib.hid (show plain7 0 0 s len = true by unfold plain7; simp [h2, h3])
          rw [HP.out]
          clear HP
          unfold sEmpty at h2
          go_enter Tryz.func192, Tryz.ntmps192
          go_wp2_with fail
          go_ret
          exact ⟨rfl, below_new w _⟩
    · have hSC : (sc == 0) = false := by simp [hsc]
      clear hsc
      have HP := Lib.hid (show plain7 0 sc s len = false by unfold plain7; simp [hSC])
      rw [HP.out]
      clear HP
      go_enter Tryz.func192, Tryz.ntmps192
      go_wp2_with fail
      go_ret
      exact ⟨rfl, below_new w _⟩
  · have hN : (n == 0) = false := by simp [hn]
    clear hn
    have HP := Lib.hid (show plain7 n sc s len = false by unfold plain7; simp [hN])
    rw [HP.out]
    clear HP
    go_enter Tryz.func192, Tryz.ntmps192
    go_wp2_with fail
    go_ret
    exact ⟨rfl, below_new w _⟩

set_option maxHeartbeats 1000000 in
theorem plain_none (k n sc : Int) (s : ByteArray) (A : Option Addr) (len c : Nat) (w : World) (h0 : (k == 0) = false) (h1 : (k == 1) = false) (h2 : (k == 2) = false) (h3 : (k == 3) = false) (h4 : (k == 4) = false) (h5 : (k == 5) = false) (h6 : (k == 6) = false) (h7 : (k == 7) = false) :
    Calls Tryz.prog 192 #[.agg #[.int .i64 k, .int .i64 n, .int .i64 sc, .string s, .slice A len c]] w fun e w' => e = .returned (.bool false) ∧ Below w.heap.size w w' := by
  by_cases hn : n = 0
  · subst hn
    by_cases hsc : sc = 0
    · subst hsc
      go_enter Tryz.func192, Tryz.ntmps192
      go_wp2_with fail
      go_ret
      exact ⟨rfl, below_new w _⟩
    · have hSC : (sc == 0) = false := by simp [hsc]
      clear hsc
      go_enter Tryz.func192, Tryz.ntmps192
      go_wp2_with fail
      go_ret
      exact ⟨rfl, below_new w _⟩
  · have hN : (n == 0) = false := by simp [hn]
    clear hn
    go_enter Tryz.func192, Tryz.ntmps192
    go_wp2_with fail
    go_ret
    exact ⟨rfl, below_new w _⟩
theorem plain_any (k n sc : Int) (s : ByteArray) (A : Option Addr) (len c : Nat) (w : World) (hs : s.size ≤ maxLen) (hT : Tabs w) :
    Calls Tryz.prog 192 #[.agg #[.int .i64 k, .int .i64 n, .int .i64 sc, .string s, .slice A len c]] w fun e w' => e = .returned (.bool (plainF k n sc s len)) ∧ Below w.heap.size w w' := by
  by_cases h0 : k = 0
  · subst h0
    exact plain_0 n sc s A len c w
  by_cases h1 : k = 1
  · subst h1
    exact plain_1 n sc s A len c w
  by_cases h2 : k = 2
  · subst h2
    exact plain_2 n sc s A len c w
  by_cases h3 : k = 3
  · subst h3
    exact plain_3 n sc s A len c w
  by_cases h4 : k = 4
  · subst h4
    exact plain_4 n sc s A len c w hs hT
  by_cases h5 : k = 5
  · subst h5
    exact plain_5 n sc s A len c w
  by_cases h6 : k = 6
  · subst h6
    exact plain_6 n sc s A len c w
  by_cases h7 : k = 7
  · subst h7
    exact plain_7 n sc s A len c w
  have e : plainF k n sc s len = false := by unfold plainF; simp [h0, h1, h2, h3, h4, h5, h6, h7]
  rw [e]
  exact plain_none k n sc s A len c w (by simp [h0]) (by simp [h1]) (by simp [h2]) (by simp [h3]) (by simp [h4]) (by simp [h5]) (by simp [h6]) (by simp [h7])
end Go.Proofs.YthejmnmkbldacaaGreatDoor
