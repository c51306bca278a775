/-
  What is proved: which texts the reference takes for sound: those that package value takes for sound. Conditions: the tables of unicode/utf8 lie as they are laid.
  What is proved: what of a value the reference takes for plain: what package value takes for it. Conditions: the tables of unicode/utf8 lie as they are laid.
  What is proved: which values and rows the reference takes for sound: those that the program takes. Conditions: the tables of unicode/utf8 lie as they are laid.
-/
import Derived.Test.YthejmnmkbldacaaGreatDoorGm19
import Derived.Test.YthejmnmkbldacaaGreatDoorGm20
import Derived.Test.YthejmnmkbldacaaGreatDoorGm09
import Derived.Test.YthejmnmkbldacaaGreatDoorGm21
set_option linter.all false
namespace Go.Proofs.YthejmnmkbldacaaGreatDoor
open Go.RowKit
attribute [local go_sem] Tab.Env.ev Tab.Env.get

theorem get_bang (s : ByteArray) (i : Nat) (h : i < s.size) : s.get! i = s[i]'h := by
  simp [ByteArray.get!, getElem!_pos, h]
  rfl
theorem decode_mid (s : ByteArray) (pos : Nat) (h : pos < s.size) (ha : 128 ≤ (s[pos]'h).toNat) (k : Nat) (h2 : k < (Utf8.decode s pos).2) (hi : pos + k < s.size) : 128 ≤ (s[pos + k]'hi).toNat := by
  rw [← get_bang s (pos + k) hi]
  have hn : ¬ (s[pos]'h).toNat < 128 := by omega
  have h0 : 128 ≤ (s.get! (pos + 0)).toNat := by rw [get_at s pos h]; exact ha
  match k, h2 with
  | 0, _ => exact h0
  | 1, h2 =>
    simp only [Utf8.decode, get_at s pos h, hn, if_false] at h2
    revert h2
    repeat' split
    all_goals simp_all
    all_goals omega
  | 2, h2 =>
    simp only [Utf8.decode, get_at s pos h, hn, if_false] at h2
    revert h2
    repeat' split
    all_goals simp_all
    all_goals omega
  | 3, h2 =>
    simp only [Utf8.decode, get_at s pos h, hn, if_false] at h2
    revert h2
    repeat' split
    all_goals simp_all
    all_goals omega
  | k + 4, h2 =>
    exfalso
    simp only [Utf8.decode, get_at s pos h, hn, if_false] at h2
    revert h2
    repeat' split
    all_goals simp_all
    all_goals omega
def badB (b : UInt8) : Prop := b.toNat < 32 ∨ b.toNat = 127
theorem ctl_iff (s : ByteArray) : ∀ b pos, s.size ≤ pos + b → (ctl s b pos = true ↔ ∃ i, ∃ h : i < s.size, pos ≤ i ∧ badB (s[i]'h))
  | 0, pos, hb => by
    simp only [ctl]
    constructor
    · intro h; cases h
    · rintro ⟨i, h, h1, _⟩; omega
  | b + 1, pos, hb => by
    rw [ctl]
    by_cases hp : pos < s.size
    · rw [if_pos hp]
      have hw := width_pos s pos hp
      by_cases ha : (s[pos]'hp).toNat < 128
      · rw [decode_ascii s pos hp ha]
        dsimp only
        by_cases hbad : badB s[pos]
        · rw [if_pos (show (s[pos]'hp).toNat < 32 ∨ (s[pos]'hp).toNat = 127 from hbad)]
          exact ⟨fun _ => ⟨pos, hp, Nat.le_refl _, hbad⟩, fun _ => rfl⟩
        · rw [if_neg (show ¬ ((s[pos]'hp).toNat < 32 ∨ (s[pos]'hp).toNat = 127) from hbad)]
          rw [ctl_iff s b (pos + 1) (by omega)]
          constructor
          · rintro ⟨i, h, h1, h2⟩; exact ⟨i, h, by omega, h2⟩
          · rintro ⟨i, h, h1, h2⟩
            refine ⟨i, h, ?_, h2⟩
            rcases Nat.lt_or_eq_of_le h1 with h1 | rfl
            · omega
            · exact absurd h2 hbad
      · have hh := decode_high s pos hp (by omega)
        rw [if_neg (by omega), ctl_iff s b _ (by omega)]
        constructor
        · rintro ⟨i, h, h1, h2⟩; exact ⟨i, h, by omega, h2⟩
        · rintro ⟨i, h, h1, h2⟩
          refine ⟨i, h, ?_, h2⟩
          refine Classical.byContradiction fun hlt => ?_
          obtain ⟨k, rfl⟩ : ∃ k, i = pos + k := ⟨i - pos, by omega⟩
          have := decode_mid s pos hp (by omega) k (by omega) h
          rcases h2 with h2 | h2 <;> omega
    · rw [if_neg hp]
      constructor
      · intro h; cases h
      · rintro ⟨i, h, h1, _⟩; omega
theorem textOk_eq (s : ByteArray) (h1 : s.size ≤ 256) (h2 : Lib.validD s.data.toList = true) (h3 : ∀ i (h : i < s.size), ¬ badB (s[i]'h)) : textOk s = true := by
  unfold textOk
  have e : ctl s s.size 0 = false := by
    cases hc : ctl s s.size 0 with
    | false => rfl
    | true =>
      obtain ⟨i, h, _, hb⟩ := (ctl_iff s s.size 0 (by omega)).1 hc
      exact absurd hb (h3 i h)
  rw [decide_eq_true h1, h2, e]
  rfl
theorem textOk_bad (s : ByteArray) (i : Nat) (h : i < s.size) (hb : badB (s[i]'h)) : textOk s = false := by
  unfold textOk
  have e : ctl s s.size 0 = true := (ctl_iff s s.size 0 (by omega)).2 ⟨i, h, Nat.zero_le _, hb⟩
  rw [e]
  simp
theorem textOk_long (s : ByteArray) (h : 256 < s.size) : textOk s = false := by
  unfold textOk
  rw [decide_eq_false (by omega)]
  rfl
theorem textOk_invalid (s : ByteArray) (h : Lib.validD s.data.toList = false) : textOk s = false := by
  unfold textOk
  rw [h]
  simp

set_option maxHeartbeats 1000000 in
theorem characters_any (s : ByteArray) (hs : s.size ≤ maxLen) (w : World) (hT : Tabs w) :
    Calls Tryz.prog 154 #[.string s] w fun e w' => e = .returned (.bool (textOk s)) ∧ Below w.heap.size w w' := by
  unfold maxLen at hs
  have HV := Lib.hid (validString_lies s w (by omega) hT)
  clear hT
  cases hV : Lib.validD s.data.toList with
  | false =>
    have HR := Lib.hid (textOk_invalid s hV)
    rw [hV] at HV
    rw [HR.out]
    clear hV
    go_enter Tryz.func154, Tryz.ntmps154
    go_wp2_with fail
    refine HV.out.mono ?_
    rintro e w1 ⟨rfl, hb⟩
    go_wp2_with fail
    go_ret
    exact ⟨rfl, hb⟩
  | true =>
    rw [hV] at HV
    have HVV := Lib.hid hV
    clear hV
    by_cases h256 : s.size ≤ 256
    · have hd : decide ((256 : Int) < (s.size : Int)) = false := by simp; omega
      go_enter Tryz.func154, Tryz.ntmps154
      go_wp2_with fail
      refine HV.out.mono ?_
      rintro e w1 ⟨rfl, hb⟩
      have HB := Lib.hid hb
      clear HV hb
      go_wp2_with fail
      go_loop [2, 3] (fun _ i => ∃ k : Nat, k ≤ s.size ∧ i = .int .i64 k ∧ Hid (∀ j (h : j < s.size), j < k → ¬ badB (s[j]'h))) (fun _ i => s.size - (intOf i).toNat)
      case atStart => exact ⟨0, Nat.zero_le _, rfl, Lib.hid fun j _ h => absurd h (Nat.not_lt_zero j)⟩
      case round =>
        obtain ⟨k, hk, rfl, HJ⟩ := hrel
        by_cases hlt : k < s.size
        · by_cases hbad : badB s[k]
          · have HRES := Lib.hid (textOk_bad s k hlt hbad)
            unfold badB at hbad
            by_cases h1 : s[k].toNat < 32
            · have hd1 : decide ((s[k].toNat : Int) < 32) = true := by simp; omega
              clear hbad
              go_wp2_with fail
              go_ret
              exact ⟨ret_bool HRES.out.symm, HB.out⟩
            · have hd1 : decide ((s[k].toNat : Int) < 32) = false := by simp; omega
              have hd2 : ((s[k].toNat : Int) == 127) = true := by simp; omega
              clear hbad
              go_wp2_with fail
              go_ret
              exact ⟨ret_bool HRES.out.symm, HB.out⟩
          · have HJ2 := Lib.hid (show ∀ j (h : j < s.size), j < k + 1 → ¬ badB (s[j]'h) from fun j h hj => by
              by_cases hjk : j < k
              · exact HJ.out j h hjk
              · obtain rfl : j = k := by omega
                exact hbad)
            unfold badB at hbad
            have hd1 : decide ((s[k].toNat : Int) < 32) = false := by simp; omega
            have hd2 : ((s[k].toNat : Int) == 127) = false := by simp; omega
            clear hbad
            go_wp2_with fail
            go_round
            case rel => exact ⟨k + 1, hlt, by go_num, HJ2⟩
            case measure => simp [intOf]; omega
        · obtain rfl : k = s.size := by omega
          have HRES := Lib.hid (textOk_eq s h256 HVV.out fun i h => HJ.out i h h)
          go_wp2_with fail
          go_ret
          exact ⟨ret_bool HRES.out.symm, HB.out⟩
    · have hd : decide ((256 : Int) < (s.size : Int)) = true := by simp; omega
      have HR := Lib.hid (textOk_long s (by omega))
      rw [HR.out]
      clear h256
      go_enter Tryz.func154, Tryz.ntmps154
      go_wp2_with fail
      refine HV.out.mono ?_
      rintro e w1 ⟨rfl, hb⟩
      go_wp2_with fail
      go_ret
      exact ⟨rfl, hb⟩
end Go.Proofs.YthejmnmkbldacaaGreatDoor

namespace Go.Proofs.YthejmnmkbldacaaGreatDoor
open Go.RowKit
attribute [local go_sem] Tab.Env.ev Tab.Env.get

set_option maxHeartbeats 4000000 in
set_option maxRecDepth 100000 in
theorem alone_0 (n sc : Int) (s : ByteArray) (A : Option Addr) (len c : Nat) (w : World) :
    Calls Tryz.prog 118 #[.agg #[.int .i64 0, .int .i64 n, .int .i64 sc, .string s, .slice A len c]] w fun e w' => e = .returned (.bool (plain0 n sc s len)) ∧ Below w.heap.size w w' := by
  obtain ⟨r, hr⟩ : ∃ r, plain0 n sc s len = r := ⟨_, rfl⟩
  rw [hr]
  have HP := Lib.hid hr
  clear hr
  unfold plain0 at HP
  cases h0 : sEmpty s <;> cases h1 : ((len : Int) == 0) <;> cases h2 : (n == 0) <;> cases h3 : (sc == 0) <;>
  (
    rw [h0, h1, h2, h3] at HP
    unfold sEmpty at h0
    go_enter Tryz.func118, Tryz.ntmps118
    go_wp2_with fail
    go_ret
    exact ⟨ret_bool (by rw [← HP.out]; rfl), below_new w _⟩
  )

set_option maxHeartbeats 4000000 in
set_option maxRecDepth 100000 in
theorem alone_1 (n sc : Int) (s : ByteArray) (A : Option Addr) (len c : Nat) (w : World) :
    Calls Tryz.prog 118 #[.agg #[.int .i64 1, .int .i64 n, .int .i64 sc, .string s, .slice A len c]] w fun e w' => e = .returned (.bool (plain1 n sc s len)) ∧ Below w.heap.size w w' := by
  obtain ⟨r, hr⟩ : ∃ r, plain1 n sc s len = r := ⟨_, rfl⟩
  rw [hr]
  have HP := Lib.hid hr
  clear hr
  unfold plain1 at HP
  cases h0 : sEmpty s <;> cases h1 : ((len : Int) == 0) <;> cases h2 : decide ((0 : Int) ≤ n ∧ n ≤ 1) <;> cases h3 : (sc == 0) <;>
  (
    rw [h0, h1, h2, h3] at HP
    unfold sEmpty at h0
    go_enter Tryz.func118, Tryz.ntmps118
    go_wp2_with fail
    (try (refine (withinR_any _ _ _ _).mono ?_; rintro e w1 ⟨rfl, rfl⟩; rw [h2]; go_wp2_with fail))
    go_ret
    exact ⟨ret_bool (by rw [← HP.out]; rfl), below_new w _⟩
  )

set_option maxHeartbeats 4000000 in
set_option maxRecDepth 100000 in
theorem alone_2 (n sc : Int) (s : ByteArray) (A : Option Addr) (len c : Nat) (w : World) :
    Calls Tryz.prog 118 #[.agg #[.int .i64 2, .int .i64 n, .int .i64 sc, .string s, .slice A len c]] w fun e w' => e = .returned (.bool (plain2 n sc s len)) ∧ Below w.heap.size w w' := by
  obtain ⟨r, hr⟩ : ∃ r, plain2 n sc s len = r := ⟨_, rfl⟩
  rw [hr]
  have HP := Lib.hid hr
  clear hr
  unfold plain2 at HP
  cases h0 : sEmpty s <;> cases h1 : ((len : Int) == 0) <;> cases h2 : decide ((-999999999999999999 : Int) ≤ n ∧ n ≤ 999999999999999999) <;> cases h3 : (sc == 0) <;>
  (
    rw [h0, h1, h2, h3] at HP
    unfold sEmpty at h0
    go_enter Tryz.func118, Tryz.ntmps118
    go_wp2_with fail
    (try (refine (withinR_any _ _ _ _).mono ?_; rintro e w1 ⟨rfl, rfl⟩; rw [h2]; go_wp2_with fail))
    go_ret
    exact ⟨ret_bool (by rw [← HP.out]; rfl), below_new w _⟩
  )

set_option maxHeartbeats 4000000 in
set_option maxRecDepth 100000 in
theorem alone_3 (n sc : Int) (s : ByteArray) (A : Option Addr) (len c : Nat) (w : World) :
    Calls Tryz.prog 118 #[.agg #[.int .i64 3, .int .i64 n, .int .i64 sc, .string s, .slice A len c]] w fun e w' => e = .returned (.bool (plain3 n sc s len)) ∧ Below w.heap.size w w' := by
  obtain ⟨r, hr⟩ : ∃ r, plain3 n sc s len = r := ⟨_, rfl⟩
  rw [hr]
  have HP := Lib.hid hr
  clear hr
  unfold plain3 at HP
  cases h0 : sEmpty s <;> cases h1 : ((len : Int) == 0) <;> cases h2 : decide ((-999999999999999999 : Int) ≤ n ∧ n ≤ 999999999999999999) <;> cases h3 : decide ((0 : Int) ≤ sc ∧ sc ≤ 12) <;>
  (
    rw [h0, h1, h2, h3] at HP
    unfold sEmpty at h0
    go_enter Tryz.func118, Tryz.ntmps118
    go_wp2_with fail
    (try (refine (withinR_any _ _ _ _).mono ?_; rintro e w1 ⟨rfl, rfl⟩; rw [h2]; go_wp2_with fail))
    (try (refine (withinR_any _ _ _ _).mono ?_; rintro e w1 ⟨rfl, rfl⟩; rw [h3]; go_wp2_with fail))
    go_ret
    exact ⟨ret_bool (by rw [← HP.out]; rfl), below_new w _⟩
  )

set_option maxHeartbeats 4000000 in
set_option maxRecDepth 100000 in
theorem alone_4 (n sc : Int) (s : ByteArray) (A : Option Addr) (len c : Nat) (w : World) (hs : s.size ≤ maxLen) (hT : Tabs w) :
    Calls Tryz.prog 118 #[.agg #[.int .i64 4, .int .i64 n, .int .i64 sc, .string s, .slice A len c]] w fun e w' => e = .returned (.bool (plain4 n sc s len)) ∧ Below w.heap.size w w' := by
  obtain ⟨r, hr⟩ : ∃ r, plain4 n sc s len = r := ⟨_, rfl⟩
  rw [hr]
  have HP := Lib.hid hr
  clear hr
  have HX := Lib.hid (fun W (hW : Below w.heap.size w W) => characters_any s hs W (hT.later hW))
  clear hT hs
  unfold plain4 at HP
  cases h0 : sEmpty s <;> cases h1 : ((len : Int) == 0) <;> cases h2 : (n == 0) <;> cases h3 : (sc == 0) <;> cases h4 : textOk s <;>
  (
    rw [h1, h2, h3, h4] at HP
    unfold sEmpty at h0
    go_enter Tryz.func118, Tryz.ntmps118
    go_wp2_with fail
    (try (refine (HX.out _ (below_new w _)).mono ?_; rintro e w1 ⟨rfl, hb⟩; rw [h4]; have hbb := Lib.hid ((below_new w (.cells #[.int .i64 4, .int .i64 n, .int .i64 sc, .string s, .slice A len c] 33)).trans (hb.mono (by simp))); clear hb; go_wp2_with fail))
    go_ret
    exact ⟨ret_bool (by rw [← HP.out]; rfl), by first | exact below_new w _ | exact hbb.out⟩
  )

set_option maxHeartbeats 4000000 in
set_option maxRecDepth 100000 in
theorem alone_5 (n sc : Int) (s : ByteArray) (A : Option Addr) (len c : Nat) (w : World) :
    Calls Tryz.prog 118 #[.agg #[.int .i64 5, .int .i64 n, .int .i64 sc, .string s, .slice A len c]] w fun e w' => e = .returned (.bool (plain5 n sc s len)) ∧ Below w.heap.size w w' := by
  obtain ⟨r, hr⟩ : ∃ r, plain5 n sc s len = r := ⟨_, rfl⟩
  rw [hr]
  have HP := Lib.hid hr
  clear hr
  unfold plain5 at HP
  cases h0 : sEmpty s <;> cases h1 : ((len : Int) == 0) <;> cases h2 : decide ((-62135596800 : Int) ≤ n ∧ n ≤ 253402300799) <;> cases h3 : (sc == 0) <;>
  (
    rw [h0, h1, h2, h3] at HP
    unfold sEmpty at h0
    go_enter Tryz.func118, Tryz.ntmps118
    go_wp2_with fail
    (try (refine (withinR_any _ _ _ _).mono ?_; rintro e w1 ⟨rfl, rfl⟩; rw [h2]; go_wp2_with fail))
    go_ret
    exact ⟨ret_bool (by rw [← HP.out]; rfl), below_new w _⟩
  )

set_option maxHeartbeats 4000000 in
set_option maxRecDepth 100000 in
theorem alone_6 (n sc : Int) (s : ByteArray) (A : Option Addr) (len c : Nat) (w : World) :
    Calls Tryz.prog 118 #[.agg #[.int .i64 6, .int .i64 n, .int .i64 sc, .string s, .slice A len c]] w fun e w' => e = .returned (.bool (plain6 n sc s len)) ∧ Below w.heap.size w w' := by
  obtain ⟨r, hr⟩ : ∃ r, plain6 n sc s len = r := ⟨_, rfl⟩
  rw [hr]
  have HP := Lib.hid hr
  clear hr
  unfold plain6 at HP
  cases h0 : sEmpty s <;> cases h1 : ((len : Int) == 0) <;> cases h2 : (n == 0) <;> cases h3 : (sc == 0) <;> cases h4 : decide ((len : Int) ≤ 64) <;>
  (
    rw [h0, h2, h3, h4] at HP
    unfold sEmpty at h0
    go_enter Tryz.func118, Tryz.ntmps118
    go_wp2_with fail
    go_ret
    exact ⟨ret_bool (by rw [← HP.out]; rfl), below_new w _⟩
  )

set_option maxHeartbeats 4000000 in
set_option maxRecDepth 100000 in
theorem alone_7 (n sc : Int) (s : ByteArray) (A : Option Addr) (len c : Nat) (w : World) :
    Calls Tryz.prog 118 #[.agg #[.int .i64 7, .int .i64 n, .int .i64 sc, .string s, .slice A len c]] w fun e w' => e = .returned (.bool (plain7 n sc s len)) ∧ Below w.heap.size w w' := by
  obtain ⟨r, hr⟩ : ∃ r, plain7 n sc s len = r := ⟨_, rfl⟩
  rw [hr]
  have HP := Lib.hid hr
  clear hr
  unfold plain7 at HP
  cases h0 : sEmpty s <;> cases h1 : ((len : Int) == 0) <;> cases h2 : (n == 0) <;> cases h3 : (sc == 0) <;> cases h4 : decide (0 < len) <;>
  (
    rw [h0, h2, h3, h4] at HP
    unfold sEmpty at h0
    have h4' : decide ((0 : Int) < len) = decide (0 < len) := by simp
    rw [h4] at h4'
    go_enter Tryz.func118, Tryz.ntmps118
    go_wp2_with fail
    go_ret
    exact ⟨ret_bool (by rw [← HP.out]; rfl), below_new w _⟩
  )

set_option maxHeartbeats 1000000 in
theorem alone_none (k n sc : Int) (s : ByteArray) (A : Option Addr) (len c : Nat) (w : World) (h0 : (k == 0) = false) (h1 : (k == 1) = false) (h2 : (k == 2) = false) (h3 : (k == 3) = false) (h4 : (k == 4) = false) (h5 : (k == 5) = false) (h6 : (k == 6) = false) (h7 : (k == 7) = false) :
    Calls Tryz.prog 118 #[.agg #[.int .i64 k, .int .i64 n, .int .i64 sc, .string s, .slice A len c]] w fun e w' => e = .returned (.bool false) ∧ Below w.heap.size w w' := by
  cases g0 : sEmpty s <;> cases g1 : ((len : Int) == 0) <;>
  (
    unfold sEmpty at g0
    go_enter Tryz.func118, Tryz.ntmps118
    go_wp2_with fail
    go_ret
    exact ⟨rfl, below_new w _⟩
  )
theorem alone_any (k n sc : Int) (s : ByteArray) (A : Option Addr) (len c : Nat) (w : World) (hs : s.size ≤ maxLen) (hT : Tabs w) :
    Calls Tryz.prog 118 #[.agg #[.int .i64 k, .int .i64 n, .int .i64 sc, .string s, .slice A len c]] w fun e w' => e = .returned (.bool (plainF k n sc s len)) ∧ Below w.heap.size w w' := by
  by_cases h0 : k = 0
  · subst h0
    exact alone_0 n sc s A len c w
  by_cases h1 : k = 1
  · subst h1
    exact alone_1 n sc s A len c w
  by_cases h2 : k = 2
  · subst h2
    exact alone_2 n sc s A len c w
  by_cases h3 : k = 3
  · subst h3
    exact alone_3 n sc s A len c w
  by_cases h4 : k = 4
  · subst h4
    exact alone_4 n sc s A len c w hs hT
  by_cases h5 : k = 5
  · subst h5
    exact alone_5 n sc s A len c w
  by_cases h6 : k = 6
  · subst h6
    exact alone_6 n sc s A len c w
  by_cases h7 : k = 7
  · subst h7
    exact alone_7 n sc s A len c w
  have e : plainF k n sc s len = false := by unfold plainF; simp [h0, h1, h2, h3, h4, h5, h6, h7]
  rw [e]
  exact alone_none k n sc s A len c w (by simp [h0]) (by simp [h1]) (by simp [h2]) (by simp [h3]) (by simp [h4]) (by simp [h5]) (by simp [h6]) (by simp [h7])
end Go.Proofs.YthejmnmkbldacaaGreatDoor

namespace Go.Proofs.YthejmnmkbldacaaGreatDoor
open Go.RowKit
attribute [local go_sem] Tab.Env.ev Tab.Env.get

/-- sound on a value, in whatever memory; the counter in a block of its own -/
def SoundRAt (x : VD) : Prop := ∀ (F : Nat → Prop) (va : Value) (w : World) (lev c : Int) (pb : Nat), VAgg w F va x → Tabs w → Blk w pb 3 [.int .i64 c] → (∀ b, F b → b ≠ pb) → 1 ≤ lev → lev ≤ 5 → 0 ≤ c → c ≤ 256 →
  Calls Tryz.prog 65 #[va, .int .i64 lev, .pointer (some ⟨pb, 0, none⟩)] w (SoundPost w pb (soundV lev c x))

/-- the world inside sound: the value's box and the counter -/
structure SWR (w W : World) (x : VD) (A : Option Addr) (cc : Nat) (c : Int) (pb : Nat) : Prop where
  b0 : Blk W w.heap.size 33 [.int .i64 x.k, .int .i64 x.n, .int .i64 x.sc, .string x.s, .slice A x.items.length cc]
  b3 : Blk W pb 3 [.int .i64 c]
  ext : Tab.Ext (fun b => b = pb) w W
  pl : pb < w.heap.size
theorem SWR.ext_ {w W W' : World} {x : VD} {A : Option Addr} {cc : Nat} {c c' : Int} {pb : Nat} (h : SWR w W x A cc c pb) (he : Tab.Ext (fun b => b = pb) W W') (h3 : Blk W' pb 3 [.int .i64 c']) : SWR w W' x A cc c' pb :=
  ⟨h.b0.ext he (by have := h.pl; omega), h3, h.ext.trans he, h.pl⟩
theorem swr_start {w : World} {x : VD} {A : Option Addr} {cc : Nat} {c : Int} {pb : Nat} (hb : Blk w pb 3 [.int .i64 c]) : SWR w (w.alloc (.cells #[.int .i64 x.k, .int .i64 x.n, .int .i64 x.sc, .string x.s, .slice A x.items.length cc] 33)) x A cc c pb :=
  ⟨Blk.new w _ _, hb.alloc _, Tab.Ext.of_below (below_new w _), hb.lt⟩

set_option maxHeartbeats 4000000 in
set_option maxRecDepth 100000 in
theorem soundR_step (x : VD) (H : ∀ y, y ∈ x.items → SoundRAt y) : SoundRAt x := by
  intro F va w lev c pb hv hT hb hF l1 l2 c1 c2
  obtain ⟨A, cc, rfl, hok, hr⟩ := hv
  have SW3 := Lib.hid (swr_start (x := x) (A := A) (cc := cc) hb)
  have HH := Lib.hid H
  have HR := Lib.hid hr
  have HT := Lib.hid hT
  have HF := Lib.hid hF
  have HOK := Lib.hid hok
  have hpl := hb.lt
  have q0 := SW3.out.b3.cell 0
  have f0 := SW3.out.b3.frozen 0
  simp only [List.getElem?_cons_zero] at q0
  have hbI := Lib.hid hb
  clear H hr hT hF hok hb
  by_cases hk : x.k = 0
  · have ek : (x.k != 0) = false := by simp [hk]
    have HEQ := Lib.hid (show soundV lev c x = if 4 < lev ∨ 256 < c ∨ plainF x.k x.n x.sc x.s x.items.length = false then (false, c) else soundL (lev + 1) c x.items by rw [soundV_eq]; simp only [if_pos hk])
    have SW4 := Lib.hid (SW3.out)
    have q4 := SW4.out.b3.cell 0
    simp only [List.getElem?_cons_zero] at q4
    clear hk SW3
    by_cases h1 : 4 < lev
    · have HRES := Lib.hid (show soundV lev c x = (false, c) by rw [HEQ.out, if_pos (.inl h1)])
      have hd : decide ((4 : Int) < lev) = true := by simp [h1]
      clear h1 l2 HEQ
      go_enter Tryz.func65, Tryz.ntmps65
      go_wp2_with fail
      go_ret
      rw [HRES.out]
      exact ⟨rfl, SW4.out.b3, SW4.out.ext⟩
    · have hd : decide ((4 : Int) < lev) = false := by simp; omega
      by_cases h2 : 256 < c
      · have HRES := Lib.hid (show soundV lev c x = (false, c) by rw [HEQ.out, if_pos (.inr (.inl h2))])
        have hd2 : decide ((256 : Int) < c) = true := by simp; omega
        clear h1 h2 HEQ
        go_enter Tryz.func65, Tryz.ntmps65
        go_wp2_with fail
        go_ret
        rw [HRES.out]
        exact ⟨rfl, SW4.out.b3, SW4.out.ext⟩
      · have hd2 : decide ((256 : Int) < c) = false := by simp; omega
        have hlev : lev ≤ 4 := by omega
        have hcc : 0 ≤ c ∧ c ≤ 256 := by omega
        have HP := Lib.hid (fun W (hTW : Tabs W) => alone_any x.k x.n x.sc x.s A x.items.length cc W HOK.out.s hTW)
        have HT4 := Lib.hid (HT.out.ext SW4.out.ext (fun e => (HT.out.ne_int (hbI.out)).1 e.symm) (fun e => (HT.out.ne_int (hbI.out)).2 e.symm))
        go_enter Tryz.func65, Tryz.ntmps65
        go_wp2_with fail
        refine (HP.out _ HT4.out).mono ?_
        rintro e w5 ⟨rfl, hb5⟩
        have SW5 := SW4.out.ext_ (Tab.Ext.of_below hb5) (SW4.out.b3.below hb5 SW4.out.b3.lt)
        have HT5 := Lib.hid (HT4.out.later hb5)
        clear HP SW4 HT4 hb5 q4
        cases hpl2 : plainF x.k x.n x.sc x.s x.items.length with
        | false =>
          have HRES := Lib.hid (show soundV lev c x = (false, c) by rw [HEQ.out, if_pos (.inr (.inr hpl2))])
          clear HEQ hpl2
          have SW5 := Lib.hid SW5
          go_wp2_with fail
          go_ret
          rw [HRES.out]
          exact ⟨rfl, SW5.out.b3, SW5.out.ext⟩
        | true =>
          have HRES := Lib.hid (show soundV lev c x = soundL (lev + 1) c x.items by rw [HEQ.out, if_neg (by rw [hpl2]; simp; omega)])
          clear HEQ hpl2
          have SW5 := Lib.hid SW5
          have q := wcell5 SW5.out.b0
          obtain ⟨A', cc', iA, iC, he, hc, hm, hs, hw, hri⟩ := HR.out.shape
          injection he with e1 e2 e3
          subst e1
          subst e3
          clear e2
          have HS := Lib.hid hs
          have HW := Lib.hid hw
          have HRI := Lib.hid hri
          unfold maxLen at hm
          clear hs hw hri
          obtain ⟨n, hln⟩ : ∃ n, x.items.length = n := ⟨_, rfl⟩
          have HN := Lib.hid hln
          rw [hln] at hc q
          clear hln
          go_wp2_with fail
          clear q
          go_loopw [6, 7, 32] (fun _ _ i wr => ∃ k : Nat, k ≤ n ∧ i = .int .i64 k ∧ Hid (SWR w wr x A cc (stC (lev + 1) c x.items k) pb ∧ (∀ j, j < k → (soundV (lev + 1) (stC (lev + 1) c x.items j) (at_ x.items j)).1 = true) ∧ 0 ≤ stC (lev + 1) c x.items k ∧ stC (lev + 1) c x.items k ≤ 256)) (fun _ _ i _ => n - (intOf i).toNat)
          case atStart => exact ⟨0, Nat.zero_le _, rfl, Lib.hid ⟨SW5.out, fun j h => absurd h (Nat.not_lt_zero j), hcc.1, hcc.2⟩⟩
          case round =>
            obtain ⟨k, hk, rfl, HI⟩ := hrel
            by_cases hlt : k < n
            · as_aux_lemma =>
              have hkl : k < x.items.length := by rw [HN.out]; exact hlt
              obtain ⟨b, off, rfl, hFb, hbw, hcells⟩ := HS.out (by omega)
              have hne : b ≠ pb := HF.out b hFb
              have y := (hcells k hkl).keep (HI.out.1.ext.block b hbw hne)
              unfold CellsV at y
              have q := wcell5 HI.out.1.b0
              rw [HN.out] at q
              have hzb : b < wr.heap.size := Nat.lt_of_lt_of_le hbw HI.out.1.ext.size
              have HCALL := Lib.hid (HH.out (at_ x.items k) (at_mem hkl) F (.agg #[.int .i64 (at_ x.items k).k, .int .i64 (at_ x.items k).n, .int .i64 (at_ x.items k).sc, .string (at_ x.items k).s, .slice (iA k) (at_ x.items k).items.length (iC k)]) wr (lev + 1) (stC (lev + 1) c x.items k) pb
                ⟨_, _, rfl, HW.out k hkl, (HRI.out k hkl).ext HI.out.1.ext (fun b' h => HF.out b' h)⟩ (HT.out.ext HI.out.1.ext (fun e => (HT.out.ne_int (hbI.out)).1 e.symm) (fun e => (HT.out.ne_int (hbI.out)).2 e.symm)) HI.out.1.b3 HF.out (by omega) (by omega) HI.out.2.2.1 HI.out.2.2.2)
              have HBD := Lib.hid (soundV_bound (at_ x.items k) (lev + 1) (stC (lev + 1) c x.items k) HI.out.2.2.1)
              have HST := Lib.hid (show stC (lev + 1) c x.items (k + 1) = (soundV (lev + 1) (stC (lev + 1) c x.items k) (at_ x.items k)).2 from rfl)
              clear hcells
              go_wp2_with fail
              refine HCALL.out.mono ?_
              rintro e w6 ⟨rfl, o2, o3⟩
              have SW6 := Lib.hid (HI.out.1.ext_ o3 o2)
              clear o2 o3 HCALL y q
              cases hsv : (soundV (lev + 1) (stC (lev + 1) c x.items k) (at_ x.items k)).1 with
              | true =>
                have HI2 := Lib.hid (show SWR w w6 x (some ⟨b, off, none⟩) cc (stC (lev + 1) c x.items (k + 1)) pb ∧ (∀ j, j < k + 1 → (soundV (lev + 1) (stC (lev + 1) c x.items j) (at_ x.items j)).1 = true) ∧ 0 ≤ stC (lev + 1) c x.items (k + 1) ∧ stC (lev + 1) c x.items (k + 1) ≤ 256 from
                  ⟨by rw [HST.out]; exact SW6.out, fun j hj => by
                    by_cases hjk : j < k
                    · exact HI.out.2.1 j hjk
                    · obtain rfl : j = k := by omega
                      exact hsv, by rw [HST.out]; exact HBD.out hsv⟩)
                clear hsv HBD
                go_wp2_with fail
                go_roundw
                case rel => exact ⟨k + 1, hlt, by go_num, HI2⟩
                case measure => simp [intOf] <;> omega
              | false =>
                have HX := Lib.hid (soundL_first (lev + 1) c x.items k hkl HI.out.2.1 hsv)
                clear hsv HBD
                go_wp2_with fail
                go_ret
                rw [HRES.out, HX.out]
                exact ⟨rfl, SW6.out.b3, SW6.out.ext⟩
            · as_aux_lemma =>
              obtain rfl : k = n := by omega
              have HX := Lib.hid (soundL_all (lev + 1) c x.items (fun j hj => HI.out.2.1 j (by rw [HN.out] at hj; exact hj)))
              go_wp2_with fail
              go_ret
              rw [HRES.out, HX.out, HN.out]
              exact ⟨rfl, HI.out.1.b3, HI.out.1.ext⟩
  · have ek : (x.k != 0) = true := by simp [hk]
    have HEQ := Lib.hid (show soundV lev c x = if 4 < lev ∨ 256 < (c + 1) ∨ plainF x.k x.n x.sc x.s x.items.length = false then (false, (c + 1)) else soundL (lev + 1) (c + 1) x.items by rw [soundV_eq]; simp only [if_neg hk])
    have SW4 := Lib.hid (show SWR w ((w.setCell ⟨pb, 0, none⟩ (.int .i64 (c + 1))).alloc (.cells #[.int .i64 x.k, .int .i64 x.n, .int .i64 x.sc, .string x.s, .slice A x.items.length cc] 33)) x A cc (c + 1) pb from
      ⟨by have h := Blk.new (w.setCell ⟨pb, 0, none⟩ (.int .i64 (c + 1))) 33 [.int .i64 x.k, .int .i64 x.n, .int .i64 x.sc, .string x.s, .slice A x.items.length cc]; simpa using h, (hbI.out.set_ 0 _).alloc _, ((Tab.Ext.refl (fun b => b = pb) w).setCell (p := ⟨pb, 0, none⟩) (.inl rfl) (.int .i64 (c + 1))).alloc _, hpl⟩)
    have q4 := SW4.out.b3.cell 0
    simp only [List.getElem?_cons_zero] at q4
    clear hk SW3
    by_cases h1 : 4 < lev
    · have HRES := Lib.hid (show soundV lev c x = (false, (c + 1)) by rw [HEQ.out, if_pos (.inl h1)])
      have hd : decide ((4 : Int) < lev) = true := by simp [h1]
      clear h1 l2 HEQ
      go_enter Tryz.func65, Tryz.ntmps65
      go_wp2_with fail
      go_ret
      rw [HRES.out]
      exact ⟨rfl, SW4.out.b3, SW4.out.ext⟩
    · have hd : decide ((4 : Int) < lev) = false := by simp; omega
      by_cases h2 : 256 < (c + 1)
      · have HRES := Lib.hid (show soundV lev c x = (false, (c + 1)) by rw [HEQ.out, if_pos (.inr (.inl h2))])
        have hd2 : decide ((256 : Int) < (c + 1)) = true := by simp; omega
        clear h1 h2 HEQ
        go_enter Tryz.func65, Tryz.ntmps65
        go_wp2_with fail
        go_ret
        rw [HRES.out]
        exact ⟨rfl, SW4.out.b3, SW4.out.ext⟩
      · have hd2 : decide ((256 : Int) < (c + 1)) = false := by simp; omega
        have hlev : lev ≤ 4 := by omega
        have hcc : 0 ≤ (c + 1) ∧ (c + 1) ≤ 256 := by omega
        have HP := Lib.hid (fun W (hTW : Tabs W) => alone_any x.k x.n x.sc x.s A x.items.length cc W HOK.out.s hTW)
        have HT4 := Lib.hid (HT.out.ext SW4.out.ext (fun e => (HT.out.ne_int (hbI.out)).1 e.symm) (fun e => (HT.out.ne_int (hbI.out)).2 e.symm))
        go_enter Tryz.func65, Tryz.ntmps65
        go_wp2_with fail
        refine (HP.out _ HT4.out).mono ?_
        rintro e w5 ⟨rfl, hb5⟩
        have SW5 := SW4.out.ext_ (Tab.Ext.of_below hb5) (SW4.out.b3.below hb5 SW4.out.b3.lt)
        have HT5 := Lib.hid (HT4.out.later hb5)
        clear HP SW4 HT4 hb5 q4
        cases hpl2 : plainF x.k x.n x.sc x.s x.items.length with
        | false =>
          have HRES := Lib.hid (show soundV lev c x = (false, (c + 1)) by rw [HEQ.out, if_pos (.inr (.inr hpl2))])
          clear HEQ hpl2
          have SW5 := Lib.hid SW5
          go_wp2_with fail
          go_ret
          rw [HRES.out]
          exact ⟨rfl, SW5.out.b3, SW5.out.ext⟩
        | true =>
          have HRES := Lib.hid (show soundV lev c x = soundL (lev + 1) (c + 1) x.items by rw [HEQ.out, if_neg (by rw [hpl2]; simp; omega)])
          clear HEQ hpl2
          have SW5 := Lib.hid SW5
          have q := wcell5 SW5.out.b0
          obtain ⟨A', cc', iA, iC, he, hc, hm, hs, hw, hri⟩ := HR.out.shape
          injection he with e1 e2 e3
          subst e1
          subst e3
          clear e2
          have HS := Lib.hid hs
          have HW := Lib.hid hw
          have HRI := Lib.hid hri
          unfold maxLen at hm
          clear hs hw hri
          obtain ⟨n, hln⟩ : ∃ n, x.items.length = n := ⟨_, rfl⟩
          have HN := Lib.hid hln
          rw [hln] at hc q
          clear hln
          go_wp2_with fail
          clear q
          go_loopw [6, 7, 32] (fun _ _ i wr => ∃ k : Nat, k ≤ n ∧ i = .int .i64 k ∧ Hid (SWR w wr x A cc (stC (lev + 1) (c + 1) x.items k) pb ∧ (∀ j, j < k → (soundV (lev + 1) (stC (lev + 1) (c + 1) x.items j) (at_ x.items j)).1 = true) ∧ 0 ≤ stC (lev + 1) (c + 1) x.items k ∧ stC (lev + 1) (c + 1) x.items k ≤ 256)) (fun _ _ i _ => n - (intOf i).toNat)
          case atStart => exact ⟨0, Nat.zero_le _, rfl, Lib.hid ⟨SW5.out, fun j h => absurd h (Nat.not_lt_zero j), hcc.1, hcc.2⟩⟩
          case round =>
            obtain ⟨k, hk, rfl, HI⟩ := hrel
            by_cases hlt : k < n
            · as_aux_lemma =>
              have hkl : k < x.items.length := by rw [HN.out]; exact hlt
              obtain ⟨b, off, rfl, hFb, hbw, hcells⟩ := HS.out (by omega)
              have hne : b ≠ pb := HF.out b hFb
              have y := (hcells k hkl).keep (HI.out.1.ext.block b hbw hne)
              unfold CellsV at y
              have q := wcell5 HI.out.1.b0
              rw [HN.out] at q
              have hzb : b < wr.heap.size := Nat.lt_of_lt_of_le hbw HI.out.1.ext.size
              have HCALL := Lib.hid (HH.out (at_ x.items k) (at_mem hkl) F (.agg #[.int .i64 (at_ x.items k).k, .int .i64 (at_ x.items k).n, .int .i64 (at_ x.items k).sc, .string (at_ x.items k).s, .slice (iA k) (at_ x.items k).items.length (iC k)]) wr (lev + 1) (stC (lev + 1) (c + 1) x.items k) pb
                ⟨_, _, rfl, HW.out k hkl, (HRI.out k hkl).ext HI.out.1.ext (fun b' h => HF.out b' h)⟩ (HT.out.ext HI.out.1.ext (fun e => (HT.out.ne_int (hbI.out)).1 e.symm) (fun e => (HT.out.ne_int (hbI.out)).2 e.symm)) HI.out.1.b3 HF.out (by omega) (by omega) HI.out.2.2.1 HI.out.2.2.2)
              have HBD := Lib.hid (soundV_bound (at_ x.items k) (lev + 1) (stC (lev + 1) (c + 1) x.items k) HI.out.2.2.1)
              have HST := Lib.hid (show stC (lev + 1) (c + 1) x.items (k + 1) = (soundV (lev + 1) (stC (lev + 1) (c + 1) x.items k) (at_ x.items k)).2 from rfl)
              clear hcells
              go_wp2_with fail
              refine HCALL.out.mono ?_
              rintro e w6 ⟨rfl, o2, o3⟩
              have SW6 := Lib.hid (HI.out.1.ext_ o3 o2)
              clear o2 o3 HCALL y q
              cases hsv : (soundV (lev + 1) (stC (lev + 1) (c + 1) x.items k) (at_ x.items k)).1 with
              | true =>
                have HI2 := Lib.hid (show SWR w w6 x (some ⟨b, off, none⟩) cc (stC (lev + 1) (c + 1) x.items (k + 1)) pb ∧ (∀ j, j < k + 1 → (soundV (lev + 1) (stC (lev + 1) (c + 1) x.items j) (at_ x.items j)).1 = true) ∧ 0 ≤ stC (lev + 1) (c + 1) x.items (k + 1) ∧ stC (lev + 1) (c + 1) x.items (k + 1) ≤ 256 from
                  ⟨by rw [HST.out]; exact SW6.out, fun j hj => by
                    by_cases hjk : j < k
                    · exact HI.out.2.1 j hjk
                    · obtain rfl : j = k := by omega
                      exact hsv, by rw [HST.out]; exact HBD.out hsv⟩)
                clear hsv HBD
                go_wp2_with fail
                go_roundw
                case rel => exact ⟨k + 1, hlt, by go_num, HI2⟩
                case measure => simp [intOf] <;> omega
              | false =>
                have HX := Lib.hid (soundL_first (lev + 1) (c + 1) x.items k hkl HI.out.2.1 hsv)
                clear hsv HBD
                go_wp2_with fail
                go_ret
                rw [HRES.out, HX.out]
                exact ⟨rfl, SW6.out.b3, SW6.out.ext⟩
            · as_aux_lemma =>
              obtain rfl : k = n := by omega
              have HX := Lib.hid (soundL_all (lev + 1) (c + 1) x.items (fun j hj => HI.out.2.1 j (by rw [HN.out] at hj; exact hj)))
              go_wp2_with fail
              go_ret
              rw [HRES.out, HX.out, HN.out]
              exact ⟨rfl, HI.out.1.b3, HI.out.1.ext⟩

theorem soundRAt (x : VD) : SoundRAt x := soundR_step x fun y _ => soundRAt y
termination_by SizeOf.sizeOf x
decreasing_by
  rename_i hy
  have := List.sizeOf_lt_of_mem hy
  cases x
  simp only [VD.items] at this
  simp
  omega

set_option maxHeartbeats 1000000 in
theorem SoundR_any (x : VD) (F : Nat → Prop) (va : Value) (w : World) (hv : VAgg w F va x) (hT : Tabs w) :
    Calls Tryz.prog 16 #[va] w fun e w' => e = .returned (.bool (soundB x)) ∧ Below w.heap.size w w' := by
  obtain ⟨A, cc, rfl, hok, hr⟩ := hv
  have hb1 : Blk ((w.alloc (.cells #[.int .i64 x.k, .int .i64 x.n, .int .i64 x.sc, .string x.s, .slice A x.items.length cc] 33)).alloc (.cells #[.int .i64 0] 3)) (w.heap.size + 1) 3 [.int .i64 0] := by
    have h := Blk.new (w.alloc (.cells #[.int .i64 x.k, .int .i64 x.n, .int .i64 x.sc, .string x.s, .slice A x.items.length cc] 33)) 3 [.int .i64 0]
    simpa using h
  have hbel : Below w.heap.size w ((w.alloc (.cells #[.int .i64 x.k, .int .i64 x.n, .int .i64 x.sc, .string x.s, .slice A x.items.length cc] 33)).alloc (.cells #[.int .i64 0] 3)) := (below_new w _).alloc (by simp) _
  have HC := Lib.hid (soundRAt x (fun b => F b ∧ b < w.heap.size) (.agg #[.int .i64 x.k, .int .i64 x.n, .int .i64 x.sc, .string x.s, .slice A x.items.length cc]) _ 1 0 (w.heap.size + 1) ⟨A, cc, rfl, hok, (hr.mono (fun b hb hl => ⟨hb, hl⟩)).later hbel⟩ (hT.later hbel) hb1 (fun b hb e => by have := hb.2; omega) (by omega) (by omega) (by omega) (by omega))
  have HB := Lib.hid hbel
  clear hok hr hT hb1 hbel
  go_enter Tryz.func16, Tryz.ntmps16
  go_wp2_with fail
  refine HC.out.mono ?_
  rintro e w1 ⟨rfl, o1, o2⟩
  have O := Lib.hid (show Below w.heap.size w w1 from HB.out.trans ⟨o2.os, o2.tape, o2.output, o2.size, fun k hk => o2.block k (by simp; omega) (by omega)⟩)
  have HE : (soundV 1 0 x).1 = soundB x := rfl
  rw [HE]
  clear o1 o2 HC HE HB
  go_wp2_with fail
  go_ret
  exact ⟨rfl, O.out⟩
end Go.Proofs.YthejmnmkbldacaaGreatDoor
