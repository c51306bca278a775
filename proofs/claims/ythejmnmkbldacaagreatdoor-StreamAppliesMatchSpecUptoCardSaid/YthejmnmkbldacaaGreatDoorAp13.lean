/-
  What is proved: slices.IndexFunc and slices.ContainsFunc of differences and of values, whatever function value is handed in. Conditions: what the function value does at each element.
  What is proved: what utf8.ValidString answers, laid from the library's contract. Conditions: the tables of unicode/utf8 lie as they are laid.
  What is proved: which texts package value takes for sound. Conditions: the tables of unicode/utf8 lie as they are laid.
  What is proved: which texts the reference takes for sound: those that package value takes for sound. Conditions: the tables of unicode/utf8 lie as they are laid.
-/
import Derived.Test.YthejmnmkbldacaaGreatDoorAp12
import Derived.Lib.ValidLaws
import Derived.Shelf.Unicode.ValidAny
import Derived.Laws.RangeString
import Derived.Laws.RangeAny
set_option linter.all false
namespace Go.Proofs.YthejmnmkbldacaaGreatDoor
open Go.RowKit
attribute [local go_sem] Tab.Env.ev Tab.Env.get

def IdxPost (p : Nat → Bool) (n : Nat) (I Fin : Nat → World → Prop) (e : Ending) (w' : World) : Prop :=
  (e = .returned (.int .i64 (-1)) ∧ (∀ i, i < n → p i = false) ∧ I n w') ∨ ∃ i : Nat, i < n ∧ e = .returned (.int .i64 i) ∧ p i = true ∧ (∀ j, j < i → p j = false) ∧ Fin i w'
def AnyPost (p : Nat → Bool) (n : Nat) (I Fin : Nat → World → Prop) (e : Ending) (w' : World) : Prop :=
  (e = .returned (.bool false) ∧ (∀ i, i < n → p i = false) ∧ I n w') ∨ ∃ i : Nat, i < n ∧ e = .returned (.bool true) ∧ p i = true ∧ (∀ j, j < i → p j = false) ∧ Fin i w'
theorem rd_shape {w : World} {F F' : Nat → Prop} {v : Value} {l : List DE} (h : RD w F F' v l) : ∃ A c, v = .slice A l.length c ∧ l.length ≤ c ∧ c ≤ maxLen := let ⟨A, c, h1, h2, h3, _⟩ := h.sl.2; ⟨A, c, h1, h2, h3⟩
theorem ri_shape {w : World} {F : Nat → Prop} {v : Value} {l : List VD} (h : RI w F v l) : ∃ A c, v = .slice A l.length c ∧ l.length ≤ c ∧ c ≤ maxLen := let ⟨A, c, _, _, h1, h2, h3, _⟩ := h.shape; ⟨A, c, h1, h2, h3⟩

set_option maxHeartbeats 400000 in
theorem indexD_any (f : FuncId) (hcf : ∀ (args : Array Value) (w : World), (callFunc f args).run Tryz.prog w = .ok (.enter f args) w) (F F' : Nat → Prop) (v : Value) (l : List DE) (hn : l.length < 1073741824) (p : Nat → Bool) (I Fin : Nat → World → Prop) (w : World) (h0 : I 0 w)
    (hI : ∀ i w1, I i w1 → RD w1 F F' v l) (HC : ∀ i w1, i < l.length → I i w1 → Calls Tryz.prog f #[(dat l i).val] w1 fun e w2 => e = .returned (.bool (p i)) ∧ (p i = true → Fin i w2) ∧ (p i = false → I (i + 1) w2)) :
    Calls Tryz.prog 148 #[v, .func (.func f) #[] #[]] w (IdxPost p l.length I Fin) := by
  obtain ⟨A, c, rfl, hcap, hmax⟩ : ∃ A c, v = .slice A l.length c ∧ l.length ≤ c ∧ c ≤ maxLen := rd_shape (hI 0 w h0)
  unfold maxLen at hmax
  have HI := Lib.hid hI
  have HCC := Lib.hid HC
  obtain ⟨n, hln⟩ : ∃ n, l.length = n := ⟨_, rfl⟩
  rw [hln] at hcap hn ⊢
  have HN := Lib.hid hln
  clear hI HC hln
  have H0 := Lib.hid h0
  clear h0
  go_enter Tryz.func148, Tryz.ntmps148
  go_wp2_with fail
  go_loopw [5, 8] (fun _ i wr => ∃ k : Nat, k ≤ n ∧ i = .int .i64 k ∧ Hid (I k wr) ∧ Hid (∀ j, j < k → p j = false)) (fun _ i _ => n - (intOf i).toNat)
  case atStart => exact ⟨0, Nat.zero_le _, rfl, H0, Lib.hid fun j h => absurd h (Nat.not_lt_zero j)⟩
  case round =>
    obtain ⟨k, hk, rfl, HK, HJ⟩ := hrel
    by_cases hlt : k < n
    · obtain ⟨b, off, c', A', m1, c1, r1, n1, hv, -, -, hlt1, e1, g1, q1, q2⟩ := (HI.out k wr HK.out).at_ (i := k) (by rw [HN.out]; exact hlt)
      injection hv with hA _ hcc
      subst hA
      subst hcc
      have hq := HCC.out k wr (by rw [HN.out]; exact hlt) HK.out
      rw [e1] at hq
      have hq := Lib.hid hq
      clear e1 g1
      go_wp2_with fail
      refine hq.out.mono ?_
      rintro e w1 ⟨rfl, o1, o2⟩
      cases hp : p k with
      | true =>
        have O := Lib.hid (o1 hp)
        have HP := Lib.hid hp
        clear o1 o2 hq hp
        go_wp2_with fail
        go_ret
        exact .inr ⟨k, hlt, rfl, HP.out, HJ.out, O.out⟩
      | false =>
        have O := Lib.hid (o2 hp)
        have HJ2 := Lib.hid (show ∀ j, j < k + 1 → p j = false from fun j hj => by
          by_cases hjk : j < k
          · exact HJ.out j hjk
          · obtain rfl : j = k := by omega
            exact hp)
        clear o1 o2 hq hp
        go_wp2_with fail
        go_roundw
        case rel => exact ⟨k + 1, hlt, by go_num, O, HJ2⟩
        case measure => simp [intOf] <;> omega
    · obtain rfl : k = n := by omega
      go_wp2_with fail
      go_ret
      exact .inl ⟨rfl, HJ.out, HK.out⟩
set_option maxHeartbeats 400000 in
theorem containsD_any (f : FuncId) (hcf : ∀ (args : Array Value) (w : World), (callFunc f args).run Tryz.prog w = .ok (.enter f args) w) (F F' : Nat → Prop) (v : Value) (l : List DE) (hn : l.length < 1073741824) (p : Nat → Bool) (I Fin : Nat → World → Prop) (w : World) (h0 : I 0 w)
    (hI : ∀ i w1, I i w1 → RD w1 F F' v l) (HC : ∀ i w1, i < l.length → I i w1 → Calls Tryz.prog f #[(dat l i).val] w1 fun e w2 => e = .returned (.bool (p i)) ∧ (p i = true → Fin i w2) ∧ (p i = false → I (i + 1) w2)) :
    Calls Tryz.prog 109 #[v, .func (.func f) #[] #[]] w (AnyPost p l.length I Fin) := by
  have H := Lib.hid (indexD_any f  hcf F F' v l hn p I Fin w h0 hI HC)
  clear hI HC h0
  go_enter Tryz.func109, Tryz.ntmps109
  go_wp2_with fail
  refine H.out.mono ?_
  rintro e w1 (⟨rfl, o1, o2⟩ | ⟨i, hi, rfl, o1, o2, o3⟩)
  · have O := Lib.hid (And.intro o1 o2)
    clear o1 o2
    go_wp2_with fail
    go_ret
    exact .inl ⟨by simp, O.out.1, O.out.2⟩
  · have O := Lib.hid (And.intro o1 (And.intro o2 o3))
    clear o1 o2 o3
    have hge : (0 : Int) ≤ (i : Int) := by omega
    go_wp2_with fail
    go_ret
    exact .inr ⟨i, hi, by simp, O.out.1, O.out.2.1, O.out.2.2⟩

set_option maxHeartbeats 400000 in
theorem indexV_any (f : FuncId) (hcf : ∀ (args : Array Value) (w : World), (callFunc f args).run Tryz.prog w = .ok (.enter f args) w) (F : Nat → Prop) (v : Value) (l : List VD) (p : Nat → Bool) (I Fin : Nat → World → Prop) (w : World) (h0 : I 0 w)
    (hI : ∀ i w1, I i w1 → RI w1 F v l) (HC : ∀ i w1, i < l.length → I i w1 → ∀ va, VAgg w1 F va (at_ l i) → Calls Tryz.prog f #[va] w1 fun e w2 => e = .returned (.bool (p i)) ∧ (p i = true → Fin i w2) ∧ (p i = false → I (i + 1) w2)) :
    Calls Tryz.prog 156 #[v, .func (.func f) #[] #[]] w (IdxPost p l.length I Fin) := by
  obtain ⟨A, c, rfl, hcap, hmax⟩ : ∃ A c, v = .slice A l.length c ∧ l.length ≤ c ∧ c ≤ maxLen := ri_shape (hI 0 w h0)
  unfold maxLen at hmax
  have hok : ∀ i, i < l.length → (at_ l i).ok := let ⟨_, _, _, _, _, _, _, _, h, _⟩ := (hI 0 w h0).shape; h
  have HI := Lib.hid hI
  have HCC := Lib.hid HC
  obtain ⟨n, hln⟩ : ∃ n, l.length = n := ⟨_, rfl⟩
  rw [hln] at hcap ⊢
  have HN := Lib.hid hln
  clear hI HC hln
  have H0 := Lib.hid h0
  clear h0
  go_enter Tryz.func156, Tryz.ntmps156
  go_wp2_with fail
  go_loopw [5, 8] (fun _ i wr => ∃ k : Nat, k ≤ n ∧ i = .int .i64 k ∧ Hid (I k wr) ∧ Hid (∀ j, j < k → p j = false)) (fun _ i _ => n - (intOf i).toNat)
  case atStart => exact ⟨0, Nat.zero_le _, rfl, H0, Lib.hid fun j h => absurd h (Nat.not_lt_zero j)⟩
  case round =>
    obtain ⟨k, hk, rfl, HK, HJ⟩ := hrel
    by_cases hlt : k < n
    · obtain ⟨A', c', iA, iC, hv, -, -, hs, -, hr⟩ := (HI.out k wr HK.out).shape
      obtain ⟨b, off, hA', -, hlt1, hcells⟩ := hs (by rw [HN.out]; omega)
      rw [hA'] at hv
      injection hv with hA _ hcc
      subst hA
      subst hcc
      have q := hcells k (by rw [HN.out]; exact hlt)
      have hq := HCC.out k wr (by rw [HN.out]; exact hlt) HK.out (tx (at_ l k) (iA k) (iC k)) ⟨_, _, rfl, hok k (by rw [HN.out]; exact hlt), hr k (by rw [HN.out]; exact hlt)⟩
      obtain ⟨q1, q2, q3, q4, q5⟩ := q
      unfold tx at hq
      have hq := Lib.hid hq
      generalize at_ l k = x at *
      clear hcells hr hs hA'
      go_wp2_with fail
      refine hq.out.mono ?_
      rintro e w1 ⟨rfl, o1, o2⟩
      cases hp : p k with
      | true =>
        have O := Lib.hid (o1 hp)
        have HP := Lib.hid hp
        clear o1 o2 hq hp
        go_wp2_with fail
        go_ret
        exact .inr ⟨k, hlt, rfl, HP.out, HJ.out, O.out⟩
      | false =>
        have O := Lib.hid (o2 hp)
        have HJ2 := Lib.hid (show ∀ j, j < k + 1 → p j = false from fun j hj => by
          by_cases hjk : j < k
          · exact HJ.out j hjk
          · obtain rfl : j = k := by omega
            exact hp)
        clear o1 o2 hq hp
        go_wp2_with fail
        go_roundw
        case rel => exact ⟨k + 1, hlt, by go_num, O, HJ2⟩
        case measure => simp [intOf] <;> omega
    · obtain rfl : k = n := by omega
      go_wp2_with fail
      go_ret
      exact .inl ⟨rfl, HJ.out, HK.out⟩
set_option maxHeartbeats 400000 in
theorem containsV_any (f : FuncId) (hcf : ∀ (args : Array Value) (w : World), (callFunc f args).run Tryz.prog w = .ok (.enter f args) w) (F : Nat → Prop) (v : Value) (l : List VD) (p : Nat → Bool) (I Fin : Nat → World → Prop) (w : World) (h0 : I 0 w)
    (hI : ∀ i w1, I i w1 → RI w1 F v l) (HC : ∀ i w1, i < l.length → I i w1 → ∀ va, VAgg w1 F va (at_ l i) → Calls Tryz.prog f #[va] w1 fun e w2 => e = .returned (.bool (p i)) ∧ (p i = true → Fin i w2) ∧ (p i = false → I (i + 1) w2)) :
    Calls Tryz.prog 120 #[v, .func (.func f) #[] #[]] w (AnyPost p l.length I Fin) := by
  have H := Lib.hid (indexV_any f  hcf F v l p I Fin w h0 hI HC)
  clear hI HC h0
  go_enter Tryz.func120, Tryz.ntmps120
  go_wp2_with fail
  refine H.out.mono ?_
  rintro e w1 (⟨rfl, o1, o2⟩ | ⟨i, hi, rfl, o1, o2, o3⟩)
  · have O := Lib.hid (And.intro o1 o2)
    clear o1 o2
    go_wp2_with fail
    go_ret
    exact .inl ⟨by simp, O.out.1, O.out.2⟩
  · have O := Lib.hid (And.intro o1 (And.intro o2 o3))
    clear o1 o2 o3
    have hge : (0 : Int) ≤ (i : Int) := by omega
    go_wp2_with fail
    go_ret
    exact .inr ⟨i, hi, by simp, O.out.1, O.out.2.1, O.out.2.2⟩

set_option maxHeartbeats 400000 in
theorem indexV2_any (f : FuncId) (P1 P2 : Value) (hcf : ∀ (args : Array Value) (w : World), (callFunc f args).run Tryz.prog w = .ok (.enter f args) w) (F : Nat → Prop) (v : Value) (l : List VD) (p : Nat → Bool) (I Fin : Nat → World → Prop) (w : World) (h0 : I 0 w)
    (hI : ∀ i w1, I i w1 → RI w1 F v l) (HC : ∀ i w1, i < l.length → I i w1 → ∀ va, VAgg w1 F va (at_ l i) → Calls Tryz.prog f #[va, P1, P2] w1 fun e w2 => e = .returned (.bool (p i)) ∧ (p i = true → Fin i w2) ∧ (p i = false → I (i + 1) w2)) :
    Calls Tryz.prog 156 #[v, .func (.func f) #[] #[P1, P2]] w (IdxPost p l.length I Fin) := by
  obtain ⟨A, c, rfl, hcap, hmax⟩ : ∃ A c, v = .slice A l.length c ∧ l.length ≤ c ∧ c ≤ maxLen := ri_shape (hI 0 w h0)
  unfold maxLen at hmax
  have hok : ∀ i, i < l.length → (at_ l i).ok := let ⟨_, _, _, _, _, _, _, _, h, _⟩ := (hI 0 w h0).shape; h
  have HI := Lib.hid hI
  have HCC := Lib.hid HC
  obtain ⟨n, hln⟩ : ∃ n, l.length = n := ⟨_, rfl⟩
  rw [hln] at hcap ⊢
  have HN := Lib.hid hln
  clear hI HC hln
  have H0 := Lib.hid h0
  clear h0
  go_enter Tryz.func156, Tryz.ntmps156
  go_wp2_with fail
  go_loopw [5, 8] (fun _ i wr => ∃ k : Nat, k ≤ n ∧ i = .int .i64 k ∧ Hid (I k wr) ∧ Hid (∀ j, j < k → p j = false)) (fun _ i _ => n - (intOf i).toNat)
  case atStart => exact ⟨0, Nat.zero_le _, rfl, H0, Lib.hid fun j h => absurd h (Nat.not_lt_zero j)⟩
  case round =>
    obtain ⟨k, hk, rfl, HK, HJ⟩ := hrel
    by_cases hlt : k < n
    · obtain ⟨A', c', iA, iC, hv, -, -, hs, -, hr⟩ := (HI.out k wr HK.out).shape
      obtain ⟨b, off, hA', -, hlt1, hcells⟩ := hs (by rw [HN.out]; omega)
      rw [hA'] at hv
      injection hv with hA _ hcc
      subst hA
      subst hcc
      have q := hcells k (by rw [HN.out]; exact hlt)
      have hq := HCC.out k wr (by rw [HN.out]; exact hlt) HK.out (tx (at_ l k) (iA k) (iC k)) ⟨_, _, rfl, hok k (by rw [HN.out]; exact hlt), hr k (by rw [HN.out]; exact hlt)⟩
      obtain ⟨q1, q2, q3, q4, q5⟩ := q
      unfold tx at hq
      have hq := Lib.hid hq
      generalize at_ l k = x at *
      clear hcells hr hs hA'
      go_wp2_with fail
      refine hq.out.mono ?_
      rintro e w1 ⟨rfl, o1, o2⟩
      cases hp : p k with
      | true =>
        have O := Lib.hid (o1 hp)
        have HP := Lib.hid hp
        clear o1 o2 hq hp
        go_wp2_with fail
        go_ret
        exact .inr ⟨k, hlt, rfl, HP.out, HJ.out, O.out⟩
      | false =>
        have O := Lib.hid (o2 hp)
        have HJ2 := Lib.hid (show ∀ j, j < k + 1 → p j = false from fun j hj => by
          by_cases hjk : j < k
          · exact HJ.out j hjk
          · obtain rfl : j = k := by omega
            exact hp)
        clear o1 o2 hq hp
        go_wp2_with fail
        go_roundw
        case rel => exact ⟨k + 1, hlt, by go_num, O, HJ2⟩
        case measure => simp [intOf] <;> omega
    · obtain rfl : k = n := by omega
      go_wp2_with fail
      go_ret
      exact .inl ⟨rfl, HJ.out, HK.out⟩
set_option maxHeartbeats 400000 in
theorem containsV2_any (f : FuncId) (P1 P2 : Value) (hcf : ∀ (args : Array Value) (w : World), (callFunc f args).run Tryz.prog w = .ok (.enter f args) w) (F : Nat → Prop) (v : Value) (l : List VD) (p : Nat → Bool) (I Fin : Nat → World → Prop) (w : World) (h0 : I 0 w)
    (hI : ∀ i w1, I i w1 → RI w1 F v l) (HC : ∀ i w1, i < l.length → I i w1 → ∀ va, VAgg w1 F va (at_ l i) → Calls Tryz.prog f #[va, P1, P2] w1 fun e w2 => e = .returned (.bool (p i)) ∧ (p i = true → Fin i w2) ∧ (p i = false → I (i + 1) w2)) :
    Calls Tryz.prog 120 #[v, .func (.func f) #[] #[P1, P2]] w (AnyPost p l.length I Fin) := by
  have H := Lib.hid (indexV2_any f P1 P2 hcf F v l p I Fin w h0 hI HC)
  clear hI HC h0
  go_enter Tryz.func120, Tryz.ntmps120
  go_wp2_with fail
  refine H.out.mono ?_
  rintro e w1 (⟨rfl, o1, o2⟩ | ⟨i, hi, rfl, o1, o2, o3⟩)
  · have O := Lib.hid (And.intro o1 o2)
    clear o1 o2
    go_wp2_with fail
    go_ret
    exact .inl ⟨by simp, O.out.1, O.out.2⟩
  · have O := Lib.hid (And.intro o1 (And.intro o2 o3))
    clear o1 o2 o3
    have hge : (0 : Int) ≤ (i : Int) := by omega
    go_wp2_with fail
    go_ret
    exact .inr ⟨i, hi, by simp, O.out.1, O.out.2.1, O.out.2.2⟩
end Go.Proofs.YthejmnmkbldacaaGreatDoor

namespace Go.Proofs.YthejmnmkbldacaaGreatDoor
open Go.RowKit Go.Shelf
def Tryz.laysValid_ren : Go.Shelf.Ren := ⟨fun | 196 => 191 | 259 => 224 | n => n, fun | 9 => 9 | 4 => 4 | 3 => 3 | 5 => 5 | 12 => 12 | 119 => 252 | 0 => 0 | 46 => 189 | 139 => 255 | 138 => 254 | 53 => 211 | n => n, fun | 3 => 0 | 4 => 1 | n => n⟩
theorem Tryz.laysValid : Go.Proofs.Lays.n196 Tryz.prog Tryz.laysValid_ren := {
  mixed := by kernel_rfl
  f196 := Tryz.func191.trans (congrArg some (by kernel_rfl))
  f259 := Tryz.func224.trans (congrArg some (by kernel_rfl))
  t0 := Tryz.underlying0
  a0 := Tryz.isAgg0
  z0 := Tryz.sizeOf0
  v0 := Tryz.zeroValue0
  t3 := Tryz.underlying3
  a3 := Tryz.isAgg3
  z3 := Tryz.sizeOf3
  v3 := Tryz.zeroValue3
  t4 := Tryz.underlying4
  a4 := Tryz.isAgg4
  z4 := Tryz.sizeOf4
  v4 := Tryz.zeroValue4
  t5 := Tryz.underlying5
  a5 := Tryz.isAgg5
  z5 := Tryz.sizeOf5
  v5 := Tryz.zeroValue5
  t9 := Tryz.underlying9
  a9 := Tryz.isAgg9
  z9 := Tryz.sizeOf9
  v9 := Tryz.zeroValue9
  t12 := Tryz.underlying12
  a12 := Tryz.isAgg12
  z12 := Tryz.sizeOf12
  v12 := Tryz.zeroValue12
  t46 := Tryz.underlying189
  a46 := Tryz.isAgg189
  z46 := Tryz.sizeOf189
  v46 := Tryz.zeroValue189
  t53 := Tryz.underlying211
  a53 := Tryz.isAgg211
  z53 := Tryz.sizeOf211
  v53 := Tryz.zeroValue211
  t119 := Tryz.underlying252
  a119 := Tryz.isAgg252
  z119 := Tryz.sizeOf252
  t138 := Tryz.underlying254
  a138 := Tryz.isAgg254
  z138 := Tryz.sizeOf254
  v138 := Tryz.zeroValue254
  t139 := Tryz.underlying255
  a139 := Tryz.isAgg255
  z139 := Tryz.sizeOf255
  v139 := Tryz.zeroValue255
  g3 := by kernel_rfl
  g4 := by kernel_rfl }

theorem validString_lies (s : ByteArray) (w : World) (hs : s.size ≤ 9223372036854775807) (hT : Lib.Utf8Tabs 0 1 w) :
    Calls Tryz.prog 191 #[.string s] w fun e w' => e = .returned (.bool (Lib.validD s.data.toList)) ∧ Below w.heap.size w w' :=
  Any.utf8_ValidString Tryz.laysValid s w hs hT
end Go.Proofs.YthejmnmkbldacaaGreatDoor

namespace Go.Proofs.YthejmnmkbldacaaGreatDoor
open Go.RowKit
attribute [local go_sem] Tab.Env.ev Tab.Env.get

/-- the tables of unicode/utf8 lie in memory -/
def Tabs (w : World) : Prop := Lib.Utf8Tabs 0 1 w
theorem Tabs.lt {w : World} (h : Tabs w) : 0 < w.heap.size ∧ 1 < w.heap.size := by
  have h1 := h.1 0 (by omega)
  have h2 := (h.2 0 (by omega)).1
  have f : ∀ (b o : Nat) (v : Value), w.cell? ⟨b, o, none⟩ = some v → b < w.heap.size := fun b o v hc => by
    rcases Nat.lt_or_ge b w.heap.size with h' | h'
    · exact h'
    · simp [World.cell?, Array.getElem?_eq_none h'] at hc
  exact ⟨f _ _ _ h1, f _ _ _ h2⟩
theorem Tabs.ext {M : Nat → Prop} {w w' : World} (h : Tabs w) (hb : Tab.Ext M w w') (h1 : ¬ M 0) (h2 : ¬ M 1) : Tabs w' :=
  ⟨fun c hc => (hb.cell (p := ⟨0, c, none⟩) h.lt.1 h1).trans (h.1 c hc), fun i hi => ⟨(hb.cell (p := ⟨1, 2 * i, none⟩) h.lt.2 h2).trans (h.2 i hi).1, (hb.cell (p := ⟨1, 2 * i + 1, none⟩) h.lt.2 h2).trans (h.2 i hi).2⟩⟩
theorem Tabs.later {w w' : World} (h : Tabs w) (hb : Below w.heap.size w w') : Tabs w' := h.ext (M := fun _ => False) (Tab.Ext.of_below hb) id id
/-- a block of whole numbers is no table -/
theorem Tabs.ne_int {w : World} (h : Tabs w) {g : Nat} {t : TypeId} {n : Int} {cs : List Value} (hb : Blk w g t (.int .i64 n :: cs)) : g ≠ 0 ∧ g ≠ 1 := by
  have hc := hb.cell 0
  simp only [List.getElem?_cons_zero] at hc
  refine ⟨fun e => ?_, fun e => ?_⟩
  · subst e
    have := (h.1 0 (by omega)).symm.trans hc
    simp at this
  · subst e
    have := ((h.2 0 (by omega)).1).symm.trans hc
    simp at this

/-- a rune from place pos on is a control character -/
def ctl (s : ByteArray) : Nat → Nat → Bool
  | 0, _ => false
  | b + 1, pos => if pos < s.size then (if (Utf8.decode s pos).1 < 32 ∨ (Utf8.decode s pos).1 = 127 then true else ctl s b (pos + (Utf8.decode s pos).2)) else false
theorem ctl_end (s : ByteArray) (b pos : Nat) (h : ¬ pos < s.size) : ctl s b pos = false := by
  cases b with
  | zero => rfl
  | succ b => simp [ctl, h]
theorem width_pos (s : ByteArray) (pos : Nat) (h : pos < s.size) : 1 ≤ (Utf8.decode s pos).2 := by
  by_cases ha : (s[pos]'h).toNat < 128
  · rw [decode_ascii s pos h ha]
    exact Nat.le_refl _
  · exact (decode_high s pos h (by omega)).2
/-- the text of a sound Text -/
def textOk (s : ByteArray) : Bool := decide (s.size ≤ 256) && (Lib.validD s.data.toList && !ctl s s.size 0)

set_option maxHeartbeats 1000000 in
theorem text_any (s : ByteArray) (hs : s.size ≤ maxLen) (w : World) (hT : Tabs w) :
    Calls Tryz.prog 225 #[.string s] w fun e w' => e = .returned (.bool (textOk s)) ∧ Below w.heap.size w w' := by
  unfold maxLen at hs
  by_cases h256 : s.size ≤ 256
  · have hd : decide ((256 : Int) < (s.size : Int)) = false := by simp; omega
    have hd2 : ¬ ((256 : Int) < (s.size : Int)) := by omega
    have HV := Lib.hid (validString_lies s w (by omega) hT)
    have HB := Lib.hid (show textOk s = (Lib.validD s.data.toList && !ctl s s.size 0) by unfold textOk; rw [decide_eq_true h256, Bool.true_and])
    clear hT
    rw [HB.out]
    generalize Lib.validD s.data.toList = V at *
    clear HB
    go_enter Tryz.func225, Tryz.ntmps225
    go_wp2_with fail
    refine HV.out.mono ?_
    rintro e w1 ⟨rfl, hb⟩
    clear HV
    cases V with
    | false =>
      go_wp2_with fail
      go_ret
      exact ⟨rfl, hb⟩
    | true =>
      go_wp2_with fail
      have HB0 := Lib.hid hb
      have hz := hb.size
      go_loopw [2, 4] (fun _ _ w' => ∃ (pos b : Nat), w' = w1.iter s pos ∧ Hid (ctl s b pos = ctl s s.size 0) ∧ s.size ≤ pos + b) (fun _ _ w' => s.size - w'.iterPos w1.heap.size)
      case atStart => exact ⟨0, s.size, rfl, Lib.hid rfl, by omega⟩
      case round =>
        obtain ⟨pos, b, rfl, HC, hbb⟩ := hrel
        by_cases hp : pos < s.size
        · have hnx : ∀ ty, (Instr.next (.pointer (some ⟨w1.heap.size, 0, none⟩)) true ty).run Tryz.prog (w1.iter s pos) = _ := fun ty => run_next_any w1 s pos ty hp
          obtain ⟨b, rfl⟩ : ∃ b', b = b' + 1 := ⟨b - 1, by omega⟩
          have hwd := width_pos s pos hp
          have HS := Lib.hid (show ctl s (b + 1) pos = if (Utf8.decode s pos).1 < 32 ∨ (Utf8.decode s pos).1 = 127 then true else ctl s b (pos + (Utf8.decode s pos).2) by rw [ctl, if_pos hp])
          generalize hr : (Utf8.decode s pos).1 = r at *
          generalize hwi : (Utf8.decode s pos).2 = wd at *
          clear hr hwi
          by_cases h1 : r < 32
          · have hd1 : decide ((r : Int) < 32) = true := by simp; omega
            have HF := Lib.hid (show ctl s s.size 0 = true by rw [← HC.out, HS.out, if_pos (.inl h1)])
            clear h1
            go_wp2_with fail
            go_ret
            exact ⟨ret_bool (by rw [HF.out]; rfl), HB0.out.trans ((below_new w1 _).mono hz)⟩
          · have hd1 : decide ((r : Int) < 32) = false := by simp; omega
            by_cases h2 : r = 127
            · have hd2 : ((r : Int) == 127) = true := by simp; omega
              have HF := Lib.hid (show ctl s s.size 0 = true by rw [← HC.out, HS.out, if_pos (.inr h2)])
              clear h1 h2
              go_wp2_with fail
              go_ret
              exact ⟨ret_bool (by rw [HF.out]; rfl), HB0.out.trans ((below_new w1 _).mono hz)⟩
            · have hd2 : ((r : Int) == 127) = false := by simp; omega
              have HF := Lib.hid (show ctl s b (pos + wd) = ctl s s.size 0 by rw [← HC.out, HS.out, if_neg (fun h => h.elim h1 h2)])
              clear h1 h2
              go_wp2_with fail
              go_roundw
              case rel => exact ⟨pos + wd, b, rfl, HF, by omega⟩
              case measure => simp; omega
        · have hnx : ∀ ty, (Instr.next (.pointer (some ⟨w1.heap.size, 0, none⟩)) true ty).run Tryz.prog (w1.iter s pos) = _ := fun ty => run_next_end w1 s pos ty hp
          have HF := Lib.hid (show ctl s s.size 0 = false by rw [← HC.out, ctl_end s b pos hp])
          go_wp2_with fail
          go_ret
          exact ⟨ret_bool (by rw [HF.out]; rfl), HB0.out.trans ((below_new w1 _).mono hz)⟩
  · have hd : decide ((256 : Int) < (s.size : Int)) = true := by simp; omega
    have HB := Lib.hid (show textOk s = false by unfold textOk; rw [decide_eq_false h256, Bool.false_and])
    clear h256 hT
    rw [HB.out]
    go_enter Tryz.func225, Tryz.ntmps225
    go_wp2_with fail
    go_ret
    exact ⟨rfl, Below.refl _ _⟩
end Go.Proofs.YthejmnmkbldacaaGreatDoor

namespace Go.Proofs.YthejmnmkbldacaaGreatDoor
open Go.RowKit
attribute [local go_sem] Tab.Env.ev Tab.Env.get

theorem get_bang (s : ByteArray) (i : Nat) (h : i < s.size) : s.get! i = s[i]'h := by
  simp [ByteArray.get!, getElem!_pos, h]
  rfl
theorem decode_mid (s : ByteArray) (pos : Nat) (h : pos < s.size) (ha : 128 ≤ (s[pos]'h).toNat) (k : Nat) (h2 : k < (Utf8.decode s pos).2) (hi : pos + k < s.size) : 128 ≤ (s[pos + k]'hi).toNat := by
  rw [← get_bang s (pos + k) hi]
  have hn : ¬ (s[pos]'h).toNat < 128 := by omega
  have h0 : 128 ≤ (s.get! (pos + 0)).toNat := by rw [get_at s pos h]; exact ha
  match k, h2 with
  | 0, _ => exact h0
  | 1, h2 =>
    simp only [Utf8.decode, get_at s pos h, hn, if_false] at h2
    revert h2
    repeat' split
    all_goals simp_all
    all_goals omega
  | 2, h2 =>
    simp only [Utf8.decode, get_at s pos h, hn, if_false] at h2
    revert h2
    repeat' split
    all_goals simp_all
    all_goals omega
  | 3, h2 =>
    simp only [Utf8.decode, get_at s pos h, hn, if_false] at h2
    revert h2
    repeat' split
    all_goals simp_all
    all_goals omega
  | k + 4, h2 =>
    exfalso
    simp only [Utf8.decode, get_at s pos h, hn, if_false] at h2
    revert h2
    repeat' split
    all_goals simp_all
    all_goals omega
def badB (b : UInt8) : Prop := b.toNat < 32 ∨ b.toNat = 127
theorem ctl_iff (s : ByteArray) : ∀ b pos, s.size ≤ pos + b → (ctl s b pos = true ↔ ∃ i, ∃ h : i < s.size, pos ≤ i ∧ badB (s[i]'h))
  | 0, pos, hb => by
    simp only [ctl]
    constructor
    · intro h; cases h
    · rintro ⟨i, h, h1, _⟩; omega
  | b + 1, pos, hb => by
    rw [ctl]
    by_cases hp : pos < s.size
    · rw [if_pos hp]
      have hw := width_pos s pos hp
      by_cases ha : (s[pos]'hp).toNat < 128
      · rw [decode_ascii s pos hp ha]
        dsimp only
        by_cases hbad : badB s[pos]
        · rw [if_pos (show (s[pos]'hp).toNat < 32 ∨ (s[pos]'hp).toNat = 127 from hbad)]
          exact ⟨fun _ => ⟨pos, hp, Nat.le_refl _, hbad⟩, fun _ => rfl⟩
        · rw [if_neg (show ¬ ((s[pos]'hp).toNat < 32 ∨ (s[pos]'hp).toNat = 127) from hbad)]
          rw [ctl_iff s b (pos + 1) (by omega)]
          constructor
          · rintro ⟨i, h, h1, h2⟩; exact ⟨i, h, by omega, h2⟩
          · rintro ⟨i, h, h1, h2⟩
            refine ⟨i, h, ?_, h2⟩
            rcases Nat.lt_or_eq_of_le h1 with h1 | rfl
            · omega
            · exact absurd h2 hbad
      · have hh := decode_high s pos hp (by omega)
        rw [if_neg (by omega), ctl_iff s b _ (by omega)]
        constructor
        · rintro ⟨i, h, h1, h2⟩; exact ⟨i, h, by omega, h2⟩
        · rintro ⟨i, h, h1, h2⟩
          refine ⟨i, h, ?_, h2⟩
          refine Classical.byContradiction fun hlt => ?_
          obtain ⟨k, rfl⟩ : ∃ k, i = pos + k := ⟨i - pos, by omega⟩
          have := decode_mid s pos hp (by omega) k (by omega) h
          rcases h2 with h2 | h2 <;> omega
    · rw [if_neg hp]
      constructor
      · intro h; cases h
      · rintro ⟨i, h, h1, _⟩; omega
theorem textOk_eq (s : ByteArray) (h1 : s.size ≤ 256) (h2 : Lib.validD s.data.toList = true) (h3 : ∀ i (h : i < s.size), ¬ badB (s[i]'h)) : textOk s = true := by
  unfold textOk
  have e : ctl s s.size 0 = false := by
    cases hc : ctl s s.size 0 with
    | false => rfl
    | true =>
      obtain ⟨i, h, _, hb⟩ := (ctl_iff s s.size 0 (by omega)).1 hc
      exact absurd hb (h3 i h)
  rw [decide_eq_true h1, h2, e]
  rfl
theorem textOk_bad (s : ByteArray) (i : Nat) (h : i < s.size) (hb : badB (s[i]'h)) : textOk s = false := by
  unfold textOk
  have e : ctl s s.size 0 = true := (ctl_iff s s.size 0 (by omega)).2 ⟨i, h, Nat.zero_le _, hb⟩
  rw [e]
  simp
theorem textOk_long (s : ByteArray) (h : 256 < s.size) : textOk s = false := by
  unfold textOk
  rw [decide_eq_false (by omega)]
  rfl
theorem textOk_invalid (s : ByteArray) (h : Lib.validD s.data.toList = false) : textOk s = false := by
  unfold textOk
  rw [h]
  simp

set_option maxHeartbeats 1000000 in
theorem characters_any (s : ByteArray) (hs : s.size ≤ maxLen) (w : World) (hT : Tabs w) :
    Calls Tryz.prog 154 #[.string s] w fun e w' => e = .returned (.bool (textOk s)) ∧ Below w.heap.size w w' := by
  unfold maxLen at hs
  have HV := Lib.hid (validString_lies s w (by omega) hT)
  clear hT
  cases hV : Lib.validD s.data.toList with
  | false =>
    have HR := Lib.hid (textOk_invalid s hV)
    rw [hV] at HV
    rw [HR.out]
    clear hV
    go_enter Tryz.func154, Tryz.ntmps154
    go_wp2_with fail
    refine HV.out.mono ?_
    rintro e w1 ⟨rfl, hb⟩
    go_wp2_with fail
    go_ret
    exact ⟨rfl, hb⟩
  | true =>
    rw [hV] at HV
    have HVV := Lib.hid hV
    clear hV
    by_cases h256 : s.size ≤ 256
    · have hd : decide ((256 : Int) < (s.size : Int)) = false := by simp; omega
      go_enter Tryz.func154, Tryz.ntmps154
      go_wp2_with fail
      refine HV.out.mono ?_
      rintro e w1 ⟨rfl, hb⟩
      have HB := Lib.hid hb
      clear HV hb
      go_wp2_with fail
      go_loop [2, 3] (fun _ i => ∃ k : Nat, k ≤ s.size ∧ i = .int .i64 k ∧ Hid (∀ j (h : j < s.size), j < k → ¬ badB (s[j]'h))) (fun _ i => s.size - (intOf i).toNat)
      case atStart => exact ⟨0, Nat.zero_le _, rfl, Lib.hid fun j _ h => absurd h (Nat.not_lt_zero j)⟩
      case round =>
        obtain ⟨k, hk, rfl, HJ⟩ := hrel
        by_cases hlt : k < s.size
        · by_cases hbad : badB s[k]
          · have HRES := Lib.hid (textOk_bad s k hlt hbad)
            unfold badB at hbad
            by_cases h1 : s[k].toNat < 32
            · have hd1 : decide ((s[k].toNat : Int) < 32) = true := by simp; omega
              clear hbad
              go_wp2_with fail
              go_ret
              exact ⟨ret_bool HRES.out.symm, HB.out⟩
            · have hd1 : decide ((s[k].toNat : Int) < 32) = false := by simp; omega
              have hd2 : ((s[k].toNat : Int) == 127) = true := by simp; omega
              clear hbad
              go_wp2_with fail
              go_ret
              exact ⟨ret_bool HRES.out.symm, HB.out⟩
          · have HJ2 := Lib.hid (show ∀ j (h : j < s.size), j < k + 1 → ¬ badB (s[j]'h) from fun j h hj => by
              by_cases hjk : j < k
              · exact HJ.out j h hjk
              · obtain rfl : j = k := by omega
                exact hbad)
            unfold badB at hbad
            have hd1 : decide ((s[k].toNat : Int) < 32) = false := by simp; omega
            have hd2 : ((s[k].toNat : Int) == 127) = false := by simp; omega
            clear hbad
            go_wp2_with fail
            go_round
            case rel => exact ⟨k + 1, hlt, by go_num, HJ2⟩
            case measure => simp [intOf]; omega
        · obtain rfl : k = s.size := by omega
          have HRES := Lib.hid (textOk_eq s h256 HVV.out fun i h => HJ.out i h h)
          go_wp2_with fail
          go_ret
          exact ⟨ret_bool HRES.out.symm, HB.out⟩
    · have hd : decide ((256 : Int) < (s.size : Int)) = true := by simp; omega
      have HR := Lib.hid (textOk_long s (by omega))
      rw [HR.out]
      clear h256
      go_enter Tryz.func154, Tryz.ntmps154
      go_wp2_with fail
      refine HV.out.mono ?_
      rintro e w1 ⟨rfl, hb⟩
      go_wp2_with fail
      go_ret
      exact ⟨rfl, hb⟩
end Go.Proofs.YthejmnmkbldacaaGreatDoor
