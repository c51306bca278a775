/-
  What is proved: slices.IndexFunc and slices.ContainsFunc of differences and of values, whatever function value is handed in. Conditions: what the function value does at each element.
  What is proved: rows that a call builds; package value's Copy returns an equal value in new memory. Conditions: no list in the value has 2^30 elements or more.
-/
import Derived.Test.YthejmnmkbldacaaGreatDoorGm12
import Derived.Maps.AppendAt
set_option linter.all false
namespace Go.Proofs.YthejmnmkbldacaaGreatDoor
open Go.RowKit
attribute [local go_sem] Tab.Env.ev Tab.Env.get

def IdxPost (p : Nat → Bool) (n : Nat) (I Fin : Nat → World → Prop) (e : Ending) (w' : World) : Prop :=
  (e = .returned (.int .i64 (-1)) ∧ (∀ i, i < n → p i = false) ∧ I n w') ∨ ∃ i : Nat, i < n ∧ e = .returned (.int .i64 i) ∧ p i = true ∧ (∀ j, j < i → p j = false) ∧ Fin i w'
def AnyPost (p : Nat → Bool) (n : Nat) (I Fin : Nat → World → Prop) (e : Ending) (w' : World) : Prop :=
  (e = .returned (.bool false) ∧ (∀ i, i < n → p i = false) ∧ I n w') ∨ ∃ i : Nat, i < n ∧ e = .returned (.bool true) ∧ p i = true ∧ (∀ j, j < i → p j = false) ∧ Fin i w'
theorem rd_shape {w : World} {F F' : Nat → Prop} {v : Value} {l : List DE} (h : RD w F F' v l) : ∃ A c, v = .slice A l.length c ∧ l.length ≤ c ∧ c ≤ maxLen := let ⟨A, c, h1, h2, h3, _⟩ := h.sl.2; ⟨A, c, h1, h2, h3⟩
theorem ri_shape {w : World} {F : Nat → Prop} {v : Value} {l : List VD} (h : RI w F v l) : ∃ A c, v = .slice A l.length c ∧ l.length ≤ c ∧ c ≤ maxLen := let ⟨A, c, _, _, h1, h2, h3, _⟩ := h.shape; ⟨A, c, h1, h2, h3⟩

set_option maxHeartbeats 400000 in
theorem indexD_any (f : FuncId) (hcf : ∀ (args : Array Value) (w : World), (callFunc f args).run Tryz.prog w = .ok (.enter f args) w) (F F' : Nat → Prop) (v : Value) (l : List DE) (hn : l.length < 1073741824) (p : Nat → Bool) (I Fin : Nat → World → Prop) (w : World) (h0 : I 0 w)
    (hI : ∀ i w1, I i w1 → RD w1 F F' v l) (HC : ∀ i w1, i < l.length → I i w1 → Calls Tryz.prog f #[(dat l i).val] w1 fun e w2 => e = .returned (.bool (p i)) ∧ (p i = true → Fin i w2) ∧ (p i = false → I (i + 1) w2)) :
    Calls Tryz.prog 148 #[v, .func (.func f) #[] #[]] w (IdxPost p l.length I Fin) := by
  obtain ⟨A, c, rfl, hcap, hmax⟩ : ∃ A c, v = .slice A l.length c ∧ l.length ≤ c ∧ c ≤ maxLen := rd_shape (hI 0 w h0)
  unfold maxLen at hmax
  have HI := Lib.hid hI
  have HCC := Lib.hid HC
  obtain ⟨n, hln⟩ : ∃ n, l.length = n := ⟨_, rfl⟩
  rw [hln] at hcap hn ⊢
  have HN := Lib.hid hln
  clear hI HC hln
  have H0 := Lib.hid h0
  clear h0
  go_enter Tryz.func148, Tryz.ntmps148
  go_wp2_with fail
  go_loopw [5, 8] (fun _ i wr => ∃ k : Nat, k ≤ n ∧ i = .int .i64 k ∧ Hid (I k wr) ∧ Hid (∀ j, j < k → p j = false)) (fun _ i _ => n - (intOf i).toNat)
  case atStart => exact ⟨0, Nat.zero_le _, rfl, H0, Lib.hid fun j h => absurd h (Nat.not_lt_zero j)⟩
  case round =>
    obtain ⟨k, hk, rfl, HK, HJ⟩ := hrel
    by_cases hlt : k < n
    · obtain ⟨b, off, c', A', m1, c1, r1, n1, hv, -, -, hlt1, e1, g1, q1, q2⟩ := (HI.out k wr HK.out).at_ (i := k) (by rw [HN.out]; exact hlt)
      injection hv with hA _ hcc
      subst hA
      subst hcc
      have hq := HCC.out k wr (by rw [HN.out]; exact hlt) HK.out
      rw [e1] at hq
      have hq := Lib.hid hq
      clear e1 g1
      go_wp2_with fail
      refine hq.out.mono ?_
      rintro e w1 ⟨rfl, o1, o2⟩
      cases hp : p k with
      | true =>
        have O := Lib.hid (o1 hp)
        have HP := Lib.hid hp
        clear o1 o2 hq hp
        go_wp2_with fail
        go_ret
        exact .inr ⟨k, hlt, rfl, HP.out, HJ.out, O.out⟩
      | false =>
        have O := Lib.hid (o2 hp)
        have HJ2 := Lib.hid (show ∀ j, j < k + 1 → p j = false from fun j hj => by
          by_cases hjk : j < k
          · exact HJ.out j hjk
          · obtain rfl : j = k := by omega
            exact hp)
        clear o1 o2 hq hp
        go_wp2_with fail
        go_roundw
        case rel => exact ⟨k + 1, hlt, by go_num, O, HJ2⟩
        case measure => simp [intOf] <;> omega
    · obtain rfl : k = n := by omega
      go_wp2_with fail
      go_ret
      exact .inl ⟨rfl, HJ.out, HK.out⟩
set_option maxHeartbeats 400000 in
theorem containsD_any (f : FuncId) (hcf : ∀ (args : Array Value) (w : World), (callFunc f args).run Tryz.prog w = .ok (.enter f args) w) (F F' : Nat → Prop) (v : Value) (l : List DE) (hn : l.length < 1073741824) (p : Nat → Bool) (I Fin : Nat → World → Prop) (w : World) (h0 : I 0 w)
    (hI : ∀ i w1, I i w1 → RD w1 F F' v l) (HC : ∀ i w1, i < l.length → I i w1 → Calls Tryz.prog f #[(dat l i).val] w1 fun e w2 => e = .returned (.bool (p i)) ∧ (p i = true → Fin i w2) ∧ (p i = false → I (i + 1) w2)) :
    Calls Tryz.prog 109 #[v, .func (.func f) #[] #[]] w (AnyPost p l.length I Fin) := by
  have H := Lib.hid (indexD_any f  hcf F F' v l hn p I Fin w h0 hI HC)
  clear hI HC h0
  go_enter Tryz.func109, Tryz.ntmps109
  go_wp2_with fail
  refine H.out.mono ?_
  rintro e w1 (⟨rfl, o1, o2⟩ | ⟨i, hi, rfl, o1, o2, o3⟩)
  · have O := Lib.hid (And.intro o1 o2)
    clear o1 o2
    go_wp2_with fail
    go_ret
    exact .inl ⟨by simp, O.out.1, O.out.2⟩
  · have O := Lib.hid (And.intro o1 (And.intro o2 o3))
    clear o1 o2 o3
    have hge : (0 : Int) ≤ (i : Int) := by omega
    go_wp2_with fail
    go_ret
    exact .inr ⟨i, hi, by simp, O.out.1, O.out.2.1, O.out.2.2⟩

set_option maxHeartbeats 400000 in
theorem indexV_any (f : FuncId) (hcf : ∀ (args : Array Value) (w : World), (callFunc f args).run Tryz.prog w = .ok (.enter f args) w) (F : Nat → Prop) (v : Value) (l : List VD) (p : Nat → Bool) (I Fin : Nat → World → Prop) (w : World) (h0 : I 0 w)
    (hI : ∀ i w1, I i w1 → RI w1 F v l) (HC : ∀ i w1, i < l.length → I i w1 → ∀ va, VAgg w1 F va (at_ l i) → Calls Tryz.prog f #[va] w1 fun e w2 => e = .returned (.bool (p i)) ∧ (p i = true → Fin i w2) ∧ (p i = false → I (i + 1) w2)) :
    Calls Tryz.prog 156 #[v, .func (.func f) #[] #[]] w (IdxPost p l.length I Fin) := by
  obtain ⟨A, c, rfl, hcap, hmax⟩ : ∃ A c, v = .slice A l.length c ∧ l.length ≤ c ∧ c ≤ maxLen := ri_shape (hI 0 w h0)
  unfold maxLen at hmax
  have hok : ∀ i, i < l.length → (at_ l i).ok := let ⟨_, _, _, _, _, _, _, _, h, _⟩ := (hI 0 w h0).shape; h
  have HI := Lib.hid hI
  have HCC := Lib.hid HC
  obtain ⟨n, hln⟩ : ∃ n, l.length = n := ⟨_, rfl⟩
  rw [hln] at hcap ⊢
  have HN := Lib.hid hln
  clear hI HC hln
  have H0 := Lib.hid h0
  clear h0
  go_enter Tryz.func156, Tryz.ntmps156
  go_wp2_with fail
  go_loopw [5, 8] (fun _ i wr => ∃ k : Nat, k ≤ n ∧ i = .int .i64 k ∧ Hid (I k wr) ∧ Hid (∀ j, j < k → p j = false)) (fun _ i _ => n - (intOf i).toNat)
  case atStart => exact ⟨0, Nat.zero_le _, rfl, H0, Lib.hid fun j h => absurd h (Nat.not_lt_zero j)⟩
  case round =>
    obtain ⟨k, hk, rfl, HK, HJ⟩ := hrel
    by_cases hlt : k < n
    · obtain ⟨A', c', iA, iC, hv, -, -, hs, -, hr⟩ := (HI.out k wr HK.out).shape
      obtain ⟨b, off, hA', -, hlt1, hcells⟩ := hs (by rw [HN.out]; omega)
      rw [hA'] at hv
      injection hv with hA _ hcc
      subst hA
      subst hcc
      have q := hcells k (by rw [HN.out]; exact hlt)
      have hq := HCC.out k wr (by rw [HN.out]; exact hlt) HK.out (tx (at_ l k) (iA k) (iC k)) ⟨_, _, rfl, hok k (by rw [HN.out]; exact hlt), hr k (by rw [HN.out]; exact hlt)⟩
      obtain ⟨q1, q2, q3, q4, q5⟩ := q
      unfold tx at hq
      have hq := Lib.hid hq
      generalize at_ l k = x at *
      clear hcells hr hs hA'
      go_wp2_with fail
      refine hq.out.mono ?_
      rintro e w1 ⟨rfl, o1, o2⟩
      cases hp : p k with
      | true =>
        have O := Lib.hid (o1 hp)
        have HP := Lib.hid hp
        clear o1 o2 hq hp
        go_wp2_with fail
        go_ret
        exact .inr ⟨k, hlt, rfl, HP.out, HJ.out, O.out⟩
      | false =>
        have O := Lib.hid (o2 hp)
        have HJ2 := Lib.hid (show ∀ j, j < k + 1 → p j = false from fun j hj => by
          by_cases hjk : j < k
          · exact HJ.out j hjk
          · obtain rfl : j = k := by omega
            exact hp)
        clear o1 o2 hq hp
        go_wp2_with fail
        go_roundw
        case rel => exact ⟨k + 1, hlt, by go_num, O, HJ2⟩
        case measure => simp [intOf] <;> omega
    · obtain rfl : k = n := by omega
      go_wp2_with fail
      go_ret
      exact .inl ⟨rfl, HJ.out, HK.out⟩
set_option maxHeartbeats 400000 in
theorem containsV_any (f : FuncId) (hcf : ∀ (args : Array Value) (w : World), (callFunc f args).run Tryz.prog w = .ok (.enter f args) w) (F : Nat → Prop) (v : Value) (l : List VD) (p : Nat → Bool) (I Fin : Nat → World → Prop) (w : World) (h0 : I 0 w)
    (hI : ∀ i w1, I i w1 → RI w1 F v l) (HC : ∀ i w1, i < l.length → I i w1 → ∀ va, VAgg w1 F va (at_ l i) → Calls Tryz.prog f #[va] w1 fun e w2 => e = .returned (.bool (p i)) ∧ (p i = true → Fin i w2) ∧ (p i = false → I (i + 1) w2)) :
    Calls Tryz.prog 120 #[v, .func (.func f) #[] #[]] w (AnyPost p l.length I Fin) := by
  have H := Lib.hid (indexV_any f  hcf F v l p I Fin w h0 hI HC)
  clear hI HC h0
  go_enter Tryz.func120, Tryz.ntmps120
  go_wp2_with fail
  refine H.out.mono ?_
  rintro e w1 (⟨rfl, o1, o2⟩ | ⟨i, hi, rfl, o1, o2, o3⟩)
  · have O := Lib.hid (And.intro o1 o2)
    clear o1 o2
    go_wp2_with fail
    go_ret
    exact .inl ⟨by simp, O.out.1, O.out.2⟩
  · have O := Lib.hid (And.intro o1 (And.intro o2 o3))
    clear o1 o2 o3
    have hge : (0 : Int) ≤ (i : Int) := by omega
    go_wp2_with fail
    go_ret
    exact .inr ⟨i, hi, by simp, O.out.1, O.out.2.1, O.out.2.2⟩

set_option maxHeartbeats 400000 in
theorem indexV2_any (f : FuncId) (P1 P2 : Value) (hcf : ∀ (args : Array Value) (w : World), (callFunc f args).run Tryz.prog w = .ok (.enter f args) w) (F : Nat → Prop) (v : Value) (l : List VD) (p : Nat → Bool) (I Fin : Nat → World → Prop) (w : World) (h0 : I 0 w)
    (hI : ∀ i w1, I i w1 → RI w1 F v l) (HC : ∀ i w1, i < l.length → I i w1 → ∀ va, VAgg w1 F va (at_ l i) → Calls Tryz.prog f #[va, P1, P2] w1 fun e w2 => e = .returned (.bool (p i)) ∧ (p i = true → Fin i w2) ∧ (p i = false → I (i + 1) w2)) :
    Calls Tryz.prog 156 #[v, .func (.func f) #[] #[P1, P2]] w (IdxPost p l.length I Fin) := by
  obtain ⟨A, c, rfl, hcap, hmax⟩ : ∃ A c, v = .slice A l.length c ∧ l.length ≤ c ∧ c ≤ maxLen := ri_shape (hI 0 w h0)
  unfold maxLen at hmax
  have hok : ∀ i, i < l.length → (at_ l i).ok := let ⟨_, _, _, _, _, _, _, _, h, _⟩ := (hI 0 w h0).shape; h
  have HI := Lib.hid hI
  have HCC := Lib.hid HC
  obtain ⟨n, hln⟩ : ∃ n, l.length = n := ⟨_, rfl⟩
  rw [hln] at hcap ⊢
  have HN := Lib.hid hln
  clear hI HC hln
  have H0 := Lib.hid h0
  clear h0
  go_enter Tryz.func156, Tryz.ntmps156
  go_wp2_with fail
  go_loopw [5, 8] (fun _ i wr => ∃ k : Nat, k ≤ n ∧ i = .int .i64 k ∧ Hid (I k wr) ∧ Hid (∀ j, j < k → p j = false)) (fun _ i _ => n - (intOf i).toNat)
  case atStart => exact ⟨0, Nat.zero_le _, rfl, H0, Lib.hid fun j h => absurd h (Nat.not_lt_zero j)⟩
  case round =>
    obtain ⟨k, hk, rfl, HK, HJ⟩ := hrel
    by_cases hlt : k < n
    · obtain ⟨A', c', iA, iC, hv, -, -, hs, -, hr⟩ := (HI.out k wr HK.out).shape
      obtain ⟨b, off, hA', -, hlt1, hcells⟩ := hs (by rw [HN.out]; omega)
      rw [hA'] at hv
      injection hv with hA _ hcc
      subst hA
      subst hcc
      have q := hcells k (by rw [HN.out]; exact hlt)
      have hq := HCC.out k wr (by rw [HN.out]; exact hlt) HK.out (tx (at_ l k) (iA k) (iC k)) ⟨_, _, rfl, hok k (by rw [HN.out]; exact hlt), hr k (by rw [HN.out]; exact hlt)⟩
      obtain ⟨q1, q2, q3, q4, q5⟩ := q
      unfold tx at hq
      have hq := Lib.hid hq
      generalize at_ l k = x at *
      clear hcells hr hs hA'
      go_wp2_with fail
      refine hq.out.mono ?_
      rintro e w1 ⟨rfl, o1, o2⟩
      cases hp : p k with
      | true =>
        have O := Lib.hid (o1 hp)
        have HP := Lib.hid hp
        clear o1 o2 hq hp
        go_wp2_with fail
        go_ret
        exact .inr ⟨k, hlt, rfl, HP.out, HJ.out, O.out⟩
      | false =>
        have O := Lib.hid (o2 hp)
        have HJ2 := Lib.hid (show ∀ j, j < k + 1 → p j = false from fun j hj => by
          by_cases hjk : j < k
          · exact HJ.out j hjk
          · obtain rfl : j = k := by omega
            exact hp)
        clear o1 o2 hq hp
        go_wp2_with fail
        go_roundw
        case rel => exact ⟨k + 1, hlt, by go_num, O, HJ2⟩
        case measure => simp [intOf] <;> omega
    · obtain rfl : k = n := by omega
      go_wp2_with fail
      go_ret
      exact .inl ⟨rfl, HJ.out, HK.out⟩
set_option maxHeartbeats 400000 in
theorem containsV2_any (f : FuncId) (P1 P2 : Value) (hcf : ∀ (args : Array Value) (w : World), (callFunc f args).run Tryz.prog w = .ok (.enter f args) w) (F : Nat → Prop) (v : Value) (l : List VD) (p : Nat → Bool) (I Fin : Nat → World → Prop) (w : World) (h0 : I 0 w)
    (hI : ∀ i w1, I i w1 → RI w1 F v l) (HC : ∀ i w1, i < l.length → I i w1 → ∀ va, VAgg w1 F va (at_ l i) → Calls Tryz.prog f #[va, P1, P2] w1 fun e w2 => e = .returned (.bool (p i)) ∧ (p i = true → Fin i w2) ∧ (p i = false → I (i + 1) w2)) :
    Calls Tryz.prog 120 #[v, .func (.func f) #[] #[P1, P2]] w (AnyPost p l.length I Fin) := by
  have H := Lib.hid (indexV2_any f P1 P2 hcf F v l p I Fin w h0 hI HC)
  clear hI HC h0
  go_enter Tryz.func120, Tryz.ntmps120
  go_wp2_with fail
  refine H.out.mono ?_
  rintro e w1 (⟨rfl, o1, o2⟩ | ⟨i, hi, rfl, o1, o2, o3⟩)
  · have O := Lib.hid (And.intro o1 o2)
    clear o1 o2
    go_wp2_with fail
    go_ret
    exact .inl ⟨by simp, O.out.1, O.out.2⟩
  · have O := Lib.hid (And.intro o1 (And.intro o2 o3))
    clear o1 o2 o3
    have hge : (0 : Int) ≤ (i : Int) := by omega
    go_wp2_with fail
    go_ret
    exact .inr ⟨i, hi, by simp, O.out.1, O.out.2.1, O.out.2.2⟩
end Go.Proofs.YthejmnmkbldacaaGreatDoor

namespace Go.Proofs.YthejmnmkbldacaaGreatDoor
open Go.RowKit
attribute [local go_sem] Tab.Env.ev Tab.Env.get

/-- what an append onto a row of the call's own leaves alone -/
structure Kept (wr w' : World) (v v' : Value) : Prop where
  size : wr.heap.size ≤ w'.heap.size
  block : ∀ b, b < wr.heap.size → v.ownBlock ≠ some b → w'.heap[b]? = wr.heap[b]? ∧ v'.ownBlock ≠ some b
theorem Kept.ri {wr w' : World} {v v' s : Value} {F : Nat → Prop} {l : List VD} (h : Kept wr w' v v') (hr : RI wr (fun b => F b ∧ v.ownBlock ≠ some b) s l) : RI w' (fun b => F b ∧ v'.ownBlock ≠ some b) s l :=
  hr.keep h.size fun b hF hlt => ⟨(h.block b hlt hF.2).1, hF.1, (h.block b hlt hF.2).2⟩
/-- append of one element that lies in a new block -/
theorem append_own2 {P : Program} (wr : World) {ops : Array Oper} {rest : List Oper} {o : Oper} {a : Act} {Q : Exit → Act → World → Prop} (hgd : o.guard = none) (s x : Operand) (t : TypeId)
    (ho : o.op = .call { callee := .builtin .append, args := #[s, x], argTypes := #[t, t] }) (base : Nat) (e : TypeId) {z : Value} {size bytes : Nat} (ht : P.underlying t = some (.slice e))
    (hinfo : (P.info? e).map (fun i => (i.zero, i.size, i.bytes)) = some (some z, size, bytes)) (hzs : z.cells.size = size) (hsz : 0 < size) (v : Value) (n : Nat) (xs us : List Value) (hs : a.eval s = v) (hown : wr.ownsRow base e size v n xs)
    (hx : a.eval x = .slice (some ⟨wr.heap.size, 0, none⟩) 1 1) (hl : us.length = size) (h1 : ∀ u ∈ us, u.oneCell' = true) (hn : n < 1073741824) (hby : bytes ≤ 65536) (hbase : base ≤ wr.heap.size)
    (h : ∀ v' w', w'.ownsRow base e size v' (n + 1) (xs ++ us) → Below base wr w' → Kept wr w' v v' → wpList P ops Q rest (a.put o.dst v') w') : wpList P ops Q (o :: rest) a (wr.alloc (.cells us.toArray e)) := by
  obtain ⟨i, hi, hz, hsize, hbytes⟩ := info_parts hinfo
  refine wpList_append_own_at _ hgd s x t ho base e i z size bytes ht hi hz hsize hbytes hzs hsz v n xs hs (hown.alloc _) ⟨wr.heap.size, 0, none⟩ 1 1 us hx (by omega) (fun j u hj => ?_) h1 (by unfold maxLen; omega) ?_ (by simp; omega) ?_
  · rw [show (⟨wr.heap.size, 0, none⟩ : Addr).add j = ⟨wr.heap.size, j, none⟩ by simp [Addr.add]; rintro rfl; rfl]
    rw [cell_of_row _ wr.heap.size j us.toArray e (0, 0) (heap_alloc_new wr _)]
    simpa using hj
  · have := Nat.mul_le_mul (show n + 1 ≤ 1073741824 by omega) hby
    omega
  · intro v' w' ho' hg _ hat
    have hlt : ∀ b, v.ownBlock = some b → b < wr.heap.size := fun b hb => (hown.lt b hb).2
    refine h v' w' ho' (((Below.refl base wr).alloc hbase _).trans (below_grown (hown.alloc _) hg (by simp; omega))) ⟨?_, fun b hb hne => ⟨?_, ?_⟩⟩
    · have := hg.size
      simp at this
      omega
    · rw [hg.block b (by simp; omega) (fun e => hne e.symm)]
      exact Below.heap_alloc wr _ b hb
    · rcases hat with e1 | e1
      · rw [e1]; exact hne
      · rw [e1]
        intro h2
        injection h2 with h2
        simp at h2
        omega

/-- append of elements that lie somewhere -/
theorem append_own3 {P : Program} (w : World) {ops : Array Oper} {rest : List Oper} {o : Oper} {a : Act} {Q : Exit → Act → World → Prop} (hgd : o.guard = none) (s x : Operand) (t : TypeId)
    (ho : o.op = .call { callee := .builtin .append, args := #[s, x], argTypes := #[t, t] }) (base : Nat) (e : TypeId) {z : Value} {size bytes : Nat} (ht : P.underlying t = some (.slice e))
    (hinfo : (P.info? e).map (fun i => (i.zero, i.size, i.bytes)) = some (some z, size, bytes)) (hzs : z.cells.size = size) (hsz : 0 < size) (v : Value) (n : Nat) (xs us : List Value) (hs : a.eval s = v) (hown : w.ownsRow base e size v n xs)
    (b off m c : Nat) (hx : a.eval x = .slice (some ⟨b, off, none⟩) m c) (hl : us.length = m * size) (hc : ∀ j u, us[j]? = some u → w.cell? ⟨b, off + j, none⟩ = some u) (h1 : ∀ u ∈ us, u.oneCell' = true) (hn : n + m < 1073741824) (hby : bytes ≤ 65536) (hbase : base ≤ w.heap.size)
    (h : ∀ v' w', w'.ownsRow base e size v' (n + m) (xs ++ us) → Below base w w' → Kept w w' v v' → wpList P ops Q rest (a.put o.dst v') w') : wpList P ops Q (o :: rest) a w := by
  obtain ⟨i, hi, hz, hsize, hbytes⟩ := info_parts hinfo
  refine wpList_append_own_at _ hgd s x t ho base e i z size bytes ht hi hz hsize hbytes hzs hsz v n xs hs hown ⟨b, off, none⟩ m c us hx hl (fun j u hj => ?_) h1 (by unfold maxLen; omega) ?_ hbase ?_
  · rw [show (⟨b, off, none⟩ : Addr).add j = ⟨b, off + j, none⟩ by simp [Addr.add]]
    exact hc j u hj
  · have := Nat.mul_le_mul (show n + m ≤ 1073741824 by omega) hby
    omega
  · intro v' w' ho' hg _ hat
    refine h v' w' ho' (below_grown hown hg hbase) ⟨hg.size, fun b hb hne => ⟨hg.block b hb (fun e => hne e.symm), ?_⟩⟩
    rcases hat with e1 | e1
    · rw [e1]; exact hne
    · rw [e1]
      intro h2
      injection h2 with h2
      omega

/-- a value as it lies in memory -/
structure VE where
  x : VD
  A : Option Addr
  c : Nat
instance : Inhabited VE := ⟨⟨default, none, 0⟩⟩
def VE.cells (e : VE) : List Value := [.int .i64 e.x.k, .int .i64 e.x.n, .int .i64 e.x.sc, .string e.x.s, .slice e.A e.x.items.length e.c]
def vcells (l : List VE) : List Value := l.flatMap VE.cells
theorem vcells_append (l r : List VE) : vcells (l ++ r) = vcells l ++ vcells r := List.flatMap_append
theorem vcells_get (l : List VE) (i j : Nat) (hj : j < 5) : (vcells l)[i * 5 + j]? = (l[i]?).bind fun e => e.cells[j]? := by
  induction l generalizing i with
  | nil => simp [vcells]
  | cons e l ih =>
    have e1 : vcells (e :: l) = e.cells ++ vcells l := rfl
    have e2 : e.cells.length = 5 := rfl
    rw [e1]
    cases i with
    | zero => rw [List.getElem?_append_left (by omega)]; simp
    | succ i => rw [List.getElem?_append_right (by omega), show (i + 1) * 5 + j - e.cells.length = i * 5 + j by omega, ih i]; simp
theorem vcells_one (l : List VE) : ∀ u ∈ vcells l, u.oneCell' = true := by
  intro u hu
  obtain ⟨e, _, h⟩ := List.mem_flatMap.1 hu
  simp [VE.cells] at h
  rcases h with rfl | rfl | rfl | rfl | rfl <;> rfl
/-- a row of values of the call's own, whose lists lie elsewhere in F -/
structure OwnV (w : World) (base : Nat) (F : Nat → Prop) (v : Value) (es : List VE) : Prop where
  own : w.ownsRow base 33 5 v es.length (vcells es)
  good : ∀ e, e ∈ es → e.x.ok ∧ RI w (fun b => F b ∧ v.ownBlock ≠ some b) (.slice e.A e.x.items.length e.c) e.x.items
theorem OwnV.nil (w : World) (base : Nat) (F : Nat → Prop) : OwnV w base F (.slice none 0 0) [] := ⟨World.ownsRow_nil _ _ _ _, fun _ h => by cases h⟩
theorem OwnV.ri {w : World} {base : Nat} {F : Nat → Prop} {v : Value} {es : List VE} (h : OwnV w base F v es) : RI w (fun b => F b ∨ base ≤ b) v (es.map VE.x) := by
  have hsl := SL.of_own h.own
  obtain ⟨hl, A, c, rfl, h1, h2, h3⟩ := hsl
  have hm : ∀ i, i < es.length → es[i]? = some (dat es i) := fun i hi => dat_some hi
  have hx : ∀ i, i < es.length → at_ (es.map VE.x) i = (dat es i).x := fun i hi => by
    unfold at_
    rw [List.getD_eq_getElem?_getD, List.getElem?_map, hm i hi]
    rfl
  have hlen : (es.map VE.x).length = es.length := List.length_map _
  have := RI.mk (w := w) (F := fun b => F b ∨ base ≤ b) A c (es.map VE.x) (fun i => (dat es i).A) (fun i => (dat es i).c) (by omega) h2 (fun hn => by
    obtain ⟨b, off, hA, hb, hlt, hc⟩ := h3 (by omega)
    refine ⟨b, off, hA, .inr hb, hlt, fun i hi => ?_⟩
    rw [hlen] at hi
    rw [hx i hi]
    have q : ∀ j, j < 5 → w.cell? ⟨b, off + i * 5 + j, none⟩ = (dat es i).cells[j]? := fun j hj => by
      have h5 : (vcells es)[i * 5 + j]? = (dat es i).cells[j]? := by rw [vcells_get es i j hj, hm i hi]; rfl
      have h6 : j < (dat es i).cells.length := hj
      rw [List.getElem?_eq_getElem h6] at h5 ⊢
      rw [Nat.add_assoc]
      exact hc _ _ h5
    exact ⟨q 0 (by omega), q 1 (by omega), q 2 (by omega), q 3 (by omega), q 4 (by omega)⟩) (fun i hi => by rw [hx i (by omega)]; exact (h.good _ (dat_mem (by omega))).1) (fun i hi => by
    rw [hx i (by omega)]
    exact (h.good _ (dat_mem (by omega))).2.mono fun b hb _ => .inl hb.1)
  rwa [hlen] at this
/-- one more -/
theorem OwnV.add {wr w' : World} {base : Nat} {F : Nat → Prop} {v v' : Value} {es : List VE} {e : VE} (h : OwnV wr base F v es) (ho : w'.ownsRow base 33 5 v' (es.length + 1) (vcells es ++ e.cells)) (hk : Kept wr w' v v') (hok : e.x.ok)
    (hr : RI wr (fun b => F b ∧ v.ownBlock ≠ some b) (.slice e.A e.x.items.length e.c) e.x.items) : OwnV w' base F v' (es ++ [e]) :=
  ⟨by rw [vcells_append, List.length_append]; simpa [vcells] using ho, fun d hd => by
    rcases List.mem_append.1 hd with hd | hd
    · exact ⟨(h.good d hd).1, hk.ri (h.good d hd).2⟩
    · rw [List.mem_singleton.1 hd]; exact ⟨hok, hk.ri hr⟩⟩
/-- new blocks -/
theorem OwnV.later {w w' : World} {base : Nat} {F : Nat → Prop} {v : Value} {es : List VE} (h : OwnV w base F v es) (hb : Below w.heap.size w w') : OwnV w' base F v es := by
  refine ⟨⟨h.own.1, h.own.2.elim .inl fun ⟨g, cap, cur, h1, h2, h3, h4⟩ => .inr ⟨g, cap, cur, h1, h2, ?_, h4⟩⟩, fun e he => ⟨(h.good e he).1, (h.good e he).2.later hb⟩⟩
  rw [hb.block g (lt_of_block h3)]
  exact h3

mutual
/-- no list in it is long -/
def smV : VD → Prop
  | .mk _ _ _ _ l => l.length < 1073741824 ∧ smL l
def smL : List VD → Prop
  | [] => True
  | a :: l => smV a ∧ smL l
end
theorem smL_mem {l : List VD} (h : smL l) : ∀ x, x ∈ l → smV x := by
  induction l with
  | nil => intro x hx; cases hx
  | cons a l ih =>
    intro x hx
    rcases List.mem_cons.1 hx with rfl | hx
    · exact h.1
    · exact ih h.2 x hx
theorem smV_items {x : VD} (h : smV x) : x.items.length < 1073741824 ∧ ∀ y, y ∈ x.items → smV y := by
  cases x with
  | mk k n sc s l => exact ⟨h.1, smL_mem h.2⟩

/-- Copy's contract at a value -/
def CopyAt (x : VD) : Prop := ∀ (F : Nat → Prop) (va : Value) (w : World), VAgg w F va x → smV x →
  Calls Tryz.prog 123 #[va] w fun e w' => ∃ vb, e = .returned vb ∧ VAgg w' (fun b => w.heap.size ≤ b) vb x ∧ Below w.heap.size w w'

theorem take_at {l : List VD} {k : Nat} (h : k < l.length) : l.take (k + 1) = l.take k ++ [at_ l k] := by
  unfold at_
  rw [List.take_succ_eq_append_getElem h, List.getD_eq_getElem?_getD, List.getElem?_eq_getElem h]
  rfl

set_option maxHeartbeats 2000000 in
theorem copy_step (x : VD) (H : ∀ y, y ∈ x.items → CopyAt y) : CopyAt x := by
  intro F va w hv hsm
  obtain ⟨A, c, rfl, hok, hr⟩ := hv
  obtain ⟨A', c', iA, iC, hv, hc, hm, hs, hw, hri⟩ := hr.shape
  injection hv with e1 _ e2
  subst e1
  subst e2
  obtain ⟨hn, hsi⟩ := smV_items hsm
  have HH := Lib.hid H
  have HSI := Lib.hid hsi
  have HS := Lib.hid hs
  have HW := Lib.hid hw
  have HR := Lib.hid hri
  have HOK := Lib.hid hok
  clear H hsi hs hw hri hr hsm hok
  unfold maxLen at hm
  obtain ⟨n, hln⟩ : ∃ n, x.items.length = n := ⟨_, rfl⟩
  rw [hln] at hn hc ⊢
  have HN := Lib.hid hln
  clear hln
  go_enter Tryz.func123, Tryz.ntmps123
  have B0 : Blk ((w.alloc (.cells #[.int .i64 x.k, .int .i64 x.n, .int .i64 x.sc, .string x.s, .slice A n c] 33)).alloc (.cells #[.int .i64 0, .int .i64 0, .int .i64 0, .string .empty, .slice none 0 0] 33)) w.heap.size 33 [.int .i64 x.k, .int .i64 x.n, .int .i64 x.sc, .string x.s, .slice A n c] := (Blk.new w _ _).alloc _
  have B1 : Blk ((w.alloc (.cells #[.int .i64 x.k, .int .i64 x.n, .int .i64 x.sc, .string x.s, .slice A n c] 33)).alloc (.cells #[.int .i64 0, .int .i64 0, .int .i64 0, .string .empty, .slice none 0 0] 33)) (w.heap.size + 1) 33 [.int .i64 0, .int .i64 0, .int .i64 0, .string .empty, .slice none 0 0] := by
    have h := Blk.new (w.alloc (.cells #[.int .i64 x.k, .int .i64 x.n, .int .i64 x.sc, .string x.s, .slice A n c] 33)) 33 [.int .i64 0, .int .i64 0, .int .i64 0, .string .empty, .slice none 0 0]
    simpa using h
  have hbel : Below w.heap.size w ((w.alloc (.cells #[.int .i64 x.k, .int .i64 x.n, .int .i64 x.sc, .string x.s, .slice A n c] 33)).alloc (.cells #[.int .i64 0, .int .i64 0, .int .i64 0, .string .empty, .slice none 0 0] 33)) := (below_new w _).alloc (by simp) _
  have START := Lib.hid (And.intro B0 (And.intro B1 hbel))
  clear B0 B1 hbel
  go_wp2_with fail
  go_loopw [3, 5, 9] (fun s _ i wr => ∃ (k : Nat) (es : List VE) (v : Value), k ≤ n ∧ v = s ∧ i = .int .i64 k ∧ OwnV wr (w.heap.size + 2) (fun b => w.heap.size + 2 ≤ b) v es ∧ Hid (es.map VE.x = x.items.take k) ∧ Below w.heap.size w wr ∧ w.heap.size + 2 ≤ wr.heap.size ∧
    Blk wr w.heap.size 33 [.int .i64 x.k, .int .i64 x.n, .int .i64 x.sc, .string x.s, .slice A n c] ∧ Blk wr (w.heap.size + 1) 33 [.int .i64 0, .int .i64 0, .int .i64 0, .string .empty, .slice none 0 0]) (fun _ _ i _ => n - (intOf i).toNat)
  case atStart => exact ⟨0, [], _, Nat.zero_le _, rfl, rfl, OwnV.nil _ _ _, Lib.hid (by simp), START.out.2.2, by simp, START.out.1, START.out.2.1⟩
  case round =>
    clear START
    obtain ⟨k, es, v, hk, rfl, rfl, ho, HE, hbel, hsz, b0, b1⟩ := hrel
    have HO := Lib.hid ho
    by_cases hlt : k < n
    · obtain ⟨b, off, rfl, hF, hb, hcells⟩ := HS.out (by rw [HN.out]; omega)
      have q := (hcells k (by rw [HN.out]; exact hlt)).keep (hbel.block b hb)
      obtain ⟨q1, q2, q3, q4, q5⟩ := q
      have hbw : b < wr.heap.size := by have := hbel.size; omega
      have HY := Lib.hid (HR.out k (by rw [HN.out]; exact hlt))
      have HYW := Lib.hid (HW.out k (by rw [HN.out]; exact hlt))
      have hym : at_ x.items k ∈ x.items := at_mem (by rw [HN.out]; exact hlt)
      have HYC := Lib.hid (HH.out _ hym)
      have HYS := Lib.hid (HSI.out _ hym)
      have HT := Lib.hid (take_at (l := x.items) (k := k) (by rw [HN.out]; exact hlt))
      clear hcells hym
      generalize at_ x.items k = y at *
      have hlen : es.length = k := by
        have := congrArg List.length HE.out
        rw [List.length_map, List.length_take, HN.out] at this
        omega
      have HLEN := Lib.hid hlen
      have HC := Lib.hid (fun (W : World) (hW : Below w.heap.size w W) => HYC.out F (.agg #[.int .i64 y.k, .int .i64 y.n, .int .i64 y.sc, .string y.s, .slice (iA k) y.items.length (iC k)]) W ⟨_, _, rfl, HYW.out, HY.out.later hW⟩ HYS.out)
      clear hlen
      go_wp2_with fail
      generalize hW : wr.alloc (.cells #[.int .i64 y.k, .int .i64 y.n, .int .i64 y.sc, .string y.s, .slice (iA k) y.items.length (iC k)] 33) = W
      have hbW : Below wr.heap.size wr W := hW ▸ below_new wr _
      have HBW := Lib.hid hbW
      clear hW
      refine (HC.out W (hbel.trans (hbW.mono hbel.size))).mono ?_
      rintro e w1 ⟨vb, rfl, hvb, hb1⟩
      obtain ⟨A1, c1, rfl, -, hr1⟩ := hvb
      have O1 := Lib.hid ((HO.out.later hbW).later hb1)
      have hs1 : W.heap.size ≤ w1.heap.size := hb1.size
      have hs0 : wr.heap.size ≤ W.heap.size := hbW.size
      have HB1 := Lib.hid hb1
      have HR1 := Lib.hid hr1
      clear hb1 hr1 HC hbW
      go_wp2_with (at_builtin; refine append_own2 w1 rfl (.tmp 13) (.tmp 16) 31 rfl (w.heap.size + 2) 33 underV infoV rfl (by decide) _ _ _ (VE.cells ⟨y, A1, c1⟩) rfl O1.out.own rfl rfl (by simp [VE.cells, Value.oneCell']) (by rw [HLEN.out]; omega) (by decide) (by omega) ?_)
      intro v' w2 hown' hb2 hkept
      have hbel2 := (hbel.trans (HBW.out.mono hbel.size)).trans ((HB1.out.mono (Nat.le_trans hbel.size hs0)).trans (hb2.mono (Nat.le_add_right _ 2)))
      have hnb : ∀ b, W.heap.size ≤ b → v.ownBlock ≠ some b := fun b hb he => by
        have := (HO.out.own.lt b he).2
        omega
      have O2 := Lib.hid (O1.out.add (e := VE.mk y A1 c1) hown' hkept HYW.out (HR1.out.mono fun b hb _ => ⟨by show w.heap.size + 2 ≤ b; omega, hnb b hb⟩))
      have hsz2 : w.heap.size + 2 ≤ w2.heap.size := by have := hkept.size; omega
      have b0' := ((b0.below HBW.out (by omega)).below HB1.out (by omega)).below hb2 (by omega)
      have b1' := ((b1.below HBW.out (by omega)).below HB1.out (by omega)).below hb2 (by omega)
      have HE2 := Lib.hid (show (es ++ [VE.mk y A1 c1]).map VE.x = x.items.take (k + 1) by rw [HT.out, List.map_append, HE.out]; rfl)
      clear hown' hb2 hkept hnb b0 b1 ho hbel
      go_wp2_with fail
      go_roundw
      case rel => exact ⟨k + 1, _, _, hlt, rfl, by go_num, O2.out, HE2, hbel2, hsz2, b0', b1'⟩
      case measure => simp [intOf] <;> omega
    · obtain rfl : k = n := by omega
      have HI := Lib.hid (HO.out.ri)
      have HE2 := Lib.hid (show es.map VE.x = x.items by rw [HE.out, ← HN.out, List.take_length])
      have HOB := Lib.hid (HO.out.own)
      obtain ⟨hl, A1, c1, rfl, g1, g2, g3⟩ := SL.of_own HO.out.own
      have HLEN := Lib.hid (show es.length = k by have := congrArg List.length HE2.out; rw [List.length_map, HN.out] at this; exact this)
      rw [HLEN.out] at g1 g3 ⊢
      have HCL := Lib.hid (fun W => clipV_any A1 k c1 (fun h0 => by
        rcases Nat.eq_zero_or_pos k with h | h
        · exact h
        · obtain ⟨b, off, e, _⟩ := g3 h
          rw [h0] at e; cases e) g1 g2 W)
      clear g3 hl ho
      go_wp2_with fail
      refine (HCL.out _).mono ?_
      rintro e w1 ⟨rfl, rfl⟩
      have q0 := wcell5 b0
      have q1 := wcell5 b1
      have f0 := b0.frozen
      have f1 := b1.frozen
      go_wp2_with fail
      have hfin := wcell5 ((b1.farB (b := w.heap.size) (i := 4) (by omega) (.slice A1 k (clipCap A1 k))).set5 (.int .i64 x.k) (.int .i64 x.n) (.int .i64 x.sc) (.string x.s) (.slice A1 k (clipCap A1 k)))
      have hext : Tab.Ext (fun b => b < w.heap.size + 2 ∧ w.heap.size ≤ b) wr ((((((wr.setCell ⟨w.heap.size, 4, none⟩ (.slice A1 k (clipCap A1 k))).setCell ⟨w.heap.size + 1, 0, none⟩ (.int .i64 x.k)).setCell ⟨w.heap.size + 1, 1, none⟩ (.int .i64 x.n)).setCell ⟨w.heap.size + 1, 2, none⟩ (.int .i64 x.sc)).setCell ⟨w.heap.size + 1, 3, none⟩ (.string x.s)).setCell ⟨w.heap.size + 1, 4, none⟩ (.slice A1 k (clipCap A1 k))) := by
        have f : ∀ {u : World} (b i : Nat) (t : Value), w.heap.size ≤ b → b < w.heap.size + 2 → Tab.Ext (fun b => b < w.heap.size + 2 ∧ w.heap.size ≤ b) wr u → Tab.Ext (fun b => b < w.heap.size + 2 ∧ w.heap.size ≤ b) wr (u.setCell ⟨b, i, none⟩ t) := fun b i t h1 h2 h => h.setCell (p := ⟨b, i, none⟩) (.inl ⟨h2, h1⟩) t
        exact f _ 4 _ (by omega) (by omega) (f _ 3 _ (by omega) (by omega) (f _ 2 _ (by omega) (by omega) (f _ 1 _ (by omega) (by omega) (f _ 0 _ (by omega) (by omega) (f _ 4 _ (by omega) (by omega) (Tab.Ext.refl _ _))))))
      have hbf := below_set5 (hbel.setCell (p := ⟨w.heap.size, 4, none⟩) (Nat.le_refl _) (.slice A1 k (clipCap A1 k))) (b := w.heap.size + 1) (Nat.le_succ _) (.int .i64 x.k) (.int .i64 x.n) (.int .i64 x.sc) (.string x.s) (.slice A1 k (clipCap A1 k))
      have hri := HI.out
      rw [HE2.out, HLEN.out, ← HN.out] at hri
      have hri2 := (hri.clip.ext hext (fun b hb hm => by rcases hb with hb | hb <;> omega)).mono (F' := fun b => w.heap.size ≤ b) (fun b hb _ => by rcases hb with hb | hb <;> omega)
      rw [HN.out] at hri2
      exact bodyPost_ret (v := .agg #[.int .i64 x.k, .int .i64 x.n, .int .i64 x.sc, .string x.s, .slice A1 k (clipCap A1 k)]) (by simp [results, Tryz.results123, go_sem, hfin]) rfl ⟨_, rfl, ⟨A1, _, by rw [HN.out], HOK.out, by rw [HN.out]; exact hri2⟩, hbf⟩

theorem copyAt (x : VD) : CopyAt x := copy_step x fun y _ => copyAt y
termination_by SizeOf.sizeOf x
decreasing_by
  rename_i hy
  have := List.sizeOf_lt_of_mem hy
  cases x
  simp only [VD.items] at this
  simp
  omega
end Go.Proofs.YthejmnmkbldacaaGreatDoor
