/-
  What is proved: SortStableFunc sorts a row of differences. Conditions: none.
  What is proved: canonical returns the canonical list that says the same. Conditions: fewer than 2^30 differences, of which the numbers add up to at most 2^62.
-/
import Derived.Test.YthejmnmkbldacaaGreatDoorAp20
import Derived.Test.YthejmnmkbldacaaGreatDoorAp18
set_option linter.all false
namespace Go.Proofs.YthejmnmkbldacaaGreatDoor
open Go.RowKit
attribute [local go_sem] Tab.Env.ev Tab.Env.get

def InBlocks (l : List DE) (s n : Nat) : Prop := ∀ k, k + 1 < n → (k + 1) % s ≠ 0 → cmpD (dat l k) (dat l (k + 1)) ≤ 0
theorem Blocks.ofIn {l : List DE} {s n : Nat} (h : InBlocks l s n) : Blocks cmpD l (2 * s) s 0 n := fun k k1 k2 => h k k1 (by rw [if_neg (by omega)] at k2; exact k2)
theorem Blocks.toIn {l : List DE} {s n : Nat} (h : Blocks cmpD l (2 * s) s n n) : InBlocks l (s * 2) n := fun k k1 k2 => h k k1 (by rw [if_pos k1, Nat.mul_comm 2 s]; exact k2)
theorem Blocks.tail {l : List DE} {s u a n : Nat} (h : Blocks cmpD l (2 * s) s a n) (ha : a = 2 * s * u) (hn : n ≤ a + s) : InBlocks l (s * 2) n := fun k k1 k2 => by
  by_cases c1 : k + 1 < a
  · exact h k k1 (by rw [if_pos c1, Nat.mul_comm 2 s]; exact k2)
  · by_cases c2 : k + 1 = a
    · exfalso
      rw [c2, ha, Nat.mul_comm s 2, Nat.mul_mod_right] at k2
      exact k2 rfl
    · refine h k k1 ?_
      rw [if_neg c1]
      have e : 2 * s * u = s * (2 * u) := by rw [Nat.mul_comm 2 s, Nat.mul_assoc]
      exact mod_in (u := 2 * u) (by omega) (by omega)
theorem InBlocks.all {l : List DE} {s n : Nat} (h : InBlocks l s n) (hs : n ≤ s) : SortedOn cmpD l 0 n := fun k _ k1 => h k k1 (by rw [Nat.mod_eq_of_lt (by omega)]; omega)

set_option maxHeartbeats 4000000 in
set_option maxRecDepth 100000 in
theorem stable_any (f : FuncId) (HF : CmpOK f) (g cap : Nat) (F : Nat → Prop) (l : List DE) (w0 w : World) (n : Nat) (st : ST g cap F n w0 w l) :
    Calls Tryz.prog 149 #[.slice (some ⟨g, 0, none⟩) n cap, .int .i64 n, .func (.func f) #[] #[]] w fun e w' => e = .returned (.tuple #[]) ∧ ∃ l', ST g cap F n w0 w' l' ∧ SameOut l l' 0 n ∧ SortedOn cmpD l' 0 n := by
  obtain ⟨hcap, hmax⟩ := st.caps
  have hsm := st.small
  have HST := Lib.hid st
  have HCMP := Lib.hid HF
  clear st HF
  go_enter Tryz.func149, Tryz.ntmps149
  go_wp2_with fail
  go_loopw [7, 8] (fun a b wr => ∃ (A u : Nat) (l' : List DE), a = .int .i64 A ∧ b = .int .i64 (A + 20) ∧ Hid (A = 20 * u) ∧ A ≤ n ∧ ST g cap F n w0 wr l' ∧ SameOut l l' 0 n ∧ InBlocks l' 20 A) (fun a b _ => n + 20 - (intOf b).toNat)
  case atStart => exact ⟨0, 0, l, rfl, rfl, Lib.hid rfl, Nat.zero_le _, HST.out, .refl _ _ _, fun k h => by omega⟩
  case round =>
    obtain ⟨A, u, l1, rfl, rfl, HA, hA, hs, hso, hin⟩ := hrel
    have HS := Lib.hid hs
    have HSO := Lib.hid hso
    have HIN := Lib.hid hin
    clear hs hso hin
    by_cases hlt : A + 20 ≤ n
    · go_wp2_with fail
      rw [show (A : Int) + 20 = ((A + 20 : Nat) : Int) by omega]
      refine (insertion_any f HCMP.out g cap F l1 w0 _ n HS.out A (A + 20) (by omega) hlt).mono ?_
      rintro e w1 ⟨rfl, l2, o1, o2, o3⟩
      have O1 := Lib.hid o1
      have O2 := Lib.hid (HSO.out.trans (o2.wide (Nat.zero_le _) hlt))
      have O3 := Lib.hid (show InBlocks l2 20 (A + 20) from Blocks.insert (s := 20) (u := u) HA.out o2 o3 HIN.out)
      have HA2 := Lib.hid (show A + 20 = 20 * (u + 1) by have := HA.out; omega)
      clear o1 o2 o3
      go_wp2_with fail
      go_roundw
      case rel => exact ⟨A + 20, u + 1, l2, by go_num, by go_num, HA2, hlt, O1.out, O2.out, O3.out⟩
      case measure => simp [intOf] <;> omega
    · go_wp2_with fail
      refine (insertion_any f HCMP.out g cap F l1 w0 _ n HS.out A n hA (Nat.le_refl _)).mono ?_
      rintro e w1 ⟨rfl, l2, o1, o2, o3⟩
      have O1 := Lib.hid o1
      have O2 := Lib.hid (HSO.out.trans (o2.wide (Nat.zero_le _) (Nat.le_refl _)))
      have O3 := Lib.hid (show InBlocks l2 20 n from Blocks.insert (s := 20) (u := u) HA.out o2 o3 HIN.out)
      clear o1 o2 o3 HS HSO HIN
      go_wp2_with fail
      go_loopw [6, 7, 8, 9] (fun bs _ _ _ wr => ∃ (s : Nat) (l' : List DE), bs = .int .i64 s ∧ 0 < s ∧ s ≤ 2 * n + 40 ∧ ST g cap F n w0 wr l' ∧ SameOut l l' 0 n ∧ InBlocks l' s n) (fun bs _ _ _ _ => n - (intOf bs).toNat)
      case atStart => exact ⟨20, l2, rfl, by omega, by omega, O1.out, O2.out, O3.out⟩
      case round =>
        clear O1 O2 O3
        obtain ⟨s, l3, rfl, hs0, hs1, hs, hso, hin⟩ := hrel
        have HS := Lib.hid hs
        have HSO := Lib.hid hso
        have HIN := Lib.hid hin
        clear hs hso hin
        by_cases hlt : s < n
        · go_wp2_with fail
          obtain ⟨wo, rfl⟩ : ∃ wo : World, wo = wr := ⟨_, rfl⟩
          go_loopw [7, 8] (fun a b wr => ∃ (A u : Nat) (l' : List DE), a = .int .i64 A ∧ b = .int .i64 (A + 2 * s) ∧ Hid (A = 2 * s * u) ∧ A ≤ n ∧ ST g cap F n w0 wr l' ∧ SameOut l l' 0 n ∧ Blocks cmpD l' (2 * s) s A n) (fun a b _ => n + 2 * s - (intOf b).toNat)
          case atStart => exact ⟨0, 0, l3, rfl, by go_num, Lib.hid rfl, Nat.zero_le _, HS.out, HSO.out, Blocks.ofIn HIN.out⟩
          case round =>
            clear HS HSO HIN
            obtain ⟨A, u, l4, rfl, rfl, HA, hA, hs, hso, hin⟩ := hrel
            have HS := Lib.hid hs
            have HSO := Lib.hid hso
            have HIN := Lib.hid hin
            clear hs hso hin
            by_cases hlt2 : A + 2 * s ≤ n
            · go_wp2_with fail
              have hp := HIN.out.parts HA.out (b := A + 2 * s) (Nat.le_refl _) hlt2 (by omega)
              rw [show (A : Int) + s = ((A + s : Nat) : Int) by omega, show (A : Int) + 2 * s = ((A + 2 * s : Nat) : Int) by omega]
              refine (symMerge_any f HCMP.out g cap F n A (A + s) (A + 2 * s) l4 w0 _ HS.out (by omega) (by omega) hlt2 hp.1 hp.2).mono ?_
              rintro e w1 ⟨rfl, l5, o1, o2, o3⟩
              have O1 := Lib.hid o1
              have O2 := Lib.hid (HSO.out.trans (o2.wide (Nat.zero_le _) hlt2))
              have O3 := Lib.hid (HIN.out.merge HA.out (by omega) (.inl rfl) o2 o3)
              have HA2 := Lib.hid (show A + 2 * s = 2 * s * (u + 1) by have := HA.out; rw [Nat.mul_succ]; omega)
              clear o1 o2 o3 hp
              go_wp2_with fail
              go_roundw
              case rel => exact ⟨A + 2 * s, u + 1, l5, by go_num, by go_num, HA2, hlt2, O1.out, O2.out, O3.out⟩
              case measure => simp [intOf] <;> omega
            · by_cases hlt3 : A + s < n
              · go_wp2_with fail
                have hp := HIN.out.parts HA.out (b := n) (by omega) (Nat.le_refl _) (by omega)
                rw [show (A : Int) + s = ((A + s : Nat) : Int) by omega]
                refine (symMerge_any f HCMP.out g cap F n A (A + s) n l4 w0 _ HS.out (by omega) hlt3 (Nat.le_refl _) hp.1 hp.2).mono ?_
                rintro e w1 ⟨rfl, l5, o1, o2, o3⟩
                have O1 := Lib.hid o1
                have O2 := Lib.hid (HSO.out.trans (o2.wide (Nat.zero_le _) (Nat.le_refl _)))
                have O3 := Lib.hid (Blocks.toIn (HIN.out.merge HA.out hA (.inr rfl) o2 o3))
                clear o1 o2 o3 hp
                go_wp2_with fail
                go_roundw
                case rel => exact ⟨s * 2, l5, by go_num, by omega, by omega, O1.out, O2.out, O3.out⟩
                case measure => simp [intOf] <;> omega
              · go_wp2_with fail
                have O3 := Lib.hid (HIN.out.tail HA.out (by omega))
                go_roundw
                case rel => exact ⟨s * 2, l4, by go_num, by omega, by omega, HS.out, HSO.out, O3.out⟩
                case measure => simp [intOf] <;> omega
        · go_wp2_with fail
          exact bodyPost_end (results_none rfl _ _ _) rfl ⟨rfl, l3, HS.out, HSO.out, HIN.out.all (by omega)⟩

set_option maxHeartbeats 400000 in
theorem sortStable_any (f : FuncId) (HF : CmpOK f) (g cap : Nat) (F : Nat → Prop) (l : List DE) (w : World) (hown : OwnD w g cap l) (hs : l.length < 1073741824) (hg : ∀ d, d ∈ l → d.good w F) (hF : ∀ b, F b → b ≠ g) :
    Calls Tryz.prog 112 #[.slice (some ⟨g, 0, none⟩) l.length cap, .func (.func f) #[] #[]] w fun e w' => e = .returned (.tuple #[]) ∧ ∃ l', ST g cap F l.length w w' l' ∧ l'.Perm l ∧ SortedOn cmpD l' 0 l.length := by
  have HC := Lib.hid (stable_any f HF g cap F l w w l.length (ST.start hown hs hg hF))
  go_enter Tryz.func112, Tryz.ntmps112
  go_wp2_with fail
  refine HC.out.mono ?_
  rintro e w1 ⟨rfl, l', o1, o2, o3⟩
  have O := Lib.hid (And.intro o1 (And.intro o2.perm o3))
  clear o1 o2 o3 HC
  go_wp2_with fail
  exact bodyPost_end (results_none rfl _ _ _) rfl ⟨rfl, l', O.out⟩
end Go.Proofs.YthejmnmkbldacaaGreatDoor

namespace Go.Proofs.YthejmnmkbldacaaGreatDoor
open Go.RowKit
attribute [local go_sem] Tab.Env.ev Tab.Env.get

def setN (d : DE) (m : Int) : DE := ⟨d.rv, d.row, m⟩
theorem cntD : Cnt cmpD DE.n setN := ⟨cmpD_ord, fun _ _ => rfl, fun _ _ _ => rfl, fun _ => rfl, fun _ _ _ => rfl⟩

set_option maxHeartbeats 400000 in
theorem canonical2_any (F : Nat → Prop) (d : DE) (w : World) (h : d.good w F) :
    Calls Tryz.prog 115 #[d.val] w fun e w' => e = .returned (.bool (d.n == 0)) ∧ Below w.heap.size w w' := by
  unfold DE.val
  obtain ⟨A1, c1, _, _, e1, _⟩ := h.row.shape
  rw [e1]
  clear e1 h
  go_enter Tryz.func115, Tryz.ntmps115
  go_wp2_with fail
  go_ret
  exact ⟨rfl, below_new w _⟩

set_option maxHeartbeats 400000 in
theorem insertion_zero (A : Option Addr) (c : Nat) (fv : Value) (w : World) :
    Calls Tryz.prog 187 #[.slice A 0 c, .int .i64 0, .int .i64 0, fv] w fun e w' => e = .returned (.tuple #[]) ∧ w = w' := by
  go_enter Tryz.func187, Tryz.ntmps187
  go_wp2_with fail
  refine wp_loop_rounds 1 ?_
  rw [rounds_succ]
  go_wp2_with fail
  exact bodyPost_end (results_none rfl _ _ _) rfl ⟨rfl, rfl⟩
set_option maxHeartbeats 400000 in
theorem stable_zero (A : Option Addr) (c : Nat) (fv : Value) (w : World) :
    Calls Tryz.prog 149 #[.slice A 0 c, .int .i64 0, fv] w fun e w' => e = .returned (.tuple #[]) ∧ w = w' := by
  go_enter Tryz.func149, Tryz.ntmps149
  go_wp2_with fail
  refine wp_loop_rounds 1 ?_
  rw [rounds_succ]
  go_wp2_with fail
  refine (insertion_zero A c fv w).mono ?_
  rintro e w1 ⟨rfl, rfl⟩
  go_wp2_with fail
  refine wp_loop_rounds 1 ?_
  rw [rounds_succ]
  go_wp2_with fail
  exact bodyPost_end (results_none rfl _ _ _) rfl ⟨rfl, rfl⟩
set_option maxHeartbeats 400000 in
theorem sortStable_zero (A : Option Addr) (c : Nat) (fv : Value) (w : World) :
    Calls Tryz.prog 112 #[.slice A 0 c, fv] w fun e w' => e = .returned (.tuple #[]) ∧ w = w' := by
  go_enter Tryz.func112, Tryz.ntmps112
  go_wp2_with fail
  refine (stable_zero A c fv w).mono ?_
  rintro e w1 ⟨rfl, rfl⟩
  go_wp2_with fail
  exact bodyPost_end (results_none rfl _ _ _) rfl ⟨rfl, rfl⟩

theorem OwnD.of_own {w : World} {base n g cap : Nat} {l : List DE} (h : w.ownsRow base 86 2 (.slice (some ⟨g, 0, none⟩) n cap) n (dcells l)) (hl : l.length = n) : OwnD w g cap l := by
  rcases h.2 with ⟨h', _⟩ | ⟨g', cap', cur, h', hb, hg, hnc, hcm, hcs, htake⟩
  · cases h'
  · injection h' with e1 _ e3
    injection e1 with e1
    injection e1 with e1
    subst e1
    subst e3
    refine ⟨cur.toList.drop (n * 2), ?_, by omega, hcm⟩
    rw [← htake, List.take_append_drop]
    exact hg
theorem OwnD.sl {w : World} {n g cap : Nat} {l : List DE} (h : OwnD w g cap l) (hl : l.length = n) : SL w (fun b => b = g) 2 (.slice (some ⟨g, 0, none⟩) n cap) n (dcells l) := by
  obtain ⟨tl, h1, h2, h3⟩ := h
  subst hl
  refine ⟨dcells_length l, _, cap, rfl, h2, h3, fun _ => ⟨g, 0, rfl, rfl, h1.lt, fun j u hj => ?_⟩⟩
  rw [Nat.zero_add, h1.cell, List.getElem?_append_left (List.getElem?_eq_some_iff.1 hj).1]
  exact hj

/-- SortStableFunc on a row of the call's own -/
theorem sortD_any (f : FuncId) (HF : CmpOK f) (base : Nat) (F : Nat → Prop) (v : Value) (l : List DE) (w : World) (hown : w.ownsRow base 86 2 v l.length (dcells l)) (hn : l.length < 1073741824) (hg : ∀ d, d ∈ l → d.good w F) (hF : ∀ b, F b → v.ownBlock ≠ some b) :
    Calls Tryz.prog 112 #[v, .func (.func f) #[] #[]] w fun e w' => e = .returned (.tuple #[]) ∧ ∃ l', RD w' (fun b => v.ownBlock = some b) F v l' ∧ l'.Perm l ∧ SortedOn cmpD l' 0 l.length ∧ Tab.Ext (fun b => v.ownBlock = some b) w w' := by
  rcases Nat.eq_zero_or_pos l.length with h0 | h0
  · have e0 : l = [] := List.eq_nil_of_length_eq_zero h0
    subst e0
    obtain ⟨hl, A, c, rfl, h1, h2, -⟩ := SL.of_own hown
    refine (sortStable_zero A c _ w).mono ?_
    rintro e w1 ⟨rfl, rfl⟩
    exact ⟨rfl, [], ⟨⟨rfl, A, c, rfl, h1, h2, fun h => absurd h (Nat.lt_irrefl 0)⟩, fun _ h => by cases h⟩, .refl _, SortedOn.tiny _ (by simp), Tab.Ext.refl _ _⟩
  · obtain ⟨g, cap, rfl, hb, hlt, _, _⟩ := own_form hown h0
    refine (sortStable_any f HF g cap F l w (OwnD.of_own hown rfl) hn hg (fun b hb e => hF b hb (by rw [e]; rfl))).mono ?_
    rintro e w1 ⟨rfl, l', hs, hp, hso⟩
    exact ⟨rfl, l', ⟨by
      have := hs.own.sl (n := l'.length) rfl
      rw [hs.len] at this ⊢
      exact this.mono fun b hb _ => by show some g = some b; rw [hb], hs.good⟩, hp, hso, hs.ext.mono fun b _ hb => by show some g = some b; rw [hb]⟩

theorem own_setN {w : World} {base g n cap : Nat} {cur : List DE} (h : w.ownsRow base 86 2 (.slice (some ⟨g, 0, none⟩) n cap) n (dcells cur)) {i : Nat} (hi : i < cur.length) (m : Int) :
    (w.setCell ⟨g, i * 2 + 1, none⟩ (.int .i64 m)).ownsRow base 86 2 (.slice (some ⟨g, 0, none⟩) n cap) n (dcells (cur.set i (setN (dat cur i) m))) := by
  have hd := (dcells_get cur i).1
  rw [dat_some hi] at hd
  have e : (dcells cur).set (i * 2) (setN (dat cur i) m).rv = dcells cur := by
    refine List.ext_getElem? fun j => ?_
    rw [List.getElem?_set]
    by_cases hj : i * 2 = j
    · subst hj
      rw [if_pos rfl, hd, if_pos (by rw [dcells_length]; omega)]
      rfl
    · rw [if_neg hj]
  rw [dcells_set, e]
  exact (h.stored _ _).1
theorem set_last (o : List DE) (x y : DE) : (o ++ [x]).set o.length y = o ++ [y] := by
  rw [List.set_append_right _ _ (Nat.le_refl _)]
  simp
theorem dat_last (o : List DE) (x : DE) : dat (o ++ [x]) o.length = x := by
  unfold dat
  rw [List.getD_eq_getElem?_getD]
  simp
theorem take_last {l : List DE} {k : Nat} (h : k < l.length) : l.take (k + 1) = l.take k ++ [dat l k] := take_snocD h
theorem take_getLast {l : List DE} {k : Nat} (h : k < l.length) : (l.take (k + 1)).getLast? = some (dat l k) := by rw [take_last h]; simp

theorem abs_sum {a b M : Int} (h : (a.natAbs : Int) + b.natAbs ≤ M) : -M ≤ a + b ∧ a + b ≤ M := by omega
def CanonPost (F' : Nat → Prop) (l : List DE) (w : World) (e : Ending) (w' : World) : Prop :=
  ∃ v' out, e = .returned v' ∧ OwnDs w' w.heap.size (fun b => F' b ∧ b < w.heap.size) v' out ∧ Canon cmpD DE.n setN l out ∧ Below w.heap.size w w'

theorem cfRows : ∀ (args : Array Value) (w : World), (callFunc 106 args).run Tryz.prog w = .ok (.enter 106 args) w := fun _ _ => by simp [go_sem]

set_option maxHeartbeats 4000000 in
theorem canonical_any (F F' : Nat → Prop) (v : Value) (l : List DE) (w : World) (h : RD w F F' v l) (hn : l.length < 1073741824) (habs : absN DE.n l ≤ 4611686018427387904) :
    Calls Tryz.prog 52 #[v] w (CanonPost F' l w) := by
  have HRD := Lib.hid h
  have HABS := Lib.hid habs
  have HCL := Lib.hid (cloneD_any F v l.length (dcells l) w h.sl (dcells_one h.good) hn)
  clear h habs
  go_enter Tryz.func52, Tryz.ntmps52
  go_wp2_with fail
  refine HCL.out.mono ?_
  rintro e w1 ⟨v1, rfl, hown1, hb1⟩
  have hgood1 : ∀ d, d ∈ l → d.good w1 (fun b => F' b ∧ b < w.heap.size) := fun d hd => ⟨((HRD.out.good d hd).row.mono (F' := fun b => F' b ∧ b < w.heap.size) (fun b hb hl => ⟨hb, hl⟩)).later hb1, (HRD.out.good d hd).n⟩
  have hfar : ∀ b, F' b ∧ b < w.heap.size → v1.ownBlock ≠ some b := fun b hb he => by
    have := (hown1.lt b he).1
    omega
  have HSORT := Lib.hid (sortD_any 113 canonical1_ok w.heap.size (fun b => F' b ∧ b < w.heap.size) v1 l w1 hown1 hn hgood1 hfar)
  have HB1 := Lib.hid hb1
  have HOWN1 := Lib.hid hown1
  clear HCL hgood1 hfar hb1 hown1
  go_wp2_with fail
  refine HSORT.out.mono ?_
  rintro e w2 ⟨rfl, l', hrd, hp, hso, hext⟩
  have hbel2 : Below w.heap.size w w2 := HB1.out.trans ⟨hext.os, hext.tape, hext.output, hext.size, fun k hk => hext.block k (by have := HB1.out.size; omega) (fun e => by
    have := (HOWN1.out.lt k e).1
    omega)⟩
  have HBEL2 := Lib.hid hbel2
  have HPERM := Lib.hid hp
  have HSO := Lib.hid hso
  have HRD2 := Lib.hid hrd
  have hw2 : w.heap.size ≤ w2.heap.size := hbel2.size
  obtain ⟨A, c, hv1, hc1, hc2⟩ := rd_shape hrd
  rw [hp.length_eq] at hv1 hc1
  subst hv1
  unfold maxLen at hc2
  obtain ⟨n, hln⟩ : ∃ n, l.length = n := ⟨_, rfl⟩
  rw [hln] at hn hc1
  have HN := Lib.hid (show l'.length = n from hp.length_eq.trans hln)
  rw [hln]
  have HABS2 := Lib.hid (show absN DE.n l' ≤ 4611686018427387904 by rw [absN_perm hp]; exact HABS.out)
  clear HSORT hbel2 hp hso hrd hext HB1 HOWN1 HRD HABS hln
  go_wp2_with fail
  go_loopw [3, 5, 6, 13] (fun s _ _ i wr => ∃ (k : Nat) (v : Value) (out : List DE), k ≤ n ∧ v = s ∧ i = .int .i64 k ∧ OwnDs wr w2.heap.size (fun b => F' b ∧ b < w.heap.size) v out ∧ Grp cmpD DE.n setN (l'.take k) out ∧ Below w2.heap.size w2 wr) (fun _ _ _ i _ => n - (intOf i).toNat)
  case atStart => exact ⟨0, _, [], Nat.zero_le _, rfl, rfl, OwnDs.nil _ _ _, by rw [List.take_zero]; exact Grp.start, Below.refl _ _⟩
  case round =>
    obtain ⟨k, v, out, hk, rfl, rfl, ho, hg, hbel⟩ := hrel
    have HO := Lib.hid ho
    have HG := Lib.hid hg
    have hs2 : w2.heap.size ≤ wr.heap.size := hbel.size
    obtain ⟨-, Av, cv, rfl, g1, g2, -⟩ := SL.of_own ho.own
    unfold maxLen at g2
    have hol : out.length ≤ k := by
      have := hg.len
      rw [List.length_take, HN.out] at this
      omega
    by_cases hlt : k < n
    · have hrr := HRD2.out.later hbel
      obtain ⟨b, off, c', A1, m1, c1, row, kk, hv, -, -, hb, he, hgd, q1, q2⟩ := hrr.at_ (i := k) (by rw [HN.out]; exact hlt)
      injection hv with e1 _ e2
      subst e1
      subst e2
      have HT := Lib.hid (take_last (l := l') (k := k) (by rw [HN.out]; exact hlt))
      have HE := Lib.hid he
      have HGD := Lib.hid hgd
      have hkb : (kk.natAbs : Int) ≤ 4611686018427387904 := by
        have h1 := absN_mem (n := DE.n) (dat_mem (l := l') (i := k) (by rw [HN.out]; exact hlt))
        rw [he] at h1
        have h2 := HABS2.out
        simp only at h1
        omega
      have HPRE := Lib.hid (fun (y : DE) (hy : (l'.take k).getLast? = some y) => (show cmpD y ⟨.slice A1 m1 c1, row, kk⟩ ≤ 0 by
        cases k with
        | zero => simp at hy
        | succ k0 =>
          rw [take_getLast (by rw [HN.out]; omega)] at hy
          injection hy with hy
          rw [← hy, ← he]
          exact HSO.out k0 (Nat.zero_le _) (by rw [← HPERM.out.length_eq, HN.out]; exact hlt)))
      clear hrr he hgd ho hg
      rcases List.eq_nil_or_concat out with h0 | ⟨o, x, h0⟩
      · subst h0
        have HNEW := Lib.hid (HG.out.new cntD HPRE.out (fun x hx => by cases hx))
        rw [← HE.out, ← HT.out, HE.out] at HNEW
        have hdec : decide ((0 : Int) ≤ -1) = false := by decide
        go_wp2_with fail
        refine Tab.wp_region_tab (Tab.Ext fun _ => False) (by kernel_rfl) (by kernel_rfl) (fun _ => Tab.Ext.refl _ _) (fun _ _ _ h k => h.trans k) ?_
        iterate 13 (first | (refine Tab.tab_moveE _ rfl (Tab.silent_true _) (.inl rfl) rfl rfl (fun _ => Tab.Ext.refl _ _) ?_; apply Exists.intro; refine And.intro ?_ ?_; focus (simp [Tab.Env.ev, Tab.Env.get]; rfl)) | (refine Tab.tab_moveE _ rfl (Tab.silent_true _) (.inr rfl) rfl rfl (fun _ => Tab.Ext.refl _ _) ?_; apply Exists.intro; refine And.intro ?_ ?_; focus (simp [Tab.Env.ev, Tab.Env.get]; rfl)) | refine Tab.tab_skip rfl (Tab.silent_true _) rfl ?_ | (refine Tab.tab_repE rfl (Tab.silent_true _) rfl (fun _ _ h => by cases h) rfl (fun _ => Tab.Ext.refl _ _) ?_; apply Exists.intro; refine And.intro (fun l w' _ _ hw => ?_) ?_; focus (go_simp; rfl)) | (refine Tab.tab_repE rfl (Tab.silent_true _) rfl (fun _ _ h => by cases h) rfl (fun _ => Tab.Ext.refl _ _) ?_; apply Exists.intro; refine And.intro (fun l w' hs hc hw => ?_) ?_; focus (go_simp; rfl)))
        intro a_ w_ hw_ hsat_
        refine Tab.fin_of_sat rfl ?_ hsat_
        simp only [Tab.fin, Act.put, List.setIfInBounds_toArray, List.set_cons_succ, List.set_cons_zero]
        have hw_b : Below wr.heap.size wr w_ := (below_new wr _).trans (((Below.refl _ _).drew.trans (hw_.below.mono (Nat.le_refl _))).mono (by simp))
        have b0 := (Blk.new wr 86 [.slice A1 m1 c1, .int .i64 kk]).drew.ext hw_ id
        have q0 := wcell2 b0
        have hbelw := hbel.trans (hw_b.mono hs2)
        have hsw : wr.heap.size < w_.heap.size := b0.lt
        have HOL := Lib.hid (HO.out.later hw_b)
        have HGX := Lib.hid (show (DE.mk (.slice A1 m1 c1) row kk).good w_ (fun b => (F' b ∧ b < w.heap.size) ∧ (Value.slice Av ([] : List DE).length cv).ownBlock ≠ some b) from ⟨((HGD.out.row.later hw_b)).mono (fun b hb _ => ⟨hb, fun e => by
          have := (HO.out.own.lt b e).1
          have := hb.2
          omega⟩), HGD.out.n⟩)
        clear hsat_ hw_
        go_wp2_with (at_builtin; refine append_own2 w_ rfl (.tmp 43) (.tmp 45) 23 rfl w2.heap.size 86 underD infoD rfl (by decide) _ _ _ (DE.cells ⟨.slice A1 m1 c1, row, kk⟩) rfl HOL.out.own rfl rfl (by simp [DE.cells, Value.oneCell']) (by simp) (by decide) (by omega) ?_)
        intro v' w4 hown' hb4 hkept
        have O2 := Lib.hid (HOL.out.add (e := DE.mk (.slice A1 m1 c1) row kk) hown' hkept HGX.out)
        have hbel4 := hbelw.trans hb4
        clear hown' hb4 hkept hbelw b0 q1 q2
        go_wp2_with fail
        go_roundw
        case rel => exact ⟨k + 1, _, _, hlt, rfl, by go_num, O2.out, HNEW.out, hbel4⟩
        case measure => simp [intOf] <;> omega
      · rw [List.concat_eq_append] at h0
        subst h0
        rw [List.length_append, List.length_singleton] at hol g1 ⊢
        obtain ⟨g, cap, hv, hbg, hgl, -, -⟩ := own_form HO.out.own (by simp)
        injection hv with e1 _ e2
        subst e1
        subst e2
        have hcx := own_cellsD HO.out.own rfl (i := o.length) (by simp)
        rw [dat_last] at hcx
        have hgx := HO.out.good x (by simp)
        have hxb : (x.n.natAbs : Int) + kk.natAbs ≤ 4611686018427387904 := by
          have h1 := absN_mem (n := DE.n) (l := o ++ [x]) (d := x) (by simp)
          have h2 := HG.out.abs
          have h3 := HABS2.out
          have h4 := absN_append (n := DE.n) (l'.take (k + 1)) (l'.drop (k + 1))
          rw [List.take_append_drop, HT.out, absN_append, HE.out] at h4
          simp only [absN] at h4
          have h5 := absN_nonneg (n := DE.n) (l'.drop (k + 1))
          omega
        have HNEW1 := Lib.hid (fun hne => HG.out.new cntD HPRE.out (fun y hy => by
          rw [List.getLast?_append] at hy
          simp at hy
          rw [← hy]
          exact hne))
        have HADD1 := Lib.hid (fun he => HG.out.add (x := x) (d := ⟨.slice A1 m1 c1, row, kk⟩) cntD he)
        rw [← HE.out, ← HT.out, HE.out] at HNEW1 HADD1
        obtain ⟨rv2, row2, k2⟩ := x
        obtain ⟨A2, c2, _, _, e1, _⟩ := hgx.row.shape
        simp only at e1 hcx hxb
        subst e1
        have hsum := abs_sum hxb
        have hsum2 := IntWalk.i64_in (k2 + kk) (by omega)
        obtain ⟨hcx1, hcx2⟩ := hcx
        have HGX2 := Lib.hid hgx
        clear hgx
        have hdec : decide ((0 : Int) ≤ (o.length : Int)) = true := by simp
        have hol2 : o.length < 1073741824 := by omega
        have hlo : (o.length : Int) < (o.length : Int) + 1 := by omega
        go_wp2_with fail
        have hWb : Below wr.heap.size wr (wr.alloc (.cells #[.slice A1 m1 c1, .int .i64 kk] 86)) := below_new wr _
        have hWn := Blk.new wr 86 [.slice A1 m1 c1, .int .i64 kk]
        change Blk (wr.alloc (.cells #[.slice A1 m1 c1, .int .i64 kk] 86)) _ _ _ at hWn
        generalize hWdef : wr.alloc (.cells #[.slice A1 m1 c1, .int .i64 kk] 86) = W at *
        have p0 := fun w' (h : Tab.Ext (fun _ => False) W.drew w') => wcell2 (hWn.drew.ext h id)
        have hxW : ∀ w', Tab.Ext (fun _ => False) W.drew w' → Below wr.heap.size wr w' := fun w' h => hWb.trans (((Below.refl _ W).drew.trans (h.below.mono (Nat.le_refl _))).mono hWb.size)
        have p1 := fun w' (h : Tab.Ext (fun _ => False) W.drew w') => (⟨((hxW w' h).cell (p := ⟨g, o.length * 2, none⟩) hgl).trans hcx1, ((hxW w' h).cell (p := ⟨g, o.length * 2 + 1, none⟩) hgl).trans hcx2⟩ : w'.cell? ⟨g, o.length * 2, none⟩ = some (.slice A2 row2.length c2) ∧ w'.cell? ⟨g, o.length * 2 + 1, none⟩ = some (.int .i64 k2))
        have HXW := Lib.hid hxW
        have HCALL := Lib.hid (fun w' (h : Tab.Ext (fun _ => False) W.drew w') => compareRows_any _ _ (.slice A2 row2.length c2) (.slice A1 m1 c1) row2 row w' (HGX2.out.row.later (hxW w' h)) (HGD.out.row.later (hxW w' h)))
        clear hxW hWb hcx1 hcx2
        refine Tab.wp_region_tab (Tab.Ext fun _ => False) (by kernel_rfl) (by kernel_rfl) (fun _ => Tab.Ext.refl _ _) (fun _ _ _ h k => h.trans k) ?_
        iterate 10 (first | (refine Tab.tab_moveE _ rfl (Tab.silent_true _) (.inl rfl) rfl rfl (fun _ => Tab.Ext.refl _ _) ?_; apply Exists.intro; refine And.intro ?_ ?_; focus (simp [Tab.Env.ev, Tab.Env.get]; rfl)) | (refine Tab.tab_moveE _ rfl (Tab.silent_true _) (.inr rfl) rfl rfl (fun _ => Tab.Ext.refl _ _) ?_; apply Exists.intro; refine And.intro ?_ ?_; focus (simp [Tab.Env.ev, Tab.Env.get]; rfl)) | refine Tab.tab_skip rfl (Tab.silent_true _) rfl ?_ | (refine Tab.tab_repE rfl (Tab.silent_true _) rfl (fun _ _ h => by cases h) rfl (fun _ => Tab.Ext.refl _ _) ?_; apply Exists.intro; refine And.intro (fun l w' _ _ hw => ?_) ?_; focus (go_simp; rfl)) | (refine Tab.tab_repE rfl (Tab.silent_true _) rfl (fun _ _ h => by cases h) rfl (fun _ => Tab.Ext.refl _ _) ?_; apply Exists.intro; refine And.intro (fun l w' hs hc hw => ?_) ?_; focus (go_simp; rfl)))
        refine Tab.tab_call_is (.int .i64 (cmpL row2 row)) rfl rfl rfl cfRows rfl (fun l_ w' _ _ _ hw => ?_) ?_
        · show Calls _ _ #[.slice A2 row2.length c2, .slice A1 m1 c1] w' _
          refine (HCALL.out w' hw).mono ?_
          rintro e_ w_ ⟨rfl, hb_⟩
          exact ⟨rfl, Tab.Ext.of_below hb_, trivial⟩
        iterate 2 (first | (refine Tab.tab_moveE _ rfl (Tab.silent_true _) (.inl rfl) rfl rfl (fun _ => Tab.Ext.refl _ _) ?_; apply Exists.intro; refine And.intro ?_ ?_; focus (simp [Tab.Env.ev, Tab.Env.get]; rfl)) | (refine Tab.tab_moveE _ rfl (Tab.silent_true _) (.inr rfl) rfl rfl (fun _ => Tab.Ext.refl _ _) ?_; apply Exists.intro; refine And.intro ?_ ?_; focus (simp [Tab.Env.ev, Tab.Env.get]; rfl)) | refine Tab.tab_skip rfl (Tab.silent_true _) rfl ?_ | (refine Tab.tab_repE rfl (Tab.silent_true _) rfl (fun _ _ h => by cases h) rfl (fun _ => Tab.Ext.refl _ _) ?_; apply Exists.intro; refine And.intro (fun l w' _ _ hw => ?_) ?_; focus (go_simp; rfl)) | (refine Tab.tab_repE rfl (Tab.silent_true _) rfl (fun _ _ h => by cases h) rfl (fun _ => Tab.Ext.refl _ _) ?_; apply Exists.intro; refine And.intro (fun l w' hs hc hw => ?_) ?_; focus (go_simp; rfl)))
        intro a_ w_ hw_ hsat_
        refine Tab.fin_of_sat rfl ?_ hsat_
        simp only [Tab.fin, Act.put, List.setIfInBounds_toArray, List.set_cons_succ, List.set_cons_zero]
        have hw_b := HXW.out w_ hw_
        have b0 := hWn.drew.ext hw_ id
        have q0 := p0 w_ hw_
        have q3 := p1 w_ hw_
        have hbelw := hbel.trans (hw_b.mono hs2)
        have hsw : wr.heap.size < w_.heap.size := b0.lt
        have hgl2 : g < w_.heap.size := by omega
        have HOL := Lib.hid (show OwnDs w_ w2.heap.size (fun b => F' b ∧ b < w.heap.size) (.slice (some ⟨g, 0, none⟩) (o.length + 1) cv) (o ++ [DE.mk (.slice A2 row2.length c2) row2 k2]) from by
          have := HO.out.later hw_b
          rw [show (o ++ [DE.mk (.slice A2 row2.length c2) row2 k2]).length = o.length + 1 by simp] at this
          exact this)
        have hOO := HOL.out.own
        rw [List.length_append, List.length_singleton] at hOO
        have HOO := Lib.hid hOO
        clear hOO
        have hfz := fun i => HOO.out.frozenAt i
        have HGX := Lib.hid (show (DE.mk (.slice A1 m1 c1) row kk).good w_ (fun b => (F' b ∧ b < w.heap.size) ∧ (Value.slice (some ⟨g, 0, none⟩) (o.length + 1) cv).ownBlock ≠ some b) from ⟨((HGD.out.row.later hw_b)).mono (fun b hb _ => ⟨hb, fun e => by
          have := (HO.out.own.lt b e).1
          have := hb.2
          omega⟩), HGD.out.n⟩)
        clear hsat_ hw_ HCALL HXW p0 p1 hWn hWdef W
        cases hcb : (cmpL row2 row == 0) with
        | true =>
          have HADD := Lib.hid (HADD1.out (show cmpL row2 row = 0 by simpa using hcb))
          have hOW := own_setN HOO.out (i := o.length) (by simp) (k2 + kk)
          rw [dat_last, set_last] at hOW
          have HOW := Lib.hid hOW
          have hE4 := Lib.hid (show Below w2.heap.size w2 (w_.drew.setCell ⟨g, o.length * 2 + 1, none⟩ (.int .i64 (k2 + kk))) from hbelw.drew.setCell (p := ⟨g, o.length * 2 + 1, none⟩) hbg _)
          have hx4 : Tab.Ext (fun b => b = g) w_ (w_.drew.setCell ⟨g, o.length * 2 + 1, none⟩ (.int .i64 (k2 + kk))) := (Tab.Ext.refl (fun b => b = g) w_).drew.setCell (p := ⟨g, o.length * 2 + 1, none⟩) (.inl rfl) _
          have O2 := Lib.hid (show OwnDs (w_.drew.setCell ⟨g, o.length * 2 + 1, none⟩ (.int .i64 (k2 + kk))) w2.heap.size (fun b => F' b ∧ b < w.heap.size) (.slice (some ⟨g, 0, none⟩) (o.length + 1) cv) (o ++ [setN ⟨.slice A2 row2.length c2, row2, k2⟩ (k2 + kk)]) from ⟨by
            have := HOW.out
            simp only [List.length_append, List.length_singleton] at this ⊢
            exact this, fun d hd => by
            have hfar : ∀ b, ((F' b ∧ b < w.heap.size) ∧ (Value.slice (some ⟨g, 0, none⟩) (o.length + 1) cv).ownBlock ≠ some b) → ¬ b = g := fun b hb e => hb.2 (by simp [Value.ownBlock, e])
            have hback : ∀ b, ((F' b ∧ b < w.heap.size) ∧ (Value.slice (some ⟨g, 0, none⟩) (o.length + 1) cv).ownBlock ≠ some b) → ((F' b ∧ b < w.heap.size) ∧ (Value.slice (some ⟨g, 0, none⟩) (o.length + 1) cv).ownBlock ≠ some b) := fun b hb => hb
            rcases List.mem_append.1 hd with hd | hd
            · have hg0 := HOL.out.good d (List.mem_append_left _ hd)
              exact ⟨(hg0.row.ext hx4 hfar).mono fun b hb _ => hback b hb, hg0.n⟩
            · rw [List.mem_singleton.1 hd]
              have hg0 := HOL.out.good _ (List.mem_append_right o (List.mem_singleton.2 rfl))
              exact ⟨(hg0.row.ext hx4 hfar).mono fun b hb _ => hback b hb, show I64 (k2 + kk) by unfold I64; omega⟩⟩)
          clear hx4 hOW hcb b0 hbelw
          go_wp2_with fail
          refine Tab.wp_region_tabC (fun _ _ => True) (Tab.stageC 10 fun b_ w_' => w_' = if b_ = true then (w_.drew.setCell ⟨g, o.length * 2 + 1, none⟩ (.int .i64 (k2 + kk))) else w_.drew) (by kernel_rfl) (by kernel_rfl) (fun _ => trivial) (fun _ _ _ _ _ => trivial) (Tab.stageC_start rfl) ?_
          iterate 10 (first | (refine Tab.tab_moveE _ rfl (Tab.silent_at (by decide)) (.inl rfl) rfl rfl (fun _ => trivial) ?_; apply Exists.intro; refine And.intro ?_ ?_; focus (simp [Tab.Env.ev, Tab.Env.get]; rfl)) | (refine Tab.tab_moveE _ rfl (Tab.silent_at (by decide)) (.inr rfl) rfl rfl (fun _ => trivial) ?_; apply Exists.intro; refine And.intro ?_ ?_; focus (simp [Tab.Env.ev, Tab.Env.get]; rfl)) | refine Tab.tab_skip rfl (Tab.silent_at (by decide)) rfl ?_ | (refine Tab.tab_repE rfl (Tab.silent_at (by decide)) rfl (fun _ _ h => by cases h) rfl (fun _ => trivial) ?_; apply Exists.intro; refine And.intro (fun l w' _ _ hw => ?_) ?_; focus (go_simp; rfl)) | (refine Tab.tab_repE rfl (Tab.silent_at (by decide)) rfl (fun _ _ h => by cases h) rfl (fun _ => trivial) ?_; apply Exists.intro; refine And.intro (fun l w' hs hc hw => ?_) ?_; focus (first | (go_simp; rfl) | (have h := Tab.stageC_before hc hs (by kernel_rfl); simp only [Bool.false_eq_true, if_false] at h; subst h; skip; go_simp; rfl))))
          (refine Tab.tab_act rfl rfl (fun _ _ h => by cases h) rfl (fun l w' hsz hs hc hw => ?_) ?_; focus (have h := Tab.stageC_at hc hs; simp only [Bool.false_eq_true, if_false] at h; subst h; refine ⟨(w_.drew.setCell ⟨g, o.length * 2 + 1, none⟩ (.int .i64 (k2 + kk))), ?_, trivial, Tab.stageC_done (if_pos rfl).symm (by rw [hsz]; decide)⟩; skip; go_simp; done))
          intro l_ a_ w_ hall_ hcl_ _ hsat_
          have hw_ := Tab.stageC_end hcl_ hall_ (by decide)
          simp only [if_true] at hw_
          subst hw_
          refine Tab.fin_of_sat rfl ?_ hsat_
          simp only [Tab.fin, Act.put, List.setIfInBounds_toArray, List.set_cons_succ, List.set_cons_zero]
          go_wp2_with fail
          go_roundw
          case rel => exact ⟨k + 1, _, _, hlt, rfl, by go_num, O2.out, HADD.out, hE4.out⟩
          case measure => simp [intOf] <;> omega
        | false =>
          have HNEW := Lib.hid (HNEW1.out (by
            have : ¬ (cmpL row2 row = 0) := by simpa using hcb
            exact this))
          clear hcb q3 hfz
          go_wp2_with (at_builtin; refine append_own2 w_ rfl (.tmp 43) (.tmp 45) 23 rfl w2.heap.size 86 underD infoD rfl (by decide) _ _ _ (DE.cells ⟨.slice A1 m1 c1, row, kk⟩) rfl HOL.out.own rfl rfl (by simp [DE.cells, Value.oneCell']) (by simp; omega) (by decide) (by omega) ?_)
          intro v' w4 hown' hb4 hkept
          have O2 := Lib.hid (HOL.out.add (e := DE.mk (.slice A1 m1 c1) row kk) (by rw [List.length_append, List.length_singleton]; exact hown') hkept HGX.out)
          have hbel4 := hbelw.trans hb4
          clear hown' hb4 hkept hbelw b0 q1 q2 q0
          go_wp2_with fail
          go_roundw
          case rel => exact ⟨k + 1, _, _, hlt, rfl, by go_num, O2.out, HNEW.out, hbel4⟩
          case measure => simp [intOf] <;> omega
    · obtain rfl : k = n := by omega
      go_wp2_with fail
      have HDEL := Lib.hid (deleteD_any 115 (fun _ _ => by simp [go_sem]) (fun d => d.n == 0) canonical2_any w2.heap.size (fun b => F' b ∧ b < w.heap.size) (.slice Av out.length cv) out wr HO.out (by omega))
      refine HDEL.out.mono ?_
      rintro e w3 ⟨v', rfl, hod, hx⟩
      have HOD := Lib.hid hod
      have HX := Lib.hid hx
      clear hod hx HDEL
      go_wp2_with fail
      go_ret
      have ef : (fun d : DE => !(d.n == 0)) = fun d => decide (d.n ≠ 0) := by
        funext d
        by_cases h : d.n = 0 <;> simp [h]
      have hcan := HG.out.canon (l := l) (by rw [← HN.out, List.take_length]; exact HPERM.out)
      have hod2 := HOD.out
      rw [ef] at hod2
      refine ⟨v', _, rfl, ⟨⟨hod2.own.1, hod2.own.2.elim .inl fun ⟨g, cap, cur, h1, h2, h3⟩ => .inr ⟨g, cap, cur, h1, by omega, h3⟩⟩, hod2.good⟩, hcan, (HBEL2.out.trans (hbel.mono hw2)).trans ⟨HX.out.os, HX.out.tape, HX.out.output, HX.out.size, fun k hk => HX.out.block k (by omega) (fun e => by
        have := (HO.out.own.lt k e).1
        omega)⟩⟩
end Go.Proofs.YthejmnmkbldacaaGreatDoor
