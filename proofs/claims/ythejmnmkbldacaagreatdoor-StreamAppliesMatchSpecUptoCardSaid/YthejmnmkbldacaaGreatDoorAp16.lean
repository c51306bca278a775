/-
  What is proved: which values and rows the reference takes for sound: those that the program takes. Conditions: the tables of unicode/utf8 lie as they are laid.
  What is proved: how the reference compares rows (seat Z alone). Conditions: none.
  What is proved: the plain law of adding up a sorted list: neighbours that compare equal become one, with the sum of their numbers; and that such a list is known by its totals. Conditions: the order is a total preorder. No program in sight.
  What is proved: (no program in sight) the reference's way to canonical lists, row by row, gives the lists that the program's way gives. Conditions: none.
-/
import Derived.Test.YthejmnmkbldacaaGreatDoorAp15
import Derived.Test.YthejmnmkbldacaaGreatDoorAp12
import Derived.Test.YthejmnmkbldacaaGreatDoorAp09
set_option linter.all false
namespace Go.Proofs.YthejmnmkbldacaaGreatDoor
open Go.RowKit
attribute [local go_sem] Tab.Env.ev Tab.Env.get

/-- sound on a value, in whatever memory; the counter in a block of its own -/
def SoundRAt (x : VD) : Prop := ∀ (F : Nat → Prop) (va : Value) (w : World) (lev c : Int) (pb : Nat), VAgg w F va x → Tabs w → Blk w pb 3 [.int .i64 c] → (∀ b, F b → b ≠ pb) → 1 ≤ lev → lev ≤ 5 → 0 ≤ c → c ≤ 256 →
  Calls Tryz.prog 65 #[va, .int .i64 lev, .pointer (some ⟨pb, 0, none⟩)] w (SoundPost w pb (soundV lev c x))

/-- the world inside sound: the value's box and the counter -/
structure SWR (w W : World) (x : VD) (A : Option Addr) (cc : Nat) (c : Int) (pb : Nat) : Prop where
  b0 : Blk W w.heap.size 33 [.int .i64 x.k, .int .i64 x.n, .int .i64 x.sc, .string x.s, .slice A x.items.length cc]
  b3 : Blk W pb 3 [.int .i64 c]
  ext : Tab.Ext (fun b => b = pb) w W
  pl : pb < w.heap.size
theorem SWR.ext_ {w W W' : World} {x : VD} {A : Option Addr} {cc : Nat} {c c' : Int} {pb : Nat} (h : SWR w W x A cc c pb) (he : Tab.Ext (fun b => b = pb) W W') (h3 : Blk W' pb 3 [.int .i64 c']) : SWR w W' x A cc c' pb :=
  ⟨h.b0.ext he (by have := h.pl; omega), h3, h.ext.trans he, h.pl⟩
theorem swr_start {w : World} {x : VD} {A : Option Addr} {cc : Nat} {c : Int} {pb : Nat} (hb : Blk w pb 3 [.int .i64 c]) : SWR w (w.alloc (.cells #[.int .i64 x.k, .int .i64 x.n, .int .i64 x.sc, .string x.s, .slice A x.items.length cc] 33)) x A cc c pb :=
  ⟨Blk.new w _ _, hb.alloc _, Tab.Ext.of_below (below_new w _), hb.lt⟩

set_option maxHeartbeats 4000000 in
set_option maxRecDepth 100000 in
theorem soundR_step (x : VD) (H : ∀ y, y ∈ x.items → SoundRAt y) : SoundRAt x := by
  intro F va w lev c pb hv hT hb hF l1 l2 c1 c2
  obtain ⟨A, cc, rfl, hok, hr⟩ := hv
  have SW3 := Lib.hid (swr_start (x := x) (A := A) (cc := cc) hb)
  have HH := Lib.hid H
  have HR := Lib.hid hr
  have HT := Lib.hid hT
  have HF := Lib.hid hF
  have HOK := Lib.hid hok
  have hpl := hb.lt
  have q0 := SW3.out.b3.cell 0
  have f0 := SW3.out.b3.frozen 0
  simp only [List.getElem?_cons_zero] at q0
  have hbI := Lib.hid hb
  clear H hr hT hF hok hb
  by_cases hk : x.k = 0
  · have ek : (x.k != 0) = false := by simp [hk]
    have HEQ := Lib.hid (show soundV lev c x = if 4 < lev ∨ 256 < c ∨ plainF x.k x.n x.sc x.s x.items.length = false then (false, c) else soundL (lev + 1) c x.items by rw [soundV_eq]; simp only [if_pos hk])
    have SW4 := Lib.hid (SW3.out)
    have q4 := SW4.out.b3.cell 0
    simp only [List.getElem?_cons_zero] at q4
    clear hk SW3
    by_cases h1 : 4 < lev
    · have HRES := Lib.hid (show soundV lev c x = (false, c) by rw [HEQ.out, if_pos (.inl h1)])
      have hd : decide ((4 : Int) < lev) = true := by simp [h1]
      clear h1 l2 HEQ
      go_enter Tryz.func65, Tryz.ntmps65
      go_wp2_with fail
      go_ret
      rw [HRES.out]
      exact ⟨rfl, SW4.out.b3, SW4.out.ext⟩
    · have hd : decide ((4 : Int) < lev) = false := by simp; omega
      by_cases h2 : 256 < c
      · have HRES := Lib.hid (show soundV lev c x = (false, c) by rw [HEQ.out, if_pos (.inr (.inl h2))])
        have hd2 : decide ((256 : Int) < c) = true := by simp; omega
        clear h1 h2 HEQ
        go_enter Tryz.func65, Tryz.ntmps65
        go_wp2_with fail
        go_ret
        rw [HRES.out]
        exact ⟨rfl, SW4.out.b3, SW4.out.ext⟩
      · have hd2 : decide ((256 : Int) < c) = false := by simp; omega
        have hlev : lev ≤ 4 := by omega
        have hcc : 0 ≤ c ∧ c ≤ 256 := by omega
        have HP := Lib.hid (fun W (hTW : Tabs W) => alone_any x.k x.n x.sc x.s A x.items.length cc W HOK.out.s hTW)
        have HT4 := Lib.hid (HT.out.ext SW4.out.ext (fun e => (HT.out.ne_int (hbI.out)).1 e.symm) (fun e => (HT.out.ne_int (hbI.out)).2 e.symm))
        go_enter Tryz.func65, Tryz.ntmps65
        go_wp2_with fail
        refine (HP.out _ HT4.out).mono ?_
        rintro e w5 ⟨rfl, hb5⟩
        have SW5 := SW4.out.ext_ (Tab.Ext.of_below hb5) (SW4.out.b3.below hb5 SW4.out.b3.lt)
        have HT5 := Lib.hid (HT4.out.later hb5)
        clear HP SW4 HT4 hb5 q4
        cases hpl2 : plainF x.k x.n x.sc x.s x.items.length with
        | false =>
          have HRES := Lib.hid (show soundV lev c x = (false, c) by rw [HEQ.out, if_pos (.inr (.inr hpl2))])
          clear HEQ hpl2
          have SW5 := Lib.hid SW5
          go_wp2_with fail
          go_ret
          rw [HRES.out]
          exact ⟨rfl, SW5.out.b3, SW5.out.ext⟩
        | true =>
          have HRES := Lib.hid (show soundV lev c x = soundL (lev + 1) c x.items by rw [HEQ.out, if_neg (by rw [hpl2]; simp; omega)])
          clear HEQ hpl2
          have SW5 := Lib.hid SW5
          have q := wcell5 SW5.out.b0
          obtain ⟨A', cc', iA, iC, he, hc, hm, hs, hw, hri⟩ := HR.out.shape
          injection he with e1 e2 e3
          subst e1
          subst e3
          clear e2
          have HS := Lib.hid hs
          have HW := Lib.hid hw
          have HRI := Lib.hid hri
          unfold maxLen at hm
          clear hs hw hri
          obtain ⟨n, hln⟩ : ∃ n, x.items.length = n := ⟨_, rfl⟩
          have HN := Lib.hid hln
          rw [hln] at hc q
          clear hln
          go_wp2_with fail
          clear q
          go_loopw [6, 7, 32] (fun _ _ i wr => ∃ k : Nat, k ≤ n ∧ i = .int .i64 k ∧ Hid (SWR w wr x A cc (stC (lev + 1) c x.items k) pb ∧ (∀ j, j < k → (soundV (lev + 1) (stC (lev + 1) c x.items j) (at_ x.items j)).1 = true) ∧ 0 ≤ stC (lev + 1) c x.items k ∧ stC (lev + 1) c x.items k ≤ 256)) (fun _ _ i _ => n - (intOf i).toNat)
          case atStart => exact ⟨0, Nat.zero_le _, rfl, Lib.hid ⟨SW5.out, fun j h => absurd h (Nat.not_lt_zero j), hcc.1, hcc.2⟩⟩
          case round =>
            obtain ⟨k, hk, rfl, HI⟩ := hrel
            by_cases hlt : k < n
            · as_aux_lemma =>
              have hkl : k < x.items.length := by rw [HN.out]; exact hlt
              obtain ⟨b, off, rfl, hFb, hbw, hcells⟩ := HS.out (by omega)
              have hne : b ≠ pb := HF.out b hFb
              have y := (hcells k hkl).keep (HI.out.1.ext.block b hbw hne)
              unfold CellsV at y
              have q := wcell5 HI.out.1.b0
              rw [HN.out] at q
              have hzb : b < wr.heap.size := Nat.lt_of_lt_of_le hbw HI.out.1.ext.size
              have HCALL := Lib.hid (HH.out (at_ x.items k) (at_mem hkl) F (.agg #[.int .i64 (at_ x.items k).k, .int .i64 (at_ x.items k).n, .int .i64 (at_ x.items k).sc, .string (at_ x.items k).s, .slice (iA k) (at_ x.items k).items.length (iC k)]) wr (lev + 1) (stC (lev + 1) c x.items k) pb
                ⟨_, _, rfl, HW.out k hkl, (HRI.out k hkl).ext HI.out.1.ext (fun b' h => HF.out b' h)⟩ (HT.out.ext HI.out.1.ext (fun e => (HT.out.ne_int (hbI.out)).1 e.symm) (fun e => (HT.out.ne_int (hbI.out)).2 e.symm)) HI.out.1.b3 HF.out (by omega) (by omega) HI.out.2.2.1 HI.out.2.2.2)
              have HBD := Lib.hid (soundV_bound (at_ x.items k) (lev + 1) (stC (lev + 1) c x.items k) HI.out.2.2.1)
              have HST := Lib.hid (show stC (lev + 1) c x.items (k + 1) = (soundV (lev + 1) (stC (lev + 1) c x.items k) (at_ x.items k)).2 from rfl)
              clear hcells
              go_wp2_with fail
              refine HCALL.out.mono ?_
              rintro e w6 ⟨rfl, o2, o3⟩
              have SW6 := Lib.hid (HI.out.1.ext_ o3 o2)
              clear o2 o3 HCALL y q
              cases hsv : (soundV (lev + 1) (stC (lev + 1) c x.items k) (at_ x.items k)).1 with
              | true =>
                have HI2 := Lib.hid (show SWR w w6 x (some ⟨b, off, none⟩) cc (stC (lev + 1) c x.items (k + 1)) pb ∧ (∀ j, j < k + 1 → (soundV (lev + 1) (stC (lev + 1) c x.items j) (at_ x.items j)).1 = true) ∧ 0 ≤ stC (lev + 1) c x.items (k + 1) ∧ stC (lev + 1) c x.items (k + 1) ≤ 256 from
                  ⟨by rw [HST.out]; exact SW6.out, fun j hj => by
                    by_cases hjk : j < k
                    · exact HI.out.2.1 j hjk
                    · obtain rfl : j = k := by omega
                      exact hsv, by rw [HST.out]; exact HBD.out hsv⟩)
                clear hsv HBD
                go_wp2_with fail
                go_roundw
                case rel => exact ⟨k + 1, hlt, by go_num, HI2⟩
                case measure => simp [intOf] <;> omega
              | false =>
                have HX := Lib.hid (soundL_first (lev + 1) c x.items k hkl HI.out.2.1 hsv)
                clear hsv HBD
                go_wp2_with fail
                go_ret
                rw [HRES.out, HX.out]
                exact ⟨rfl, SW6.out.b3, SW6.out.ext⟩
            · as_aux_lemma =>
              obtain rfl : k = n := by omega
              have HX := Lib.hid (soundL_all (lev + 1) c x.items (fun j hj => HI.out.2.1 j (by rw [HN.out] at hj; exact hj)))
              go_wp2_with fail
              go_ret
              rw [HRES.out, HX.out, HN.out]
              exact ⟨rfl, HI.out.1.b3, HI.out.1.ext⟩
  · have ek : (x.k != 0) = true := by simp [hk]
    have HEQ := Lib.hid (show soundV lev c x = if 4 < lev ∨ 256 < (c + 1) ∨ plainF x.k x.n x.sc x.s x.items.length = false then (false, (c + 1)) else soundL (lev + 1) (c + 1) x.items by rw [soundV_eq]; simp only [if_neg hk])
    have SW4 := Lib.hid (show SWR w ((w.setCell ⟨pb, 0, none⟩ (.int .i64 (c + 1))).alloc (.cells #[.int .i64 x.k, .int .i64 x.n, .int .i64 x.sc, .string x.s, .slice A x.items.length cc] 33)) x A cc (c + 1) pb from
      ⟨by have h := Blk.new (w.setCell ⟨pb, 0, none⟩ (.int .i64 (c + 1))) 33 [.int .i64 x.k, .int .i64 x.n, .int .i64 x.sc, .string x.s, .slice A x.items.length cc]; simpa using h, (hbI.out.set_ 0 _).alloc _, ((Tab.Ext.refl (fun b => b = pb) w).setCell (p := ⟨pb, 0, none⟩) (.inl rfl) (.int .i64 (c + 1))).alloc _, hpl⟩)
    have q4 := SW4.out.b3.cell 0
    simp only [List.getElem?_cons_zero] at q4
    clear hk SW3
    by_cases h1 : 4 < lev
    · have HRES := Lib.hid (show soundV lev c x = (false, (c + 1)) by rw [HEQ.out, if_pos (.inl h1)])
      have hd : decide ((4 : Int) < lev) = true := by simp [h1]
      clear h1 l2 HEQ
      go_enter Tryz.func65, Tryz.ntmps65
      go_wp2_with fail
      go_ret
      rw [HRES.out]
      exact ⟨rfl, SW4.out.b3, SW4.out.ext⟩
    · have hd : decide ((4 : Int) < lev) = false := by simp; omega
      by_cases h2 : 256 < (c + 1)
      · have HRES := Lib.hid (show soundV lev c x = (false, (c + 1)) by rw [HEQ.out, if_pos (.inr (.inl h2))])
        have hd2 : decide ((256 : Int) < (c + 1)) = true := by simp; omega
        clear h1 h2 HEQ
        go_enter Tryz.func65, Tryz.ntmps65
        go_wp2_with fail
        go_ret
        rw [HRES.out]
        exact ⟨rfl, SW4.out.b3, SW4.out.ext⟩
      · have hd2 : decide ((256 : Int) < (c + 1)) = false := by simp; omega
        have hlev : lev ≤ 4 := by omega
        have hcc : 0 ≤ (c + 1) ∧ (c + 1) ≤ 256 := by omega
        have HP := Lib.hid (fun W (hTW : Tabs W) => alone_any x.k x.n x.sc x.s A x.items.length cc W HOK.out.s hTW)
        have HT4 := Lib.hid (HT.out.ext SW4.out.ext (fun e => (HT.out.ne_int (hbI.out)).1 e.symm) (fun e => (HT.out.ne_int (hbI.out)).2 e.symm))
        go_enter Tryz.func65, Tryz.ntmps65
        go_wp2_with fail
        refine (HP.out _ HT4.out).mono ?_
        rintro e w5 ⟨rfl, hb5⟩
        have SW5 := SW4.out.ext_ (Tab.Ext.of_below hb5) (SW4.out.b3.below hb5 SW4.out.b3.lt)
        have HT5 := Lib.hid (HT4.out.later hb5)
        clear HP SW4 HT4 hb5 q4
        cases hpl2 : plainF x.k x.n x.sc x.s x.items.length with
        | false =>
          have HRES := Lib.hid (show soundV lev c x = (false, (c + 1)) by rw [HEQ.out, if_pos (.inr (.inr hpl2))])
          clear HEQ hpl2
          have SW5 := Lib.hid SW5
          go_wp2_with fail
          go_ret
          rw [HRES.out]
          exact ⟨rfl, SW5.out.b3, SW5.out.ext⟩
        | true =>
          have HRES := Lib.hid (show soundV lev c x = soundL (lev + 1) (c + 1) x.items by rw [HEQ.out, if_neg (by rw [hpl2]; simp; omega)])
          clear HEQ hpl2
          have SW5 := Lib.hid SW5
          have q := wcell5 SW5.out.b0
          obtain ⟨A', cc', iA, iC, he, hc, hm, hs, hw, hri⟩ := HR.out.shape
          injection he with e1 e2 e3
          subst e1
          subst e3
          clear e2
          have HS := Lib.hid hs
          have HW := Lib.hid hw
          have HRI := Lib.hid hri
          unfold maxLen at hm
          clear hs hw hri
          obtain ⟨n, hln⟩ : ∃ n, x.items.length = n := ⟨_, rfl⟩
          have HN := Lib.hid hln
          rw [hln] at hc q
          clear hln
          go_wp2_with fail
          clear q
          go_loopw [6, 7, 32] (fun _ _ i wr => ∃ k : Nat, k ≤ n ∧ i = .int .i64 k ∧ Hid (SWR w wr x A cc (stC (lev + 1) (c + 1) x.items k) pb ∧ (∀ j, j < k → (soundV (lev + 1) (stC (lev + 1) (c + 1) x.items j) (at_ x.items j)).1 = true) ∧ 0 ≤ stC (lev + 1) (c + 1) x.items k ∧ stC (lev + 1) (c + 1) x.items k ≤ 256)) (fun _ _ i _ => n - (intOf i).toNat)
          case atStart => exact ⟨0, Nat.zero_le _, rfl, Lib.hid ⟨SW5.out, fun j h => absurd h (Nat.not_lt_zero j), hcc.1, hcc.2⟩⟩
          case round =>
            obtain ⟨k, hk, rfl, HI⟩ := hrel
            by_cases hlt : k < n
            · as_aux_lemma =>
              have hkl : k < x.items.length := by rw [HN.out]; exact hlt
              obtain ⟨b, off, rfl, hFb, hbw, hcells⟩ := HS.out (by omega)
              have hne : b ≠ pb := HF.out b hFb
              have y := (hcells k hkl).keep (HI.out.1.ext.block b hbw hne)
              unfold CellsV at y
              have q := wcell5 HI.out.1.b0
              rw [HN.out] at q
              have hzb : b < wr.heap.size := Nat.lt_of_lt_of_le hbw HI.out.1.ext.size
              have HCALL := Lib.hid (HH.out (at_ x.items k) (at_mem hkl) F (.agg #[.int .i64 (at_ x.items k).k, .int .i64 (at_ x.items k).n, .int .i64 (at_ x.items k).sc, .string (at_ x.items k).s, .slice (iA k) (at_ x.items k).items.length (iC k)]) wr (lev + 1) (stC (lev + 1) (c + 1) x.items k) pb
                ⟨_, _, rfl, HW.out k hkl, (HRI.out k hkl).ext HI.out.1.ext (fun b' h => HF.out b' h)⟩ (HT.out.ext HI.out.1.ext (fun e => (HT.out.ne_int (hbI.out)).1 e.symm) (fun e => (HT.out.ne_int (hbI.out)).2 e.symm)) HI.out.1.b3 HF.out (by omega) (by omega) HI.out.2.2.1 HI.out.2.2.2)
              have HBD := Lib.hid (soundV_bound (at_ x.items k) (lev + 1) (stC (lev + 1) (c + 1) x.items k) HI.out.2.2.1)
              have HST := Lib.hid (show stC (lev + 1) (c + 1) x.items (k + 1) = (soundV (lev + 1) (stC (lev + 1) (c + 1) x.items k) (at_ x.items k)).2 from rfl)
              clear hcells
              go_wp2_with fail
              refine HCALL.out.mono ?_
              rintro e w6 ⟨rfl, o2, o3⟩
              have SW6 := Lib.hid (HI.out.1.ext_ o3 o2)
              clear o2 o3 HCALL y q
              cases hsv : (soundV (lev + 1) (stC (lev + 1) (c + 1) x.items k) (at_ x.items k)).1 with
              | true =>
                have HI2 := Lib.hid (show SWR w w6 x (some ⟨b, off, none⟩) cc (stC (lev + 1) (c + 1) x.items (k + 1)) pb ∧ (∀ j, j < k + 1 → (soundV (lev + 1) (stC (lev + 1) (c + 1) x.items j) (at_ x.items j)).1 = true) ∧ 0 ≤ stC (lev + 1) (c + 1) x.items (k + 1) ∧ stC (lev + 1) (c + 1) x.items (k + 1) ≤ 256 from
                  ⟨by rw [HST.out]; exact SW6.out, fun j hj => by
                    by_cases hjk : j < k
                    · exact HI.out.2.1 j hjk
                    · obtain rfl : j = k := by omega
                      exact hsv, by rw [HST.out]; exact HBD.out hsv⟩)
                clear hsv HBD
                go_wp2_with fail
                go_roundw
                case rel => exact ⟨k + 1, hlt, by go_num, HI2⟩
                case measure => simp [intOf] <;> omega
              | false =>
                have HX := Lib.hid (soundL_first (lev + 1) (c + 1) x.items k hkl HI.out.2.1 hsv)
                clear hsv HBD
                go_wp2_with fail
                go_ret
                rw [HRES.out, HX.out]
                exact ⟨rfl, SW6.out.b3, SW6.out.ext⟩
            · as_aux_lemma =>
              obtain rfl : k = n := by omega
              have HX := Lib.hid (soundL_all (lev + 1) (c + 1) x.items (fun j hj => HI.out.2.1 j (by rw [HN.out] at hj; exact hj)))
              go_wp2_with fail
              go_ret
              rw [HRES.out, HX.out, HN.out]
              exact ⟨rfl, HI.out.1.b3, HI.out.1.ext⟩

theorem soundRAt (x : VD) : SoundRAt x := soundR_step x fun y _ => soundRAt y
termination_by SizeOf.sizeOf x
decreasing_by
  rename_i hy
  have := List.sizeOf_lt_of_mem hy
  cases x
  simp only [VD.items] at this
  simp
  omega

set_option maxHeartbeats 1000000 in
theorem SoundR_any (x : VD) (F : Nat → Prop) (va : Value) (w : World) (hv : VAgg w F va x) (hT : Tabs w) :
    Calls Tryz.prog 16 #[va] w fun e w' => e = .returned (.bool (soundB x)) ∧ Below w.heap.size w w' := by
  obtain ⟨A, cc, rfl, hok, hr⟩ := hv
  have hb1 : Blk ((w.alloc (.cells #[.int .i64 x.k, .int .i64 x.n, .int .i64 x.sc, .string x.s, .slice A x.items.length cc] 33)).alloc (.cells #[.int .i64 0] 3)) (w.heap.size + 1) 3 [.int .i64 0] := by
    have h := Blk.new (w.alloc (.cells #[.int .i64 x.k, .int .i64 x.n, .int .i64 x.sc, .string x.s, .slice A x.items.length cc] 33)) 3 [.int .i64 0]
    simpa using h
  have hbel : Below w.heap.size w ((w.alloc (.cells #[.int .i64 x.k, .int .i64 x.n, .int .i64 x.sc, .string x.s, .slice A x.items.length cc] 33)).alloc (.cells #[.int .i64 0] 3)) := (below_new w _).alloc (by simp) _
  have HC := Lib.hid (soundRAt x (fun b => F b ∧ b < w.heap.size) (.agg #[.int .i64 x.k, .int .i64 x.n, .int .i64 x.sc, .string x.s, .slice A x.items.length cc]) _ 1 0 (w.heap.size + 1) ⟨A, cc, rfl, hok, (hr.mono (fun b hb hl => ⟨hb, hl⟩)).later hbel⟩ (hT.later hbel) hb1 (fun b hb e => by have := hb.2; omega) (by omega) (by omega) (by omega) (by omega))
  have HB := Lib.hid hbel
  clear hok hr hT hb1 hbel
  go_enter Tryz.func16, Tryz.ntmps16
  go_wp2_with fail
  refine HC.out.mono ?_
  rintro e w1 ⟨rfl, o1, o2⟩
  have O := Lib.hid (show Below w.heap.size w w1 from HB.out.trans ⟨o2.os, o2.tape, o2.output, o2.size, fun k hk => o2.block k (by simp; omega) (by omega)⟩)
  have HE : (soundV 1 0 x).1 = soundB x := rfl
  rw [HE]
  clear o1 o2 HC HE HB
  go_wp2_with fail
  go_ret
  exact ⟨rfl, O.out⟩
end Go.Proofs.YthejmnmkbldacaaGreatDoor

namespace Go.Proofs.YthejmnmkbldacaaGreatDoor
open Go.RowKit
attribute [local go_sem] Tab.Env.ev Tab.Env.get

set_option maxHeartbeats 400000 in
theorem compareRowsR_any (F F' : Nat → Prop) (v1 v2 : Value) (l1 l2 : List VD) (w : World) (h1 : RI w F v1 l1) (h2 : RI w F' v2 l2) :
    Calls Tryz.prog 64 #[v1, v2] w fun e w' => e = .returned (.int .i64 (cmpL l1 l2)) ∧ Below w.heap.size w w' := by
  have hk : ∀ l, (VD.mk 6 0 0 .empty l).ok := fun l => ⟨show I64 6 by unfold I64; decide, show I64 0 by unfold I64; decide, show I64 0 by unfold I64; decide, Nat.zero_le _⟩
  obtain ⟨A1, c1, _, _, rfl, _⟩ := h1.shape
  obtain ⟨A2, c2, _, _, rfl, _⟩ := h2.shape
  have HC := Lib.hid (compareRAt (.mk 6 0 0 .empty l1) (.mk 6 0 0 .empty l2) F F' (.agg #[.int .i64 6, .int .i64 0, .int .i64 0, .string .empty, .slice A1 l1.length c1]) (.agg #[.int .i64 6, .int .i64 0, .int .i64 0, .string .empty, .slice A2 l2.length c2]) w ⟨A1, c1, rfl, hk _, h1⟩ ⟨A2, c2, rfl, hk _, h2⟩)
  rw [cmpV_row] at HC
  clear h1 h2
  go_enter Tryz.func64, Tryz.ntmps64
  go_wp2_with fail
  refine HC.out.mono ?_
  rintro e w1 ⟨rfl, hb⟩
  go_wp2_with fail
  go_ret
  exact ⟨rfl, hb⟩
end Go.Proofs.YthejmnmkbldacaaGreatDoor

namespace Go.Proofs.YthejmnmkbldacaaGreatDoor
open Go Go.RowKit

section
variable {α : Type}
/-- elements with a number that the order does not look at -/
structure Cnt (c : α → α → Int) (n : α → Int) (s : α → Int → α) : Prop where
  ord : CmpOrd c
  ns : ∀ x m, n (s x m) = m
  ss : ∀ x m k, s (s x m) k = s x k
  sn : ∀ x, s x (n x) = x
  cs : ∀ x m y, c (s x m) y = c x y
def sumN (n : α → Int) : List α → Int
  | [] => 0
  | d :: l => n d + sumN n l
def absN (n : α → Int) : List α → Int
  | [] => 0
  | d :: l => (n d).natAbs + absN n l
/-- the numbers of those that compare equal to r -/
def tot (c : α → α → Int) (n : α → Int) (r : α) : List α → Int
  | [] => 0
  | d :: l => (if c d r = 0 then n d else 0) + tot c n r l
variable {c : α → α → Int} {n : α → Int} {s : α → Int → α}
theorem sumN_append (l r : List α) : sumN n (l ++ r) = sumN n l + sumN n r := by
  induction l with
  | nil => simp [sumN]
  | cons d l ih => simp only [List.cons_append, sumN, ih]; omega
theorem absN_append (l r : List α) : absN n (l ++ r) = absN n l + absN n r := by
  induction l with
  | nil => simp [absN]
  | cons d l ih => simp only [List.cons_append, absN, ih]; omega
theorem tot_append (x : α) (l r : List α) : tot c n x (l ++ r) = tot c n x l + tot c n x r := by
  induction l with
  | nil => simp [tot]
  | cons d l ih => simp only [List.cons_append, tot, ih]; omega
theorem absN_nonneg (l : List α) : 0 ≤ absN n l := by
  induction l with
  | nil => simp [absN]
  | cons d l ih => simp only [absN]; omega
theorem sumN_abs (l : List α) : (sumN n l).natAbs ≤ absN n l := by
  induction l with
  | nil => simp [sumN, absN]
  | cons d l ih => simp only [sumN, absN]; omega
theorem absN_mem {l : List α} {d : α} (h : d ∈ l) : (n d).natAbs ≤ absN n l := by
  induction l with
  | nil => cases h
  | cons e l ih =>
    have := absN_nonneg (n := n) l
    simp only [absN]
    rcases List.mem_cons.1 h with rfl | h
    · omega
    · have := ih h; omega
theorem sumN_perm {l r : List α} (h : l.Perm r) : sumN n l = sumN n r := by
  induction h with
  | nil => rfl
  | cons x _ ih => simp only [sumN, ih]
  | swap x y l => simp only [sumN]; omega
  | trans _ _ h1 h2 => exact h1.trans h2
theorem absN_perm {l r : List α} (h : l.Perm r) : absN n l = absN n r := by
  induction h with
  | nil => rfl
  | cons x _ ih => simp only [absN, ih]
  | swap x y l => simp only [absN]; omega
  | trans _ _ h1 h2 => exact h1.trans h2
theorem tot_perm (x : α) {l r : List α} (h : l.Perm r) : tot c n x l = tot c n x r := by
  induction h with
  | nil => rfl
  | cons x _ ih => simp only [tot, ih]
  | swap x y l => simp only [tot]; omega
  | trans _ _ h1 h2 => exact h1.trans h2
theorem CmpOrd.eq_trans (H : CmpOrd c) {a b d : α} (h1 : c a b = 0) (h2 : c b d = 0) : c a d = 0 := by
  have t1 := H.trans (Int.le_of_eq h1) (Int.le_of_eq h2)
  have e1 := H.anti a b
  have e2 := H.anti b d
  have t2 := H.trans (a := d) (b := b) (d := a) (by omega) (by omega)
  have e3 := H.anti a d
  omega
theorem CmpOrd.lt_of_lt_le (H : CmpOrd c) {a b d : α} (h1 : c a b < 0) (h2 : c b d ≤ 0) : c a d < 0 := by
  have t1 := H.trans (Int.le_of_lt h1) h2
  rcases Int.lt_or_lt_of_ne (show c a d ≠ 0 from fun e => by
    have e1 := H.anti a d
    have t2 := H.trans (a := b) (b := d) (d := a) h2 (by omega)
    have e2 := H.anti a b
    omega) with h | h
  · exact h
  · omega
theorem CmpOrd.lt_of_le_lt (H : CmpOrd c) {a b d : α} (h1 : c a b ≤ 0) (h2 : c b d < 0) : c a d < 0 := by
  have t1 := H.trans h1 (Int.le_of_lt h2)
  rcases Int.lt_or_lt_of_ne (show c a d ≠ 0 from fun e => by
    have e1 := H.anti a d
    have t2 := H.trans (a := d) (b := a) (d := b) (by omega) h1
    have e2 := H.anti b d
    omega) with h | h
  · exact h
  · omega
theorem tot_congr (H : CmpOrd c) {x y : α} (h : c x y = 0) (l : List α) : tot c n x l = tot c n y l := by
  induction l with
  | nil => rfl
  | cons d l ih =>
    simp only [tot, ih]
    have e : c d x = 0 ↔ c d y = 0 := ⟨fun k => H.eq_trans k h, fun k => H.eq_trans k (by have := H.anti x y; omega)⟩
    by_cases k : c d x = 0
    · rw [if_pos k, if_pos (e.1 k)]
    · rw [if_neg k, if_neg (fun k' => k (e.2 k'))]
theorem tot_zero {x : α} {l : List α} (h : ∀ d, d ∈ l → c d x ≠ 0) : tot c n x l = 0 := by
  induction l with
  | nil => rfl
  | cons d l ih =>
    simp only [tot]
    rw [if_neg (h d List.mem_cons_self), ih fun e he => h e (List.mem_cons_of_mem _ he)]
    rfl

/-- strictly in order -/
def Strict (c : α → α → Int) (l : List α) : Prop := l.Pairwise fun a b => c a b < 0
theorem tot_strict (H : CmpOrd c) {l : List α} (h : Strict c l) {d : α} (hd : d ∈ l) : tot c n d l = n d := by
  induction l with
  | nil => cases hd
  | cons e l ih =>
    have hp := List.pairwise_cons.1 h
    simp only [tot]
    rcases List.mem_cons.1 hd with rfl | hd'
    · rw [if_pos (H.self d), tot_zero fun x hx => ?_]
      · omega
      · have := hp.1 x hx
        have := H.anti d x
        omega
    · rw [if_neg (by have := hp.1 d hd'; omega), ih hp.2 hd']
      omega

/-- where the adding up stands -/
structure Grp (c : α → α → Int) (n : α → Int) (s : α → Int → α) (pre out : List α) : Prop where
  mem : ∀ x, x ∈ out → ∃ e, e ∈ pre ∧ x = s e (n x)
  strict : Strict c out
  last : pre ≠ [] → ∃ x y, out.getLast? = some x ∧ pre.getLast? = some y ∧ c x y = 0
  tot : ∀ r, tot c n r out = tot c n r pre
  sum : sumN n out = sumN n pre
  abs : absN n out ≤ absN n pre
  len : out.length ≤ pre.length
theorem Grp.start : Grp c n s ([] : List α) [] := ⟨fun _ h => (by cases h), List.Pairwise.nil, fun h => absurd rfl h, fun _ => rfl, rfl, Int.le_refl _, Nat.le_refl _⟩
theorem Grp.empty {pre : List α} (h : Grp c n s pre []) : pre = [] := by
  cases pre with
  | nil => rfl
  | cons a l =>
    obtain ⟨x, y, hx, _⟩ := h.last (by simp)
    cases hx
/-- a new one -/
theorem Grp.new (H : Cnt c n s) {pre out : List α} {d : α} (h : Grp c n s pre out) (hs : ∀ y, pre.getLast? = some y → c y d ≤ 0) (hn : ∀ x, out.getLast? = some x → c x d ≠ 0) : Grp c n s (pre ++ [d]) (out ++ [d]) where
  mem x hx := by
    rcases List.mem_append.1 hx with hx | hx
    · obtain ⟨e, he, h1⟩ := h.mem x hx
      exact ⟨e, List.mem_append_left _ he, h1⟩
    · rw [List.mem_singleton.1 hx]
      exact ⟨d, by simp, (H.sn d).symm⟩
  strict := by
    refine List.pairwise_append.2 ⟨h.strict, List.pairwise_singleton _ _, fun a ha b hb => ?_⟩
    rw [List.mem_singleton.1 hb]
    have hne : pre ≠ [] := by
      obtain ⟨e, he, _⟩ := h.mem a ha
      exact List.ne_nil_of_mem he
    obtain ⟨x, y, hx, hy, hxy⟩ := h.last hne
    have h1 : c x d < 0 := by
      have h2 := H.ord.trans (Int.le_of_eq hxy) (hs y hy)
      have := hn x hx
      omega
    have h2 : c a x ≤ 0 := by
      obtain ⟨o, rfl⟩ : ∃ o, out = o ++ [x] := by
        have := List.getLast?_eq_some_iff.1 hx
        exact this
      rcases List.mem_append.1 ha with ha | ha
      · exact Int.le_of_lt ((List.pairwise_append.1 h.strict).2.2 a ha x (by simp))
      · rw [List.mem_singleton.1 ha]; exact Int.le_of_eq (H.ord.self x)
    exact H.ord.lt_of_le_lt h2 h1
  last _ := ⟨d, d, by simp, by simp, H.ord.self d⟩
  tot r := by rw [tot_append, tot_append, h.tot]
  sum := by rw [sumN_append, sumN_append, h.sum]
  abs := by rw [absN_append, absN_append]; have := h.abs; omega
  len := by have := h.len; simp; omega
/-- one that is there -/
theorem Grp.add (H : Cnt c n s) {pre out : List α} {x d : α} (h : Grp c n s pre (out ++ [x])) (he : c x d = 0) : Grp c n s (pre ++ [d]) (out ++ [s x (n x + n d)]) where
  mem y hy := by
    rcases List.mem_append.1 hy with hy | hy
    · obtain ⟨e, he, h1⟩ := h.mem y (List.mem_append_left _ hy)
      exact ⟨e, List.mem_append_left _ he, h1⟩
    · rw [List.mem_singleton.1 hy]
      obtain ⟨e, he, h1⟩ := h.mem x (by simp)
      refine ⟨e, List.mem_append_left _ he, ?_⟩
      rw [h1, H.ss, H.ns, H.ns]
  strict := by
    obtain ⟨p1, _, p2⟩ := List.pairwise_append.1 h.strict
    refine List.pairwise_append.2 ⟨p1, List.pairwise_singleton _ _, fun a ha b hb => ?_⟩
    rw [List.mem_singleton.1 hb]
    have h1 := p2 a ha x (by simp)
    have e1 := H.ord.anti (s x (n x + n d)) a
    rw [H.cs] at e1
    have e2 := H.ord.anti x a
    omega
  last _ := ⟨s x (n x + n d), d, by simp, by simp, by rw [H.cs]; exact he⟩
  tot r := by
    have := h.tot r
    rw [tot_append] at this
    rw [tot_append, tot_append, ← this]
    simp only [Go.Proofs.YthejmnmkbldacaaGreatDoor.tot, H.cs, H.ns]
    have e : c d r = 0 ↔ c x r = 0 := ⟨fun k => H.ord.eq_trans he k, fun k => H.ord.eq_trans (by have := H.ord.anti x d; omega) k⟩
    by_cases k : c x r = 0
    · rw [if_pos k, if_pos k, if_pos (e.2 k)]; omega
    · rw [if_neg k, if_neg k, if_neg (fun k' => k (e.1 k'))]; omega
  sum := by
    have := h.sum
    rw [sumN_append] at this
    rw [sumN_append, sumN_append, ← this]
    simp only [sumN, H.ns]
    omega
  abs := by
    have := h.abs
    rw [absN_append] at this
    rw [absN_append, absN_append]
    simp only [absN, H.ns] at this ⊢
    omega
  len := by have := h.len; simp at this ⊢; omega

/-- what a canonical list is of a list -/
structure Canon (c : α → α → Int) (n : α → Int) (s : α → Int → α) (l out : List α) : Prop where
  mem : ∀ x, x ∈ out → ∃ e, e ∈ l ∧ x = s e (n x)
  strict : Strict c out
  nz : ∀ x, x ∈ out → n x ≠ 0
  tot : ∀ r, tot c n r out = tot c n r l
  sum : sumN n out = sumN n l
  abs : absN n out ≤ absN n l
  len : out.length ≤ l.length
theorem tot_filter (r : α) (l : List α) : tot c n r (l.filter fun d => n d ≠ 0) = tot c n r l := by
  induction l with
  | nil => rfl
  | cons d l ih =>
    rw [List.filter_cons]
    by_cases h : n d = 0
    · rw [if_neg (by simp [h]), ih]
      simp only [tot]
      rw [h]
      by_cases k : c d r = 0
      · rw [if_pos k]; omega
      · rw [if_neg k]; omega
    · simp only [h, ne_eq, not_false_eq_true, decide_true, if_true, tot, ih]
theorem sumN_filter (l : List α) : sumN n (l.filter fun d => n d ≠ 0) = sumN n l := by
  induction l with
  | nil => rfl
  | cons d l ih =>
    rw [List.filter_cons]
    by_cases h : n d = 0
    · rw [if_neg (by simp [h]), ih]
      simp only [sumN]
      omega
    · simp only [h, ne_eq, not_false_eq_true, decide_true, if_true, sumN, ih]
theorem absN_filter (p : α → Bool) (l : List α) : absN n (l.filter p) ≤ absN n l := by
  induction l with
  | nil => exact Int.le_refl _
  | cons d l ih =>
    rw [List.filter_cons]
    by_cases h : p d = true
    · simp only [h, if_true, absN]; omega
    · simp only [h, if_false, absN, Bool.false_eq_true]; omega
theorem Grp.canon {l pre out : List α} (h : Grp c n s pre out) (hp : pre.Perm l) : Canon c n s l (out.filter fun d => n d ≠ 0) where
  mem x hx := by
    obtain ⟨e, he, h1⟩ := h.mem x (List.mem_filter.1 hx).1
    exact ⟨e, hp.mem_iff.1 he, h1⟩
  strict := h.strict.filter _
  nz x hx := by simpa using (List.mem_filter.1 hx).2
  tot r := by rw [tot_filter, h.tot, tot_perm r hp]
  sum := by rw [sumN_filter, h.sum, sumN_perm hp]
  abs := Int.le_trans (absN_filter _ _) (by rw [← absN_perm hp]; exact h.abs)
  len := Nat.le_trans (List.length_filter_le _ _) (Nat.le_trans h.len (Nat.le_of_eq hp.length_eq))
/-- the same rows with the same numbers -/
def Same (c : α → α → Int) (n : α → Int) : List α → List α → Prop
  | [], [] => True
  | a :: l, b :: r => c a b = 0 ∧ n a = n b ∧ Same c n l r
  | _, _ => False
theorem same_of_tot (H : CmpOrd c) : ∀ {l r : List α}, Strict c l → Strict c r → (∀ x, x ∈ l → n x ≠ 0) → (∀ x, x ∈ r → n x ≠ 0) → (∀ x, tot c n x l = tot c n x r) → Same c n l r
  | [], [], _, _, _, _, _ => trivial
  | [], b :: r, _, hr, _, zr, ht => by
    have h1 := tot_strict (n := n) H hr (d := b) (by simp)
    rw [← ht b] at h1
    exact absurd h1.symm (zr b (by simp))
  | a :: l, [], hl, _, zl, _, ht => by
    have h1 := tot_strict (n := n) H hl (d := a) (by simp)
    rw [ht a] at h1
    exact absurd h1.symm (zl a (by simp))
  | a :: l, b :: r, hl, hr, zl, zr, ht => by
    obtain ⟨pl, ql⟩ := List.pairwise_cons.1 hl
    obtain ⟨pr, qr⟩ := List.pairwise_cons.1 hr
    have ha := tot_strict (n := n) H hl (d := a) (by simp)
    have hb := tot_strict (n := n) H hr (d := b) (by simp)
    have hab : c a b = 0 := by
      rcases Int.lt_or_lt_of_ne (a := c a b) (b := 0) |> fun f => (Classical.em (c a b = 0)).imp_right f with h | h | h
      · exact h
      · exfalso
        have := ht a
        rw [ha, tot_zero fun d hd => ?_] at this
        · exact zl a (by simp) this
        · have e1 : c a d < 0 := by
            rcases List.mem_cons.1 hd with rfl | hd
            · exact h
            · exact H.lt_of_lt_le h (Int.le_of_lt (pr d hd))
          have := H.anti a d
          omega
      · exfalso
        have h' : c b a < 0 := by have := H.anti a b; omega
        have := ht b
        rw [hb, tot_zero fun d hd => ?_] at this
        · exact zr b (by simp) this.symm
        · have e1 : c b d < 0 := by
            rcases List.mem_cons.1 hd with rfl | hd
            · exact h'
            · exact H.lt_of_lt_le h' (Int.le_of_lt (pl d hd))
          have := H.anti b d
          omega
    have hn : n a = n b := by rw [← ha, ht a, tot_congr H hab, hb]
    refine ⟨hab, hn, same_of_tot H ql qr (fun x hx => zl x (List.mem_cons_of_mem _ hx)) (fun x hx => zr x (List.mem_cons_of_mem _ hx)) fun x => ?_⟩
    have := ht x
    simp only [tot] at this
    have e : c a x = 0 ↔ c b x = 0 := ⟨fun k => H.eq_trans (by have := H.anti a b; omega) k, fun k => H.eq_trans hab k⟩
    by_cases k : c a x = 0
    · rw [if_pos k, if_pos (e.1 k)] at this; omega
    · rw [if_neg k, if_neg (fun k' => k (e.2 k'))] at this; omega
end
end Go.Proofs.YthejmnmkbldacaaGreatDoor

namespace Go.Proofs.YthejmnmkbldacaaGreatDoor
open Go Go.RowKit
section
variable {α : Type} {c : α → α → Int} {n : α → Int} {s : α → Int → α}

theorem Cnt.sc (H : Cnt c n s) (x y : α) (m : Int) : c y (s x m) = c y x := by rw [H.ord.anti (s x m) y, H.cs, ← H.ord.anti x y]
theorem Cnt.scc (H : Cnt c n s) (x y : α) (m k : Int) : c (s x m) (s y k) = c x y := by rw [H.cs, H.sc]

/-- the different elements of a list, in increasing order, with no number -/
structure DiffI (c : α → α → Int) (s : α → Int → α) (l es : List α) : Prop where
  strict : Strict c es
  mem : ∀ x, x ∈ es → ∃ d, d ∈ l ∧ x = s d 0
  all : ∀ d, d ∈ l → ∃ x, x ∈ es ∧ c x d = 0
theorem DiffI.nil : DiffI c s ([] : List α) [] := ⟨List.Pairwise.nil, fun _ h => (nomatch h), fun _ h => (nomatch h)⟩
theorem DiffI.skip {pre es : List α} {x d : α} (h : DiffI c s pre es) (hx : x ∈ es) (he : c x d = 0) : DiffI c s (pre ++ [d]) es :=
  ⟨h.strict, fun y hy => by obtain ⟨e, he, h1⟩ := h.mem y hy; exact ⟨e, List.mem_append_left _ he, h1⟩, fun y hy => by
    rcases List.mem_append.1 hy with hy | hy
    · exact h.all y hy
    · rw [List.mem_singleton.1 hy]; exact ⟨x, hx, he⟩⟩
theorem DiffI.ins (H : Cnt c n s) {pre es : List α} {d : α} (h : DiffI c s pre es) {k : Nat} (h1 : ∀ j (hj : j < es.length), j < k → c es[j] d < 0) (h2 : ∀ (hj : k < es.length), 0 < c es[k] d) :
    DiffI c s (pre ++ [d]) (es.take k ++ s d 0 :: es.drop k) := by
  have hst := h.strict
  unfold Strict at hst
  rw [← List.take_append_drop k es, List.pairwise_append] at hst
  obtain ⟨p1, p2, p3⟩ := hst
  have lo : ∀ x, x ∈ es.take k → c x (s d 0) < 0 := fun x hx => by
    obtain ⟨j, hj, rfl⟩ := List.mem_iff_getElem.1 hx
    rw [List.length_take] at hj
    rw [List.getElem_take, H.sc]
    exact h1 j (by omega) (by omega)
  have hi : ∀ y, y ∈ es.drop k → c (s d 0) y < 0 := fun y hy => by
    rw [H.cs, H.ord.anti]
    by_cases hk : k < es.length
    · rw [List.drop_eq_getElem_cons hk] at hy p2
      have hp := h2 hk
      rcases List.mem_cons.1 hy with rfl | hy
      · omega
      · have hlt := (List.pairwise_cons.1 p2).1 y hy
        have hd : c d es[k] < 0 := by rw [H.ord.anti]; omega
        have := H.ord.lt_of_lt_le hd (Int.le_of_lt hlt)
        rw [H.ord.anti] at this
        omega
    · rw [List.drop_eq_nil_of_le (by omega)] at hy
      cases hy
  refine ⟨?_, fun x hx => ?_, fun y hy => ?_⟩
  · unfold Strict
    rw [List.pairwise_append]
    refine ⟨p1, List.pairwise_cons.2 ⟨hi, p2⟩, fun x hx y hy => ?_⟩
    rcases List.mem_cons.1 hy with rfl | hy
    · exact lo x hx
    · exact p3 x hx y hy
  · rcases List.mem_append.1 hx with hx | hx
    · obtain ⟨e, he, h1⟩ := h.mem x (List.mem_of_mem_take hx)
      exact ⟨e, List.mem_append_left _ he, h1⟩
    · rcases List.mem_cons.1 hx with rfl | hx
      · exact ⟨d, by simp, rfl⟩
      · obtain ⟨e, he, h1⟩ := h.mem x (List.mem_of_mem_drop hx)
        exact ⟨e, List.mem_append_left _ he, h1⟩
  · rcases List.mem_append.1 hy with hy | hy
    · obtain ⟨x, hx, he⟩ := h.all y hy
      refine ⟨x, ?_, he⟩
      rw [← List.take_append_drop k es] at hx
      rcases List.mem_append.1 hx with hx | hx
      · exact List.mem_append_left _ hx
      · exact List.mem_append_right _ (List.mem_cons_of_mem _ hx)
    · rw [List.mem_singleton.1 hy]
      exact ⟨s d 0, by simp, by rw [H.cs]; exact H.ord.self d⟩

/-- what the reference takes for a sum: a number that is too large beyond 2^41 -/
def timesR (t : Int) : Int := if -2199023255552 ≤ t ∧ t < 2199023255552 then t else 1099511627777
def InT (t : Int) : Prop := -1099511627776 ≤ t ∧ t ≤ 1099511627776
instance (t : Int) : Decidable (InT t) := by unfold InT; infer_instance
theorem timesR_in {t : Int} : InT (timesR t) ↔ InT t := by
  unfold timesR InT
  split <;> omega
theorem timesR_neg_in {t : Int} : InT (-1 * timesR t) ↔ InT t := by
  unfold timesR InT
  split <;> omega
theorem timesR_eq {t : Int} (h : InT t) : timesR t = t := by
  unfold InT at h
  unfold timesR
  rw [if_pos (by omega)]

def refOut (c : α → α → Int) (n : α → Int) (s : α → Int → α) (sign : Int) (l es : List α) : List α := (es.map fun e => s e (sign * timesR (tot c n e l))).filter fun d => n d ≠ 0

theorem pw_map (H : Cnt c n s) {es : List α} (g : α → Int) (h : Strict c es) : Strict c (es.map fun e => s e (g e)) := by
  unfold Strict
  rw [List.pairwise_map]
  exact List.Pairwise.imp (fun {a b} hab => by rw [H.scc]; exact hab) h
theorem refOut_strict (H : Cnt c n s) (sign : Int) {l es : List α} (h : DiffI c s l es) : Strict c (refOut c n s sign l es) := List.Pairwise.filter _ (pw_map H _ h.strict)
theorem refOut_nz {sign : Int} {l es : List α} {x : α} (h : x ∈ refOut c n s sign l es) : n x ≠ 0 := by
  have := (List.mem_filter.1 h).2
  simpa using this
theorem refOut_tot (H : Cnt c n s) {l es : List α} (h : DiffI c s l es) (hr : ∀ e, e ∈ es → InT (tot c n e l)) (r : α) : tot c n r (refOut c n s 1 l es) = tot c n r l := by
  unfold refOut
  rw [tot_filter]
  by_cases hx : ∃ x, x ∈ es ∧ c x r = 0
  · obtain ⟨x, hx, hc⟩ := hx
    have h1 := tot_strict (n := n) H.ord (pw_map H (fun e => 1 * timesR (tot c n e l)) h.strict) (List.mem_map_of_mem (f := fun e => s e (1 * timesR (tot c n e l))) hx)
    have h2 := tot_congr (n := n) H.ord (x := s x (1 * timesR (tot c n x l))) (y := r) (by rw [H.cs]; exact hc) (es.map fun e => s e (1 * timesR (tot c n e l)))
    rw [h2] at h1
    rw [h1, H.ns, timesR_eq (hr x hx), Int.one_mul]
    exact tot_congr H.ord hc l
  · rw [tot_zero, tot_zero]
    · intro d hd e
      obtain ⟨x, hx', he⟩ := h.all d hd
      exact hx ⟨x, hx', H.ord.eq_trans he e⟩
    · intro d hd e
      obtain ⟨x, hx', rfl⟩ := List.mem_map.1 hd
      rw [H.cs] at e
      exact hx ⟨x, hx', e⟩

/-- where the reference finds a number too large the program does, and the other way round -/
theorem out_fail (H : Cnt c n s) {l es out : List α} (h : DiffI c s l es) (hc : Canon c n s l out) : (∀ x, x ∈ out → InT (n x)) ↔ ∀ e, e ∈ es → InT (tot c n e l) := by
  constructor
  · intro ho e he
    by_cases hz : tot c n e l = 0
    · rw [hz]; unfold InT; omega
    · have ht := hc.tot e
      have : ∃ x, x ∈ out ∧ c x e = 0 := by
        refine Classical.byContradiction fun hne => hz ?_
        rw [← ht]
        exact tot_zero fun d hd e' => hne ⟨d, hd, e'⟩
      obtain ⟨x, hx, hxe⟩ := this
      have h1 := tot_strict (n := n) H.ord hc.strict hx
      rw [tot_congr H.ord hxe, ht] at h1
      rw [h1]
      exact ho x hx
  · intro ho x hx
    obtain ⟨d, hd, h1⟩ := hc.mem x hx
    obtain ⟨e, he, hed⟩ := h.all d hd
    have hex : c e x = 0 := by rw [h1, H.sc]; exact hed
    have h2 := tot_strict (n := n) H.ord hc.strict hx
    rw [← tot_congr H.ord hex, hc.tot] at h2
    rw [← h2]
    exact ho e he

/-- both lists are the same -/
theorem ref_same (H : Cnt c n s) {l es out : List α} (h : DiffI c s l es) (hc : Canon c n s l out) (hr : ∀ e, e ∈ es → InT (tot c n e l)) : Same c n out (refOut c n s 1 l es) :=
  same_of_tot H.ord hc.strict (refOut_strict H 1 h) hc.nz (fun _ hx => refOut_nz hx) fun x => (hc.tot x).trans (refOut_tot H h hr x).symm
theorem Same.len : ∀ {a b : List α}, Same c n a b → a.length = b.length
  | [], [], _ => rfl
  | _ :: _, _ :: _, h => congrArg Nat.succ (Same.len h.2.2)
  | [], _ :: _, h => by cases h
  | _ :: _, [], h => by cases h
theorem Same.get : ∀ {a b : List α}, Same c n a b → ∀ (i : Nat) (h1 : i < a.length) (h2 : i < b.length), c a[i] b[i] = 0 ∧ n a[i] = n b[i]
  | [], _, _, _, h1, _ => by cases h1
  | _ :: _, [], h, _, _, _ => by cases h
  | _ :: _, _ :: _, h, 0, _, _ => ⟨h.1, h.2.1⟩
  | _ :: _, _ :: _, h, i + 1, h1, h2 => Same.get h.2.2 i (by simpa using h1) (by simpa using h2)
end
end Go.Proofs.YthejmnmkbldacaaGreatDoor
