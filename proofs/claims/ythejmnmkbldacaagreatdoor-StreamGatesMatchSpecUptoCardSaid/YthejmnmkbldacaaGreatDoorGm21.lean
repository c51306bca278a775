/-
  What is proved: which values package value takes for sound. Conditions: the tables of unicode/utf8 lie as they are laid.
  What is proved: which rows and which differences package stream takes for sound. Conditions: the tables of unicode/utf8 lie as they are laid.
  What is proved: a gate with its rows in memory, and what changes of it leave alone. Conditions: none.
  What is proved: one more rule for regions that draw: an operation that changes the world and hands a value on. Conditions: none.
-/
import Derived.Test.YthejmnmkbldacaaGreatDoorGm20
import Derived.Test.YthejmnmkbldacaaGreatDoorGm15
import Derived.Test.YthejmnmkbldacaaGreatDoorGm19
import Derived.Test.YthejmnmkbldacaaGreatDoorGm02
set_option linter.all false
namespace Go.Proofs.YthejmnmkbldacaaGreatDoor
open Go.RowKit
attribute [local go_sem] Tab.Env.ev Tab.Env.get

mutual
/-- a value at a level is sound, so many cells having been counted; and how many are counted behind it -/
def soundV : Int → Int → VD → Bool × Int
  | lev, c, .mk k n sc s l =>
    if 4 < lev ∨ 256 < (if k = 0 then c else c + 1) ∨ plainF k n sc s l.length = false then (false, if k = 0 then c else c + 1) else soundL (lev + 1) (if k = 0 then c else c + 1) l
def soundL : Int → Int → List VD → Bool × Int
  | _, c, [] => (true, c)
  | lev, c, x :: r => if (soundV lev c x).1 = true then soundL lev (soundV lev c x).2 r else (false, (soundV lev c x).2)
end
theorem soundV_eq (lev c : Int) (x : VD) : soundV lev c x = if 4 < lev ∨ 256 < (if x.k = 0 then c else c + 1) ∨ plainF x.k x.n x.sc x.s x.items.length = false then (false, if x.k = 0 then c else c + 1) else soundL (lev + 1) (if x.k = 0 then c else c + 1) x.items := by
  cases x
  rw [soundV]
  rfl
mutual
theorem soundV_bound : ∀ (x : VD) (lev c : Int), 0 ≤ c → (soundV lev c x).1 = true → 0 ≤ (soundV lev c x).2 ∧ (soundV lev c x).2 ≤ 256
  | .mk k n sc s l, lev, c, h0, h => by
    have hc : 0 ≤ (if k = 0 then c else c + 1) := by split <;> omega
    rw [soundV] at h ⊢
    by_cases hx : 4 < lev ∨ 256 < (if k = 0 then c else c + 1) ∨ plainF k n sc s l.length = false
    · rw [if_pos hx] at h
      cases h
    · rw [if_neg hx] at h ⊢
      exact soundL_bound l _ _ hc (by omega) h
theorem soundL_bound : ∀ (l : List VD) (lev c : Int), 0 ≤ c → c ≤ 256 → (soundL lev c l).1 = true → 0 ≤ (soundL lev c l).2 ∧ (soundL lev c l).2 ≤ 256
  | [], _, _, h0, h1, _ => ⟨h0, h1⟩
  | x :: r, lev, c, h0, h1, h => by
    rw [soundL] at h ⊢
    by_cases hx : (soundV lev c x).1 = true
    · rw [if_pos hx] at h ⊢
      have := soundV_bound x lev c h0 hx
      exact soundL_bound r lev _ this.1 this.2 h
    · rw [if_neg hx] at h
      cases h
end
/-- how many cells are counted behind i items -/
def stC (lev c : Int) (l : List VD) : Nat → Int
  | 0 => c
  | i + 1 => (soundV lev (stC lev c l i) (at_ l i)).2
theorem soundL_drop (lev c : Int) (l : List VD) : ∀ i, i ≤ l.length → (∀ j, j < i → (soundV lev (stC lev c l j) (at_ l j)).1 = true) → soundL lev c l = soundL lev (stC lev c l i) (l.drop i)
  | 0, _, _ => by simp [stC]
  | i + 1, hi, h => by
    rw [soundL_drop lev c l i (by omega) (fun j hj => h j (by omega)), at_drop (by omega), soundL, if_pos (h i (by omega))]
    rfl
theorem soundL_all (lev c : Int) (l : List VD) (h : ∀ j, j < l.length → (soundV lev (stC lev c l j) (at_ l j)).1 = true) : soundL lev c l = (true, stC lev c l l.length) := by
  rw [soundL_drop lev c l l.length (Nat.le_refl _) h, List.drop_length, soundL]
theorem soundL_first (lev c : Int) (l : List VD) (i : Nat) (hi : i < l.length) (h : ∀ j, j < i → (soundV lev (stC lev c l j) (at_ l j)).1 = true) (hf : (soundV lev (stC lev c l i) (at_ l i)).1 = false) : soundL lev c l = (false, (soundV lev (stC lev c l i) (at_ l i)).2) := by
  rw [soundL_drop lev c l i (by omega) h, at_drop hi, soundL, if_neg (by rw [hf]; simp)]

/-- sound's contract at a value -/
def SoundAt (x : VD) : Prop := ∀ (F : Nat → Prop) (va : Value) (w : World) (lev c : Int) (pb : Nat), VAgg w F va x → Tabs w → Blk w pb 3 [.int .i64 c] → (∀ b, F b → b ≠ pb) → 1 ≤ lev → lev ≤ 5 → 0 ≤ c → c ≤ 256 →
  Calls Tryz.prog 157 #[va, .int .i64 lev, .pointer (some ⟨pb, 0, none⟩)] w fun e w' => e = .returned (.bool (soundV lev c x).1) ∧ Blk w' pb 3 [.int .i64 (soundV lev c x).2] ∧ Tab.Ext (fun b => b = pb) w w'

set_option maxHeartbeats 1000000 in
theorem sound1_any (x : VD) (H : SoundAt x) (F : Nat → Prop) (va : Value) (w : World) (lev c : Int) (pb bl bp : Nat) (hv : VAgg w F va x) (hT : Tabs w) (hb : Blk w pb 3 [.int .i64 c]) (hF : ∀ b, F b → b ≠ pb)
    (hl : Blk w bl 3 [.int .i64 lev]) (hp : Blk w bp 96 [.pointer (some ⟨pb, 0, none⟩)]) (h1 : 0 ≤ lev) (h2 : lev ≤ 4) (h3 : 0 ≤ c) (h4 : c ≤ 256) :
    Calls Tryz.prog 193 #[va, .pointer (some ⟨bl, 0, none⟩), .pointer (some ⟨bp, 0, none⟩)] w fun e w' => e = .returned (.bool (!(soundV (lev + 1) c x).1)) ∧ Blk w' pb 3 [.int .i64 (soundV (lev + 1) c x).2] ∧ Tab.Ext (fun b => b = pb) w w' := by
  obtain ⟨A, cc, rfl, hok, hr⟩ := hv
  have HC := Lib.hid (fun (W : World) (hW : Below w.heap.size w W) => H F (.agg #[.int .i64 x.k, .int .i64 x.n, .int .i64 x.sc, .string x.s, .slice A x.items.length cc]) W (lev + 1) c pb ⟨A, cc, rfl, hok, hr.later hW⟩ (hT.later hW) (hb.below hW hb.lt) hF (by omega) (by omega) h3 h4)
  have q1 := hl.cell 0
  have q2 := hp.cell 0
  simp only [List.getElem?_cons_zero] at q1 q2
  have z1 := hl.lt
  have z2 := hp.lt
  have hbn := Lib.hid (below_new w (.cells #[.int .i64 x.k, .int .i64 x.n, .int .i64 x.sc, .string x.s, .slice A x.items.length cc] 33))
  clear hok hr H hT hb hF hl hp
  go_enter Tryz.func193, Tryz.ntmps193
  go_wp2_with fail
  refine (HC.out _ hbn.out).mono ?_
  rintro e w1 ⟨rfl, o1, o2⟩
  have O := Lib.hid (And.intro o1 ((Tab.Ext.of_below (M := fun b => b = pb) hbn.out).trans o2))
  clear o1 o2 HC hbn
  go_wp2_with fail
  go_ret
  exact ⟨rfl, O.out⟩
theorem cfSound1 : ∀ (args : Array Value) (w : World), (callFunc 193 args).run Tryz.prog w = .ok (.enter 193 args) w := fun _ _ => by simp [go_sem]

/-- where sound stands behind its count -/
structure SW (w W : World) (x : VD) (A : Option Addr) (cc : Nat) (lev c : Int) (pb : Nat) : Prop where
  b0 : Blk W w.heap.size 33 [.int .i64 x.k, .int .i64 x.n, .int .i64 x.sc, .string x.s, .slice A x.items.length cc]
  b1 : Blk W (w.heap.size + 1) 3 [.int .i64 lev]
  b2 : Blk W (w.heap.size + 2) 96 [.pointer (some ⟨pb, 0, none⟩)]
  b3 : Blk W pb 3 [.int .i64 c]
  ext : Tab.Ext (fun b => b = pb) w W
  pl : pb < w.heap.size
theorem SW.ext_ {w W W' : World} {x : VD} {A : Option Addr} {cc : Nat} {lev c c' : Int} {pb : Nat} (h : SW w W x A cc lev c pb) (he : Tab.Ext (fun b => b = pb) W W') (h3 : Blk W' pb 3 [.int .i64 c']) : SW w W' x A cc lev c' pb :=
  have := h.pl
  ⟨h.b0.ext he (by omega), h.b1.ext he (by omega), h.b2.ext he (by omega), h3, h.ext.trans he, h.pl⟩

theorem sw_start {w : World} {x : VD} {A : Option Addr} {cc : Nat} {lev c : Int} {pb : Nat} (hb : Blk w pb 3 [.int .i64 c]) :
    SW w (((w.alloc (.cells #[.int .i64 x.k, .int .i64 x.n, .int .i64 x.sc, .string x.s, .slice A x.items.length cc] 33)).alloc (.cells #[.int .i64 lev] 3)).alloc (.cells #[.pointer (some ⟨pb, 0, none⟩)] 96)) x A cc lev c pb where
  b0 := ((Blk.new w _ _).alloc _).alloc _
  b1 := by
    have h := (Blk.new (w.alloc (.cells #[.int .i64 x.k, .int .i64 x.n, .int .i64 x.sc, .string x.s, .slice A x.items.length cc] 33)) 3 [.int .i64 lev]).alloc (.cells #[.pointer (some ⟨pb, 0, none⟩)] 96)
    simpa using h
  b2 := by
    have h := Blk.new ((w.alloc (.cells #[.int .i64 x.k, .int .i64 x.n, .int .i64 x.sc, .string x.s, .slice A x.items.length cc] 33)).alloc (.cells #[.int .i64 lev] 3)) 96 [.pointer (some ⟨pb, 0, none⟩)]
    simpa using h
  b3 := ((hb.alloc _).alloc _).alloc _
  ext := (((Tab.Ext.refl _ w).alloc _).alloc _).alloc _
  pl := hb.lt

/-- the items, one by one -/
theorem sound_items (x : VD) (H : ∀ y, y ∈ x.items → SoundAt y) (F : Nat → Prop) (A : Option Addr) (cc : Nat) (w W : World) (lev c : Int) (pb : Nat) (sw : SW w W x A cc lev c pb) (hr : RI w F (.slice A x.items.length cc) x.items) (hT : Tabs W) (hF : ∀ b, F b → b ≠ pb) (l1 : 0 ≤ lev) (l2 : lev ≤ 4) (c1 : 0 ≤ c) (c2 : c ≤ 256) :
    Calls Tryz.prog 120 #[.slice A x.items.length cc, .func (.func 193) #[] #[.pointer (some ⟨w.heap.size + 1, 0, none⟩), .pointer (some ⟨w.heap.size + 2, 0, none⟩)]] W fun e w' => e = .returned (.bool (!(soundL (lev + 1) c x.items).1)) ∧ Blk w' pb 3 [.int .i64 (soundL (lev + 1) c x.items).2] ∧ Tab.Ext (fun b => b = pb) w w' := by
  have hne := hT.ne_int sw.b3
  refine (containsV2_any 193 (.pointer (some ⟨w.heap.size + 1, 0, none⟩)) (.pointer (some ⟨w.heap.size + 2, 0, none⟩)) cfSound1 F (.slice A x.items.length cc) x.items (fun i => !(soundV (lev + 1) (stC (lev + 1) c x.items i) (at_ x.items i)).1)
    (fun i w1 => Tab.Ext (fun b => b = pb) W w1 ∧ Blk w1 pb 3 [.int .i64 (stC (lev + 1) c x.items i)] ∧ 0 ≤ stC (lev + 1) c x.items i ∧ stC (lev + 1) c x.items i ≤ 256)
    (fun i w1 => Tab.Ext (fun b => b = pb) W w1 ∧ Blk w1 pb 3 [.int .i64 (soundV (lev + 1) (stC (lev + 1) c x.items i) (at_ x.items i)).2]) W ⟨Tab.Ext.refl _ _, sw.b3, c1, c2⟩
    (fun i w1 h => (hr.ext sw.ext (fun b hb => hF b hb)).ext h.1 (fun b hb => hF b hb)) (fun i w1 hi h va hva => ?_)).mono ?_
  · have sw1 := sw.ext_ h.1 h.2.1
    refine (sound1_any (at_ x.items i) (H _ (at_mem hi)) F va w1 lev (stC (lev + 1) c x.items i) pb (w.heap.size + 1) (w.heap.size + 2) hva (hT.ext h.1 (fun e => hne.1 e.symm) (fun e => hne.2 e.symm)) h.2.1 hF sw1.b1 sw1.b2 l1 l2 h.2.2.1 h.2.2.2).mono ?_
    rintro e w2 ⟨rfl, o1, o2⟩
    refine ⟨rfl, fun _ => ⟨h.1.trans o2, o1⟩, fun hp => ⟨h.1.trans o2, o1, ?_⟩⟩
    have hb := soundV_bound (at_ x.items i) (lev + 1) (stC (lev + 1) c x.items i) h.2.2.1 (by simpa using hp)
    exact hb
  · rintro e w1 (⟨rfl, o1, o2⟩ | ⟨i, hi, rfl, o1, o2, o3⟩)
    · have hs := soundL_all (lev + 1) c x.items (fun j hj => by simpa using o1 j hj)
      rw [hs]
      exact ⟨rfl, o2.2.1, sw.ext.trans o2.1⟩
    · have hs := soundL_first (lev + 1) c x.items i hi (fun j hj => by simpa using o2 j hj) (by simpa using o1)
      rw [hs]
      exact ⟨rfl, o3.2, sw.ext.trans o3.1⟩

/-- what sound leaves, of the pair that it answers -/
def SoundPost (w : World) (pb : Nat) (r : Bool × Int) (e : Ending) (w' : World) : Prop := e = .returned (.bool r.1) ∧ Blk w' pb 3 [.int .i64 r.2] ∧ Tab.Ext (fun b => b = pb) w w'

set_option maxHeartbeats 4000000 in
theorem sound_step (x : VD) (H : ∀ y, y ∈ x.items → SoundAt y) : SoundAt x := by
  intro F va w lev c pb hv hT hb hF l1 l2 c1 c2
  obtain ⟨A, cc, rfl, hok, hr⟩ := hv
  show Calls _ _ _ w (SoundPost w pb (soundV lev c x))
  have SW3 := Lib.hid (sw_start (x := x) (A := A) (cc := cc) (lev := lev) hb)
  have HH := Lib.hid H
  have HR := Lib.hid hr
  have HT := Lib.hid hT
  have HF := Lib.hid hF
  have HOK := Lib.hid hok
  have hpl := hb.lt
  have q0 := SW3.out.b3.cell 0
  have f0 := SW3.out.b3.frozen 0
  simp only [List.getElem?_cons_zero] at q0
  have hbI := Lib.hid hb
  clear H hr hT hF hok hb
  by_cases hk : x.k = 0
  · have ek : (x.k != 0) = false := by simp [hk]
    have HEQ := Lib.hid (show soundV lev c x = if 4 < lev ∨ 256 < c ∨ plainF x.k x.n x.sc x.s x.items.length = false then (false, c) else soundL (lev + 1) c x.items by rw [soundV_eq]; simp only [if_pos hk])
    have SW4 := Lib.hid (show SW w (((w.alloc (.cells #[.int .i64 x.k, .int .i64 x.n, .int .i64 x.sc, .string x.s, .slice A x.items.length cc] 33)).alloc (.cells #[.int .i64 lev] 3)).alloc (.cells #[.pointer (some ⟨pb, 0, none⟩)] 96)) x A cc lev c pb from SW3.out)
    have q4 := SW4.out.b3.cell 0
    simp only [List.getElem?_cons_zero] at q4
    clear hk SW3
    by_cases h1 : 4 < lev
    · have HRES := Lib.hid (show soundV lev c x = (false, c) by rw [HEQ.out, if_pos (.inl h1)])
      rw [HRES.out]
      clear HEQ HRES
      have hd : decide ((4 : Int) < lev) = true := by simp [h1]
      clear h1 l2
      go_enter Tryz.func157, Tryz.ntmps157
      go_wp2_with fail
      go_ret
      exact ⟨rfl, SW4.out.b3, SW4.out.ext⟩
    · have hd : decide ((4 : Int) < lev) = false := by simp; omega
      by_cases h2 : 256 < c
      · exact absurd h2 (by omega)
      · have hd2 : decide ((256 : Int) < c) = false := by simp; omega
        have hne : ¬ ((((w.alloc (.cells #[.int .i64 x.k, .int .i64 x.n, .int .i64 x.sc, .string x.s, .slice A x.items.length cc] 33)).alloc (.cells #[.int .i64 lev] 3)).alloc (.cells #[.pointer (some ⟨pb, 0, none⟩)] 96)).heap.size ≤ pb) := by simp; omega
        have HP := Lib.hid (fun W (hW : SW w W x A cc lev c pb) (hTW : Tabs W) => plain_any x.k x.n x.sc x.s A x.items.length cc W HOK.out.s hTW)
        have HT4 := Lib.hid (HT.out.ext SW4.out.ext (fun e => (HT.out.ne_int (hbI.out)).1 e.symm) (fun e => (HT.out.ne_int (hbI.out)).2 e.symm))
        clear hne
        go_enter Tryz.func157, Tryz.ntmps157
        go_wp2_with fail
        refine (HP.out _ SW4.out HT4.out).mono ?_
        rintro e w5 ⟨rfl, hb5⟩
        have SW5 := SW4.out.ext_ (Tab.Ext.of_below hb5) (SW4.out.b3.below hb5 SW4.out.b3.lt)
        have HT5 := Lib.hid (HT4.out.later hb5)
        clear HP SW4 HT4 hb5
        cases hpl2 : plainF x.k x.n x.sc x.s x.items.length with
        | false =>
          have HRES := Lib.hid (show soundV lev c x = (false, c) by rw [HEQ.out, if_pos (.inr (.inr hpl2))])
          clear HEQ hpl2
          have SW5 := Lib.hid SW5
          go_wp2_with fail
          go_ret
          rw [HRES.out]
          exact ⟨rfl, SW5.out.b3, SW5.out.ext⟩
        | true =>
          have HRES := Lib.hid (show soundV lev c x = soundL (lev + 1) c x.items by rw [HEQ.out, if_neg (by rw [hpl2]; simp; omega)])
          clear HEQ hpl2
          have q := wcell5 SW5.b0
          have r0 := SW5.b1.cell 0
          have r1 := SW5.b2.cell 0
          simp only [List.getElem?_cons_zero] at r0 r1
          have HCN := Lib.hid (sound_items x HH.out F A cc w w5 lev c pb SW5 HR.out HT5.out HF.out (by omega) (by omega) (by omega) (by omega))
          have SW5 := Lib.hid SW5
          go_wp2_with fail
          refine HCN.out.mono ?_
          rintro e w6 ⟨rfl, o2, o3⟩
          have O := Lib.hid (And.intro o2 o3)
          clear o2 o3 HCN
          go_wp2_with fail
          go_ret
          rw [HRES.out]
          exact ⟨by simp, O.out⟩
  · have ek : (x.k != 0) = true := by simp [hk]
    have HEQ := Lib.hid (show soundV lev c x = if 4 < lev ∨ 256 < (c + 1) ∨ plainF x.k x.n x.sc x.s x.items.length = false then (false, (c + 1)) else soundL (lev + 1) (c + 1) x.items by rw [soundV_eq]; simp only [if_neg hk])
    have SW4 := Lib.hid (show SW w ((((w.alloc (.cells #[.int .i64 x.k, .int .i64 x.n, .int .i64 x.sc, .string x.s, .slice A x.items.length cc] 33)).alloc (.cells #[.int .i64 lev] 3)).alloc (.cells #[.pointer (some ⟨pb, 0, none⟩)] 96)).setCell ⟨pb, 0, none⟩ (.int .i64 (c + 1))) x A cc lev (c + 1) pb from SW3.out.ext_ ((Tab.Ext.refl (fun b => b = pb) _).setCell (p := ⟨pb, 0, none⟩) (.inl rfl) _) (SW3.out.b3.set_ 0 _))
    have q4 := SW4.out.b3.cell 0
    simp only [List.getElem?_cons_zero] at q4
    clear hk SW3
    by_cases h1 : 4 < lev
    · have HRES := Lib.hid (show soundV lev c x = (false, (c + 1)) by rw [HEQ.out, if_pos (.inl h1)])
      rw [HRES.out]
      clear HEQ HRES
      have hd : decide ((4 : Int) < lev) = true := by simp [h1]
      clear h1 l2
      go_enter Tryz.func157, Tryz.ntmps157
      go_wp2_with fail
      go_ret
      exact ⟨rfl, SW4.out.b3, SW4.out.ext⟩
    · have hd : decide ((4 : Int) < lev) = false := by simp; omega
      by_cases h2 : 256 < (c + 1)
      · have HRES := Lib.hid (show soundV lev c x = (false, (c + 1)) by rw [HEQ.out, if_pos (.inr (.inl h2))])
        rw [HRES.out]
        clear HEQ HRES
        have hd2 : decide ((256 : Int) < (c + 1)) = true := by simp; omega
        clear h1
        go_enter Tryz.func157, Tryz.ntmps157
        go_wp2_with fail
        go_ret
        exact ⟨rfl, SW4.out.b3, SW4.out.ext⟩
      · have hd2 : decide ((256 : Int) < (c + 1)) = false := by simp; omega
        have hne : ¬ (((((w.alloc (.cells #[.int .i64 x.k, .int .i64 x.n, .int .i64 x.sc, .string x.s, .slice A x.items.length cc] 33)).alloc (.cells #[.int .i64 lev] 3)).alloc (.cells #[.pointer (some ⟨pb, 0, none⟩)] 96)).setCell ⟨pb, 0, none⟩ (.int .i64 (c + 1))).heap.size ≤ pb) := by simp; omega
        have HP := Lib.hid (fun W (hW : SW w W x A cc lev (c + 1) pb) (hTW : Tabs W) => plain_any x.k x.n x.sc x.s A x.items.length cc W HOK.out.s hTW)
        have HT4 := Lib.hid (HT.out.ext SW4.out.ext (fun e => (HT.out.ne_int (hbI.out)).1 e.symm) (fun e => (HT.out.ne_int (hbI.out)).2 e.symm))
        clear hne
        go_enter Tryz.func157, Tryz.ntmps157
        go_wp2_with fail
        refine (HP.out _ SW4.out HT4.out).mono ?_
        rintro e w5 ⟨rfl, hb5⟩
        have SW5 := SW4.out.ext_ (Tab.Ext.of_below hb5) (SW4.out.b3.below hb5 SW4.out.b3.lt)
        have HT5 := Lib.hid (HT4.out.later hb5)
        clear HP SW4 HT4 hb5
        cases hpl2 : plainF x.k x.n x.sc x.s x.items.length with
        | false =>
          have HRES := Lib.hid (show soundV lev c x = (false, (c + 1)) by rw [HEQ.out, if_pos (.inr (.inr hpl2))])
          clear HEQ hpl2
          have SW5 := Lib.hid SW5
          go_wp2_with fail
          go_ret
          rw [HRES.out]
          exact ⟨rfl, SW5.out.b3, SW5.out.ext⟩
        | true =>
          have HRES := Lib.hid (show soundV lev c x = soundL (lev + 1) (c + 1) x.items by rw [HEQ.out, if_neg (by rw [hpl2]; simp; omega)])
          clear HEQ hpl2
          have q := wcell5 SW5.b0
          have r0 := SW5.b1.cell 0
          have r1 := SW5.b2.cell 0
          simp only [List.getElem?_cons_zero] at r0 r1
          have HCN := Lib.hid (sound_items x HH.out F A cc w w5 lev (c + 1) pb SW5 HR.out HT5.out HF.out (by omega) (by omega) (by omega) (by omega))
          have SW5 := Lib.hid SW5
          go_wp2_with fail
          refine HCN.out.mono ?_
          rintro e w6 ⟨rfl, o2, o3⟩
          have O := Lib.hid (And.intro o2 o3)
          clear o2 o3 HCN
          go_wp2_with fail
          go_ret
          rw [HRES.out]
          exact ⟨by simp, O.out⟩

theorem soundAt (x : VD) : SoundAt x := sound_step x fun y _ => soundAt y
termination_by SizeOf.sizeOf x
decreasing_by
  rename_i hy
  have := List.sizeOf_lt_of_mem hy
  cases x
  simp only [VD.items] at this
  simp
  omega
end Go.Proofs.YthejmnmkbldacaaGreatDoor

namespace Go.Proofs.YthejmnmkbldacaaGreatDoor
open Go.RowKit
attribute [local go_sem] Tab.Env.ev Tab.Env.get

/-- a value is sound -/
def soundB (x : VD) : Bool := (soundV 1 0 x).1
def rowSound (l : List VD) : Bool := l.all soundB
def allSound (l : List DE) : Bool := l.all fun d => rowSound d.row

set_option maxHeartbeats 1000000 in
theorem Sound_any (x : VD) (F : Nat → Prop) (va : Value) (w : World) (hv : VAgg w F va x) (hT : Tabs w) :
    Calls Tryz.prog 122 #[va] w fun e w' => e = .returned (.bool (soundB x)) ∧ Below w.heap.size w w' := by
  obtain ⟨A, cc, rfl, hok, hr⟩ := hv
  have hb1 : Blk ((w.alloc (.cells #[.int .i64 x.k, .int .i64 x.n, .int .i64 x.sc, .string x.s, .slice A x.items.length cc] 33)).alloc (.cells #[.int .i64 0] 3)) (w.heap.size + 1) 3 [.int .i64 0] := by
    have h := Blk.new (w.alloc (.cells #[.int .i64 x.k, .int .i64 x.n, .int .i64 x.sc, .string x.s, .slice A x.items.length cc] 33)) 3 [.int .i64 0]
    simpa using h
  have hbel : Below w.heap.size w ((w.alloc (.cells #[.int .i64 x.k, .int .i64 x.n, .int .i64 x.sc, .string x.s, .slice A x.items.length cc] 33)).alloc (.cells #[.int .i64 0] 3)) := (below_new w _).alloc (by simp) _
  have HC := Lib.hid (soundAt x (fun b => F b ∧ b < w.heap.size) (.agg #[.int .i64 x.k, .int .i64 x.n, .int .i64 x.sc, .string x.s, .slice A x.items.length cc]) _ 1 0 (w.heap.size + 1) ⟨A, cc, rfl, hok, (hr.mono (fun b hb hl => ⟨hb, hl⟩)).later hbel⟩ (hT.later hbel) hb1 (fun b hb e => by have := hb.2; omega) (by omega) (by omega) (by omega) (by omega))
  have HB := Lib.hid hbel
  clear hok hr hT hb1 hbel
  go_enter Tryz.func122, Tryz.ntmps122
  go_wp2_with fail
  refine HC.out.mono ?_
  rintro e w1 ⟨rfl, o1, o2⟩
  have O := Lib.hid (show Below w.heap.size w w1 from HB.out.trans ⟨o2.os, o2.tape, o2.output, o2.size, fun k hk => o2.block k (by simp; omega) (by omega)⟩)
  have HE : (soundV 1 0 x).1 = soundB x := rfl
  rw [HE]
  clear o1 o2 HC HE HB
  go_wp2_with fail
  go_ret
  exact ⟨rfl, O.out⟩
set_option maxHeartbeats 1000000 in
theorem soundRow1_any (x : VD) (F : Nat → Prop) (va : Value) (w : World) (hv : VAgg w F va x) (hT : Tabs w) :
    Calls Tryz.prog 121 #[va] w fun e w' => e = .returned (.bool (!soundB x)) ∧ Below w.heap.size w w' := by
  obtain ⟨A, cc, rfl, hok, hr⟩ := hv
  have hbn := below_new w (.cells #[.int .i64 x.k, .int .i64 x.n, .int .i64 x.sc, .string x.s, .slice A x.items.length cc] 33)
  have HC := Lib.hid (Sound_any x F (.agg #[.int .i64 x.k, .int .i64 x.n, .int .i64 x.sc, .string x.s, .slice A x.items.length cc]) _ ⟨A, cc, rfl, hok, hr.later hbn⟩ (hT.later hbn))
  have HB := Lib.hid hbn
  clear hok hr hT hbn
  go_enter Tryz.func121, Tryz.ntmps121
  go_wp2_with fail
  refine HC.out.mono ?_
  rintro e w1 ⟨rfl, o1⟩
  have O := Lib.hid (HB.out.trans (o1.mono HB.out.size))
  clear o1 HC HB
  go_wp2_with fail
  go_ret
  exact ⟨rfl, O.out⟩
theorem cfSoundRow1 : ∀ (args : Array Value) (w : World), (callFunc 121 args).run Tryz.prog w = .ok (.enter 121 args) w := fun _ _ => by simp [go_sem]
theorem soundRowC_any (F : Nat → Prop) (v : Value) (l : List VD) (w : World) (hr : RI w F v l) (hT : Tabs w) :
    Calls Tryz.prog 120 #[v, .func (.func 121) #[] #[]] w fun e w' => e = .returned (.bool (!rowSound l)) ∧ Below w.heap.size w w' := by
  refine (containsV_any 121 cfSoundRow1 F v l (fun i => !soundB (at_ l i)) (fun _ w1 => Below w.heap.size w w1) (fun _ w1 => Below w.heap.size w w1) w (Below.refl _ _) (fun _ w1 hb => hr.later hb) (fun i w1 hi hb va hva => ?_)).mono ?_
  · refine (soundRow1_any (at_ l i) F va w1 hva (hT.later hb)).mono ?_
    rintro e w2 ⟨rfl, hb2⟩
    exact ⟨rfl, fun _ => hb.trans (hb2.mono hb.size), fun _ => hb.trans (hb2.mono hb.size)⟩
  · rintro e w1 (⟨rfl, o1, o2⟩ | ⟨i, hi, rfl, o1, o2, o3⟩)
    · refine ⟨ret_bool ?_, o2⟩
      have : rowSound l = true := List.all_eq_true.2 fun d hd => by
        obtain ⟨j, hj, rfl⟩ := List.mem_iff_getElem.1 hd
        have := o1 j hj
        have e : at_ l j = l[j] := by
          unfold at_
          rw [List.getD_eq_getElem?_getD, List.getElem?_eq_getElem hj]
          rfl
        simp only [e] at this
        simpa using this
      rw [this]; rfl
    · refine ⟨ret_bool ?_, o3⟩
      have : rowSound l = false := by
        unfold rowSound
        rw [List.all_eq_false]
        exact ⟨at_ l i, at_mem hi, by simpa using o1⟩
      rw [this]; rfl
set_option maxHeartbeats 1000000 in
theorem soundRow_any (F : Nat → Prop) (v : Value) (l : List VD) (w : World) (hr : RI w F v l) (hT : Tabs w) :
    Calls Tryz.prog 71 #[v] w fun e w' => e = .returned (.bool (rowSound l)) ∧ Below w.heap.size w w' := by
  have HC := Lib.hid (soundRowC_any F v l w hr hT)
  clear hr hT
  go_enter Tryz.func71, Tryz.ntmps71
  go_wp2_with fail
  refine HC.out.mono ?_
  rintro e w1 ⟨rfl, o1⟩
  have O := Lib.hid o1
  clear o1 HC
  go_wp2_with fail
  go_ret
  exact ⟨by simp, O.out⟩
set_option maxHeartbeats 1000000 in
theorem sound1S_any (F : Nat → Prop) (d : DE) (w : World) (h : d.good w F) (hT : Tabs w) :
    Calls Tryz.prog 110 #[d.val] w fun e w' => e = .returned (.bool (!rowSound d.row)) ∧ Below w.heap.size w w' := by
  unfold DE.val
  obtain ⟨A1, c1, _, _, e1, _⟩ := h.row.shape
  have hbn := below_new w (.cells #[.slice A1 d.row.length c1, .int .i64 d.n] 86)
  have hr := h.row
  rw [e1] at hr ⊢
  have HC := Lib.hid (soundRow_any F _ d.row _ (hr.later hbn) (hT.later hbn))
  have HB := Lib.hid hbn
  clear e1 h hT hbn hr
  go_enter Tryz.func110, Tryz.ntmps110
  go_wp2_with fail
  refine HC.out.mono ?_
  rintro e w1 ⟨rfl, o1⟩
  have O := Lib.hid (HB.out.trans (o1.mono HB.out.size))
  clear o1 HC HB
  go_wp2_with fail
  go_ret
  exact ⟨rfl, O.out⟩
set_option maxHeartbeats 400000 in
theorem soundS_any (F F' : Nat → Prop) (v : Value) (l : List DE) (w : World) (h : RD w F F' v l) (hn : l.length < 1073741824) (hT : Tabs w) :
    Calls Tryz.prog 49 #[v] w fun e w' => e = .returned (.bool (allSound l)) ∧ Below w.heap.size w w' := by
  have H := Lib.hid (allD_any 110 (fun _ _ => by simp [go_sem]) (fun d => rowSound d.row) F F' v l w h hn (fun d w1 _ hg hb => sound1S_any F' d w1 hg (hT.later hb)))
  clear h hT
  go_enter Tryz.func49, Tryz.ntmps49
  go_wp2_with fail
  refine H.out.mono ?_
  rintro e w1 ⟨rfl, hb⟩
  change Below w.heap.size w w1 at hb
  have he : l.all (fun d => rowSound d.row) = allSound l := rfl
  rw [he]
  clear he H
  go_wp2_with fail
  go_ret
  exact ⟨by simp, hb⟩
end Go.Proofs.YthejmnmkbldacaaGreatDoor

namespace Go.Proofs.YthejmnmkbldacaaGreatDoor
open Go.RowKit
attribute [local go_sem] Tab.Env.ev Tab.Env.get

theorem own_keep {w w' : World} {base e size n : Nat} {v : Value} {xs : List Value} (h : w.ownsRow base e size v n xs) (he : ∀ b, v.ownBlock = some b → w'.heap[b]? = w.heap[b]?) : w'.ownsRow base e size v n xs :=
  ⟨h.1, h.2.elim .inl fun ⟨g, cap, cur, h1, h2, h3, h4⟩ => .inr ⟨g, cap, cur, h1, h2, (he g (by rw [h1]; rfl)).trans h3, h4⟩⟩
/-- the blocks that a gate's calls write to -/
def Mut (g s : Nat) (vw vl : Value) (b : Nat) : Prop := b = g ∨ b = s ∨ vw.ownBlock = some b ∨ vl.ownBlock = some b
/-- a row with a Moment in a column -/
def MomRow (col : Int) (r : List VD) : Prop := col.toNat < r.length ∧ (at_ r col.toNat).k = 5 ∧ Mom (at_ r col.toNat).n
/-- a gate with the rows that wait, and a row of rows that a call builds -/
structure GateS (w : World) (base g s cap ns : Nat) (D : GateD) (vw : Value) (ws : List RE) (vl : Value) (ls : List RE) : Prop where
  gm : GateM w base g s cap ns D vw
  wown : w.ownsRow base 31 1 vw ws.length (ws.map RE.rv)
  lown : w.ownsRow base 31 1 vl ls.length (ls.map RE.rv)
  sep : ∀ b, vw.ownBlock = some b → vl.ownBlock ≠ some b
  rows : ∀ e, e ∈ ws ∨ e ∈ ls → RI w (fun b => base ≤ b ∧ ¬ Mut g s vw vl b) e.rv e.row
  mom : ∀ e, e ∈ ws → MomRow D.column e.row
section
variable {w w' : World} {base g s cap ns : Nat} {D D' : GateD} {vw vl vl' vw' : Value} {ws ls : List RE} {e : RE}
theorem GateM.keep (h : GateM w base g s cap ns D vw) (hg : w'.heap[g]? = w.heap[g]?) (hs : w'.heap[s]? = w.heap[s]?) : GateM w' base g s cap ns D vw :=
  ⟨hg.trans h.blk, own_keep h.src (fun b hb => by
    simp only [Value.ownBlock] at hb
    injection hb with hb
    subst hb
    exact hs), h.len, h.ne, h.bg, h.ok⟩
theorem GateS.wg (h : GateS w base g s cap ns D vw ws vl ls) : vw.ownBlock ≠ some g ∧ vw.ownBlock ≠ some s ∧ vl.ownBlock ≠ some g ∧ vl.ownBlock ≠ some s := by
  have hs : ∀ {v : Value} {n : Nat} {xs : List Value}, w.ownsRow base 31 1 v n xs → v.ownBlock ≠ some s := fun hv he => by
    rcases h.gm.src.2 with ⟨e, _⟩ | ⟨g', cap', cur, e, _, hh, _⟩
    · cases e
    · injection e with e1
      injection e1 with e1
      injection e1 with e1
      subst e1
      rcases hv.2 with ⟨rfl, _⟩ | ⟨g2, cap2, cur2, rfl, _, hh2, _⟩
      · simp [Value.ownBlock] at he
      · have : g2 = s := by simpa [Value.ownBlock] using he
        subst this
        rw [hh] at hh2
        injection hh2 with hh2
        injection hh2 with _ ht
        exact absurd ht (by decide)
  exact ⟨own_blk_ne h.wown h.gm.blk (by decide), hs h.wown, own_blk_ne h.lown h.gm.blk (by decide), hs h.lown⟩
theorem GateS.later (h : GateS w base g s cap ns D vw ws vl ls) (hb : Below w.heap.size w w') : GateS w' base g s cap ns D vw ws vl ls :=
  ⟨h.gm.keep (hb.block g h.gm.blk.lt) (hb.block s h.gm.bs.2), own_keep h.wown (fun b hb' => hb.block b (h.wown.lt b hb').2), own_keep h.lown (fun b hb' => hb.block b (h.lown.lt b hb').2), h.sep, fun e he => (h.rows e he).later hb, h.mom⟩
/-- the gate itself changes -/
theorem GateS.gate (h : GateS w base g s cap ns D vw ws vl ls) (hm : GateM w' base g s cap ns D' vw) (hc : D'.column = D.column) (hx : Tab.Ext (fun b => b = g ∨ b = s) w w') : GateS w' base g s cap ns D' vw ws vl ls := by
  obtain ⟨k1, k2, k3, k4⟩ := h.wg
  refine ⟨hm, own_keep h.wown (fun b hb => hx.block b (h.wown.lt b hb).2 (fun e => ?_)), own_keep h.lown (fun b hb => hx.block b (h.lown.lt b hb).2 (fun e => ?_)), h.sep, fun e he => (h.rows e he).ext hx (fun b hb e => hb.2 (e.elim .inl fun e => .inr (.inl e))), fun e he => by rw [hc]; exact h.mom e he⟩
  · rcases e with e | e <;> subst e
    · exact k1 hb
    · exact k2 hb
  · rcases e with e | e <;> subst e
    · exact k3 hb
    · exact k4 hb
/-- one more late row -/
theorem GateS.addLate (h : GateS w base g s cap ns D vw ws vl ls) (ho : w'.ownsRow base 31 1 vl' (ls.length + 1) (ls.map RE.rv ++ [e.rv])) (hk : Kept w w' vl vl') (hr : RI w (fun b => base ≤ b ∧ ¬ Mut g s vw vl b) e.rv e.row) : GateS w' base g s cap ns D vw ws vl' (ls ++ [e]) := by
  obtain ⟨k1, k2, k3, k4⟩ := h.wg
  have hF : ∀ b, base ≤ b ∧ ¬ Mut g s vw vl b → b < w.heap.size → w'.heap[b]? = w.heap[b]? ∧ base ≤ b ∧ ¬ Mut g s vw vl' b := fun b hb hlt => by
    have hvl : vl.ownBlock ≠ some b := fun e => hb.2 (.inr (.inr (.inr e)))
    have := hk.block b hlt hvl
    refine ⟨this.1, hb.1, fun hm => ?_⟩
    rcases hm with e | e | e | e
    · exact hb.2 (.inl e)
    · exact hb.2 (.inr (.inl e))
    · exact hb.2 (.inr (.inr (.inl e)))
    · exact this.2 e
  refine ⟨h.gm.keep (hk.block g h.gm.blk.lt k3).1 (hk.block s h.gm.bs.2 k4).1, own_keep h.wown (fun b hb => (hk.block b (h.wown.lt b hb).2 (h.sep b hb)).1), by rw [List.map_append, List.length_append]; exact ho, fun b hb => (hk.block b (h.wown.lt b hb).2 (h.sep b hb)).2, fun d hd => ?_, h.mom⟩
  have : RI w (fun b => base ≤ b ∧ ¬ Mut g s vw vl b) d.rv d.row := by
    rcases hd with hd | hd
    · exact h.rows d (.inl hd)
    · rcases List.mem_append.1 hd with hd | hd
      · exact h.rows d (.inr hd)
      · rw [List.mem_singleton.1 hd]; exact hr
  exact this.keep hk.size hF
/-- one more row that waits -/
theorem GateS.addWait (h : GateS w base g s cap ns D vw ws vl ls) (ho : w'.ownsRow base 31 1 vw' (ws.length + 1) (ws.map RE.rv ++ [e.rv])) (hk : Kept w w' vw vw') (hr : RI w (fun b => base ≤ b ∧ ¬ Mut g s vw vl b) e.rv e.row) (hm : MomRow D.column e.row) :
    GateS (w'.setCell ⟨g, 4, none⟩ vw') base g s cap ns D vw' (ws ++ [e]) vl ls := by
  obtain ⟨k1, k2, k3, k4⟩ := h.wg
  have hsep : ∀ b, vw'.ownBlock = some b → vl.ownBlock ≠ some b := fun b hb hl => by
    have hlt := (h.lown.lt b hl).2
    exact (hk.block b hlt (fun e => h.sep b e hl)).2 hb
  have hF : ∀ b, base ≤ b ∧ ¬ Mut g s vw vl b → b < w.heap.size → (w'.setCell ⟨g, 4, none⟩ vw').heap[b]? = w.heap[b]? ∧ base ≤ b ∧ ¬ Mut g s vw' vl b := fun b hb hlt => by
    have hvw : vw.ownBlock ≠ some b := fun e => hb.2 (.inr (.inr (.inl e)))
    have := hk.block b hlt hvw
    refine ⟨(Below.heap_setCell _ _ _ _ (show b ≠ g from fun e => hb.2 (.inl e))).trans this.1, hb.1, fun hm => ?_⟩
    rcases hm with e | e | e | e
    · exact hb.2 (.inl e)
    · exact hb.2 (.inr (.inl e))
    · exact this.2 e
    · exact hb.2 (.inr (.inr (.inr e)))
  have hblk : Blk w' g 106 [.slice (some ⟨s, 0, none⟩) ns cap, .int .i64 D.column, .int .i64 D.delay, .int .i64 D.mark, vw] := (hk.block g h.gm.blk.lt k1).1.trans h.gm.blk
  refine ⟨⟨hblk.set_ 4 vw', ?_, h.gm.len, h.gm.ne, h.gm.bg, h.gm.ok⟩, ?_, ?_, hsep, fun d hd => ?_, fun d hd => ?_⟩
  · refine ownsRow_setCell_other (own_keep h.gm.src (fun b hb => ?_)) (a := ⟨g, 4, none⟩) (fun e => h.gm.ne (by
      simp only [Value.ownBlock] at e
      injection e with e
      exact e.symm)) _
    simp only [Value.ownBlock] at hb
    injection hb with hb
    subst hb
    exact (hk.block s h.gm.bs.2 k2).1
  · rw [List.map_append, List.length_append]
    exact ownsRow_setCell_other ho (a := ⟨g, 4, none⟩) (hk.block g h.gm.blk.lt k1).2 _
  · exact ownsRow_setCell_other (own_keep h.lown (fun b hb => (hk.block b (h.lown.lt b hb).2 (fun e => h.sep b e hb)).1)) (a := ⟨g, 4, none⟩) k3 _
  · have : RI w (fun b => base ≤ b ∧ ¬ Mut g s vw vl b) d.rv d.row := by
      rcases hd with hd | hd
      · rcases List.mem_append.1 hd with hd | hd
        · exact h.rows d (.inl hd)
        · rw [List.mem_singleton.1 hd]; exact hr
      · exact h.rows d (.inr hd)
    exact this.keep (by simpa using hk.size) hF
  · rcases List.mem_append.1 hd with hd | hd
    · exact h.mom d hd
    · rw [List.mem_singleton.1 hd]; exact hm
end

/-! what Offer computes -/
def atOf (col : Int) (r : List VD) : Int := (at_ r col.toNat).n
/-- the error of a row -/
def rowErr (col : Int) (r : List VD) : Int := if rowSound r = false then 1 else if (r.length : Int) ≤ col ∨ (at_ r col.toNat).k ≠ 5 then 2 else 0
/-- the error of the first row that has one -/
def rowsErr (col : Int) : List (List VD) → Int
  | [] => 0
  | r :: l => if rowErr col r = 0 then rowsErr col l else rowErr col r
/-- what becomes of a gate, of the late rows and of the rows that wait, by a row of source i -/
def offStep (i : Nat) (st : GateD × List (List VD) × List (List VD)) (r : List VD) : GateD × List (List VD) × List (List VD) :=
  if atOf st.1.column r < st.1.mark then (st.1, st.2.1 ++ [r], st.2.2)
  else (advD (setSrc st.1 i (max ((st.1.srcs[i]?).getD (0, false)).1 (atOf st.1.column r - st.1.delay), ((st.1.srcs[i]?).getD (0, false)).2)), st.2.1, st.2.2 ++ [r])
def offAll (i : Nat) (st : GateD × List (List VD) × List (List VD)) (l : List (List VD)) : GateD × List (List VD) × List (List VD) := l.foldl (offStep i) st
/-- the gate when Offer begins to look at rows -/
def offBegin (D : GateD) (i : Nat) : GateD := advD (setSrc D i (((D.srcs[i]?).getD (0, false)).1, false))

theorem rowsErr_drop {col : Int} {l : List (List VD)} : ∀ (k : Nat), k ≤ l.length → (∀ j (h : j < l.length), j < k → rowErr col l[j] = 0) → rowsErr col l = rowsErr col (l.drop k)
  | 0, _, _ => by simp
  | k + 1, hk, h => by
    rw [rowsErr_drop k (by omega) (fun j h1 h2 => h j h1 (by omega)), List.drop_eq_getElem_cons (by omega), rowsErr, if_pos (h k (by omega) (by omega))]
end Go.Proofs.YthejmnmkbldacaaGreatDoor

namespace Go.Proofs.YthejmnmkbldacaaGreatDoor.Tab
open Go Go.RowKit
variable {P : Program} {ops : Array Oper} {Q : Exit → Act → World → Prop} {E : World → World → Prop} {C : Array Bool → World → Prop} {w0 : World} {a0 : Act} {G : Env} {o : Oper} {i : Nat} {rest : List Oper} {K : Env → Prop}
theorem tab_actv {v : Value} {d : Tmp} (hd : o.dst = some d) (hg : guardB ops G a0 o = some true) (hs : ∀ cs b, o.op ≠ .select cs b) (hk : o.op.operands.toList.all G.isKnown = true)
    (hrun : ∀ listed w, listed.size = ops.size → Stage ops i listed → C listed w → E w0 w → ∃ w', (execOp (G.ev a0) o).run P w = .ok (.value v) w' ∧ E w w' ∧ C (listed.setIfInBounds i true) w')
    (h : wpTab P ops Q E C w0 a0 K (i + 1) rest ((d, .is v) :: G)) : wpTab P ops Q E C w0 a0 K i (o :: rest) G :=
  ⟨.is v, stable_is _, fun listed a w hsz hst hc hw hl => by
    rw [if_pos (guard_spec hl hg)]
    refine .inl ?_
    unfold Oper.wp
    obtain ⟨w', hr, hE, hC⟩ := hrun listed w hsz hst hc hw
    rw [execOp_congr (ρ' := G.ev a0) o hs fun x hx => ev_of (List.all_eq_true.1 hk x (Array.mem_toList_iff.2 hx)) (tyd_of hl x hx), hr]
    exact ⟨v, rfl, rfl, hE, hC⟩, by rw [hd]; exact h⟩
end Go.Proofs.YthejmnmkbldacaaGreatDoor.Tab
