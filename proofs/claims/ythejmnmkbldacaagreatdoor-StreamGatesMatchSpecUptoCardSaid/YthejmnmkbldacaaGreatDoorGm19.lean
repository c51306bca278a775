/-
  What is proved: NewGate, Mark, Idle of a gate. Conditions: none.
  What is proved: what utf8.ValidString answers, laid from the library's contract. Conditions: the tables of unicode/utf8 lie as they are laid.
  What is proved: which texts package value takes for sound. Conditions: the tables of unicode/utf8 lie as they are laid.
-/
import Derived.Test.YthejmnmkbldacaaGreatDoorGm18
import Derived.Test.YthejmnmkbldacaaGreatDoorGm15
import Derived.Test.YthejmnmkbldacaaGreatDoorGm13
import Derived.Lib.ValidLaws
import Derived.Shelf.Unicode.ValidAny
import Derived.Laws.RangeString
import Derived.Laws.RangeAny
set_option linter.all false
namespace Go.Proofs.YthejmnmkbldacaaGreatDoor
open Go.RowKit
attribute [local go_sem] Tab.Env.ev Tab.Env.get

theorem infoO : (Tryz.prog.info? 108).map (fun i => (i.zero, i.size, i.bytes)) = some (some (.agg #[.int .i64 0, .bool false]), 2, 16) := by kernel_rfl
theorem underO : Tryz.prog.underlying 104 = some (.slice 108) := by kernel_rfl
theorem Blk.ne_ {w : World} {g g' : Nat} {t t' : TypeId} {cs cs' : List Value} (h : Blk w g t cs) (h' : Blk w g' t' cs') (hne : t ≠ t') : g ≠ g' := by
  rintro rfl
  unfold Blk at h h'
  rw [h] at h'
  injection h' with h'
  injection h' with _ ht
  exact hne ht
theorem own_blk_ne {w : World} {g : Nat} {t : TypeId} {cs : List Value} {base : Nat} {e : TypeId} {size n : Nat} {v : Value} {xs : List Value} (h : w.ownsRow base e size v n xs) (hg : Blk w g t cs) (hne : e ≠ t) : v.ownBlock ≠ some g := by
  rcases h.2 with ⟨rfl, _⟩ | ⟨g', cap, cur, rfl, _, hh, _⟩
  · simp [Value.ownBlock]
  · intro he
    have : g' = g := by simpa [Value.ownBlock] using he
    subst this
    unfold Blk at hg
    rw [hh] at hg
    injection hg with hg
    injection hg with _ ht
    exact hne ht
theorem own_later {w w' : World} {base e size n : Nat} {v : Value} {xs : List Value} (h : w.ownsRow base e size v n xs) (hb : Below w.heap.size w w') : w'.ownsRow base e size v n xs := ownsRow_ext h (Tab.Ext.of_below hb)

def newOk (sources column delay : Int) : Prop := (1 ≤ sources ∧ sources ≤ 20) ∧ 0 ≤ column ∧ (0 ≤ delay ∧ delay ≤ 4294967296)
instance (a b c : Int) : Decidable (newOk a b c) := by unfold newOk; infer_instance
def newD (sources column delay : Int) : GateD := ⟨List.replicate sources.toNat (-62135596800, false), column, delay, -62135596800⟩
def NewPost (sources column delay : Int) (w : World) (e : Ending) (w' : World) : Prop :=
  Below w.heap.size w w' ∧ ((¬ newOk sources column delay ∧ e = .returned (.tuple #[.pointer none, .int .i64 3])) ∨
    (newOk sources column delay ∧ ∃ g s cap, e = .returned (.tuple #[.pointer (some ⟨g, 0, none⟩), .int .i64 0]) ∧ GateM w' w.heap.size g s cap sources.toNat (newD sources column delay) (.slice none 0 0)))
theorem replicate_snoc {α : Type} (n : Nat) (a : α) : List.replicate n a ++ [a] = List.replicate (n + 1) a := by
  rw [List.replicate_succ']

set_option maxHeartbeats 1000000 in
theorem newGate_any (sources column delay : Int) (hc : I64 column) (w : World) :
    Calls Tryz.prog 18 #[.int .i64 sources, .int .i64 column, .int .i64 delay] w (NewPost sources column delay w) := by
  unfold I64 at hc
  cases h1 : decide ((1 : Int) ≤ sources ∧ sources ≤ 20) with
  | false =>
    have HN := Lib.hid (show ¬ newOk sources column delay from fun h => by have := decide_eq_true h.1; rw [h1] at this; cases this)
    go_enter Tryz.func18, Tryz.ntmps18
    go_wp2_with fail
    refine (withinS_any _ _ _ _).mono ?_
    rintro e w1 ⟨rfl, rfl⟩
    rw [h1]
    clear h1
    go_wp2_with fail
    go_ret2
    exact ⟨Below.refl _ _, .inl ⟨HN.out, rfl⟩⟩
  | true =>
    by_cases h2 : column < 0
    · have HN := Lib.hid (show ¬ newOk sources column delay from fun h => by have := h.2.1; omega)
      have hd : decide (column < 0) = true := by simp [h2]
      go_enter Tryz.func18, Tryz.ntmps18
      go_wp2_with fail
      refine (withinS_any _ _ _ _).mono ?_
      rintro e w1 ⟨rfl, rfl⟩
      rw [h1]
      clear h1
      go_wp2_with fail
      go_ret2
      exact ⟨Below.refl _ _, .inl ⟨HN.out, rfl⟩⟩
    · have hd : decide (column < 0) = false := by simp; omega
      cases h3 : decide ((0 : Int) ≤ delay ∧ delay ≤ 4294967296) with
      | false =>
        have HN := Lib.hid (show ¬ newOk sources column delay from fun h => by have := decide_eq_true h.2.2; rw [h3] at this; cases this)
        clear h2
        go_enter Tryz.func18, Tryz.ntmps18
        go_wp2_with fail
        refine (withinS_any _ _ _ _).mono ?_
        rintro e w1 ⟨rfl, rfl⟩
        rw [h1]
        clear h1
        go_wp2_with fail
        refine (withinS_any _ _ _ _).mono ?_
        rintro e w1 ⟨rfl, rfl⟩
        rw [h3]
        clear h3
        go_wp2_with fail
        go_ret2
        exact ⟨Below.refl _ _, .inl ⟨HN.out, rfl⟩⟩
      | true =>
        have g1 : (1 : Int) ≤ sources ∧ sources ≤ 20 := of_decide_eq_true h1
        have g3 : (0 : Int) ≤ delay ∧ delay ≤ 4294967296 := of_decide_eq_true h3
        have HN := Lib.hid (show newOk sources column delay from ⟨g1, by omega, g3⟩)
        have HCOL := Lib.hid (show 0 ≤ column by omega)
        have HH1 := Lib.hid h1
        have HH3 := Lib.hid h3
        obtain ⟨n, hn⟩ : ∃ n : Nat, sources = n := ⟨sources.toNat, by omega⟩
        subst hn
        have B0 := Lib.hid (Blk.new w 106 [.slice none 0 0, .int .i64 column, .int .i64 delay, .int .i64 (-62135596800), .slice none 0 0])
        clear h2 h1 h3
        go_enter Tryz.func18, Tryz.ntmps18
        go_wp2_with fail
        refine (withinS_any _ _ _ _).mono ?_
        rintro e w1 ⟨rfl, rfl⟩
        rw [HH1.out]
        go_wp2_with fail
        refine (withinS_any _ _ _ _).mono ?_
        rintro e w1 ⟨rfl, rfl⟩
        rw [HH3.out]
        go_wp2_with fail
        go_loopw [26] (fun i wr => ∃ (k : Nat) (vs : Value), k ≤ n ∧ i = .int .i64 k ∧ Blk wr w.heap.size 106 [vs, .int .i64 column, .int .i64 delay, .int .i64 (-62135596800), .slice none 0 0] ∧ wr.ownsRow w.heap.size 108 2 vs k (scells (List.replicate k (-62135596800, false))) ∧ Below w.heap.size w wr) (fun i _ => n - (intOf i).toNat)
        case atStart => exact ⟨0, _, Nat.zero_le _, rfl, B0.out, World.ownsRow_nil _ _ _ _, below_new w _⟩
        case round =>
          obtain ⟨k, vs, hk, rfl, hb, hown, hbel⟩ := hrel
          have HB := Lib.hid hb
          have HO := Lib.hid hown
          have q := wcell5 hb
          have hgl := hb.lt
          have hzz : w.heap.size ≤ wr.heap.size := hbel.size
          by_cases hlt : k < n
          · have f := hb.frozen 0
            clear hb hown
            go_wp2_with (at_builtin; refine append_own2 wr rfl (.tmp 32) (.tmp 34) 104 rfl w.heap.size 108 underO infoO rfl (by decide) _ _ _ [.int .i64 (-62135596800), .bool false] rfl HO.out rfl rfl (by simp [Value.oneCell']) (by omega) (by decide) (by omega) ?_)
            intro v' w2 hown' hb2 hkept
            have hbg := (hkept.block w.heap.size hgl (own_blk_ne HO.out HB.out (by decide))).1
            have HB2 := Lib.hid (show Blk w2 w.heap.size 106 [vs, .int .i64 column, .int .i64 delay, .int .i64 (-62135596800), .slice none 0 0] from hbg.trans HB.out)
            have q2 := wcell5 HB2.out
            have f2 := HB2.out.frozen 0
            have HO2 := Lib.hid (show w2.ownsRow w.heap.size 108 2 v' (k + 1) (scells (List.replicate (k + 1) (-62135596800, false))) by rw [← replicate_snoc, scells_append]; exact hown')
            have hvs : v'.oneCell' = true := by
              rcases hown'.2 with ⟨e, _⟩ | ⟨_, _, _, e, _⟩ <;> rw [e] <;> rfl
            have hbel2 := hbel.trans hb2
            have HO3 := Lib.hid (ownsRow_setCell_other HO2.out (a := ⟨w.heap.size, 0, none⟩) (own_blk_ne HO2.out HB2.out (by decide)) v')
            have HB3 := Lib.hid (HB2.out.set_ 0 v')
            have hbel3 := hbel2.setCell (p := ⟨w.heap.size, 0, none⟩) (Nat.le_refl _) v'
            obtain ⟨A9, c9, n9, ev⟩ : ∃ A c n, v' = .slice A n c := by
              rcases hown'.2 with ⟨e, _⟩ | ⟨_, _, _, e, _⟩ <;> exact ⟨_, _, _, e⟩
            subst ev
            clear hown' hb2 hkept hbg q f hbel
            go_wp2_with fail
            go_roundw
            case rel => exact ⟨k + 1, _, hlt, by go_num, HB3.out, HO3.out, hbel3⟩
            case measure => simp [intOf] <;> omega
          · obtain rfl : k = n := by omega
            obtain ⟨s, cap, hv, hb1, hb2, hc1, hc2⟩ := own_form hown (by omega)
            subst hv
            clear hb hown
            go_wp2_with fail
            go_ret2
            refine ⟨hbel, .inr ⟨HN.out, w.heap.size, s, cap, rfl, ?_⟩⟩
            refine ⟨HB.out, by simpa [newD] using HO.out, by simp [newD], ?_, Nat.le_refl _, ?_⟩
            · intro e
              exact own_blk_ne HO.out HB.out (by decide) (by rw [e]; rfl)
            · refine ⟨fun x hx => ?_, by simp [newD]; omega, by simp [newD]; omega, HCOL.out, by show column ≤ _; omega, by show 0 ≤ delay; omega, by show delay ≤ _; omega, by show Mom (-62135596800); unfold Mom; decide⟩
              have := List.eq_of_mem_replicate hx
              rw [this]
              unfold Mom; decide

set_option maxHeartbeats 400000 in
theorem mark_any (w : World) (base g s cap ns : Nat) (D : GateD) (vw : Value) (h : GateM w base g s cap ns D vw) :
    Calls Tryz.prog 26 #[.pointer (some ⟨g, 0, none⟩)] w fun e w' => e = .returned (.int .i64 D.mark) ∧ w = w' := by
  have q := wcell5 h.blk
  clear h
  go_enter Tryz.func26, Tryz.ntmps26
  go_wp2_with fail
  go_ret
  exact ⟨rfl, rfl⟩

theorem list_set_self {α : Type} {l : List α} {i : Nat} {a : α} (h : l[i]? = some a) : l.set i a = l := by
  refine List.ext_getElem? fun j => ?_
  rw [List.getElem?_set]
  by_cases hj : i = j
  · subst hj
    rw [if_pos rfl, if_pos (List.getElem?_eq_some_iff.1 h).1, h]
  · rw [if_neg hj]
theorem scells_set1 {l : List Src} {i : Nat} {m : Int} {b0 : Bool} (h : l[i]? = some (m, b0)) (b : Bool) : (scells l).set (i * 2 + 1) (.bool b) = scells (l.set i (m, b)) := by
  have hd := (scells_get l i).1
  rw [h] at hd
  rw [scells_set, list_set_self (a := Value.int .i64 (m, b).1) (by simpa using hd)]
theorem scells_set0 {l : List Src} {i : Nat} {m0 : Int} {b : Bool} (h : l[i]? = some (m0, b)) (m : Int) : (scells l).set (i * 2) (.int .i64 m) = scells (l.set i (m, b)) := by
  have hd := (scells_get l i).2
  rw [h] at hd
  rw [scells_set]
  refine (list_set_self (a := Value.bool (m, b).2) ?_).symm
  rw [List.getElem?_set_ne (by omega)]
  simpa using hd
/-- the sources, one of them changed -/
def setSrc (D : GateD) (i : Nat) (s : Src) : GateD := { D with srcs := D.srcs.set i s }
theorem setSrc_ok {D : GateD} (h : D.ok) (i : Nat) (s : Src) (hs : Mom s.1) : (setSrc D i s).ok :=
  ⟨fun t ht => (List.mem_or_eq_of_mem_set ht).elim (h.srcs t) (fun e => by rw [e]; exact hs), by show 1 ≤ (D.srcs.set i s).length; rw [List.length_set]; exact h.some_, by show (D.srcs.set i s).length ≤ 20; rw [List.length_set]; exact h.few, h.col, h.coli, h.del, h.delb, h.mkb⟩
theorem GateM.setIdle {w : World} {base g s cap ns : Nat} {D : GateD} {vw : Value} (h : GateM w base g s cap ns D vw) {i : Nat} {m : Int} {b0 : Bool} (hi : D.srcs[i]? = some (m, b0)) (b : Bool) : GateM (w.setCell ⟨s, i * 2 + 1, none⟩ (.bool b)) base g s cap ns (setSrc D i (m, b)) vw :=
  ⟨h.blk.farB h.ne _, by
    have := (h.src.stored (i * 2 + 1) (.bool b)).1
    rw [scells_set1 hi] at this
    exact this, by show (D.srcs.set i _).length = ns; rw [List.length_set]; exact h.len, h.ne, h.bg, setSrc_ok h.ok i _ (h.ok.srcs (m, b0) (List.mem_of_getElem? hi))⟩
theorem GateM.setMark {w : World} {base g s cap ns : Nat} {D : GateD} {vw : Value} (h : GateM w base g s cap ns D vw) {i : Nat} {m0 : Int} {b : Bool} (hi : D.srcs[i]? = some (m0, b)) (m : Int) (hm : Mom m) : GateM (w.setCell ⟨s, i * 2, none⟩ (.int .i64 m)) base g s cap ns (setSrc D i (m, b)) vw :=
  ⟨h.blk.farB h.ne _, by
    have := (h.src.stored (i * 2) (.int .i64 m)).1
    rw [scells_set0 hi] at this
    exact this, by show (D.srcs.set i _).length = ns; rw [List.length_set]; exact h.len, h.ne, h.bg, setSrc_ok h.ok i _ hm⟩
theorem GateM.caps {w : World} {base g s cap ns : Nat} {D : GateD} {vw : Value} (h : GateM w base g s cap ns D vw) : ns ≤ cap ∧ cap ≤ 9223372036854775807 ∧ 1 ≤ ns ∧ ns ≤ 20 := by
  obtain ⟨_, A, c, e, h1, h2, _⟩ := SL.of_own h.src
  injection e with _ _ e3
  subst e3
  have h3 := h.ok.some_
  have h4 := h.ok.few
  rw [h.len] at h3 h4
  exact ⟨h1, h2, h3, h4⟩
/-- what Idle makes of a gate -/
def idleD (D : GateD) (i : Nat) : GateD := match D.srcs[i]? with
  | some s => advD (setSrc D i (s.1, true))
  | none => D
def IdlePost (base g s cap ns : Nat) (D : GateD) (vw : Value) (source : Int) (w : World) (e : Ending) (w' : World) : Prop :=
  Tab.Ext (fun b => b = g ∨ b = s) w w' ∧ ((¬ (0 ≤ source ∧ source ≤ (ns : Int) - 1) ∧ e = .returned (.int .i64 3) ∧ GateM w' base g s cap ns D vw) ∨
    ((0 ≤ source ∧ source ≤ (ns : Int) - 1) ∧ e = .returned (.int .i64 0) ∧ GateM w' base g s cap ns (idleD D source.toNat) vw))
set_option maxHeartbeats 400000 in
theorem idle_any (w : World) (base g s cap ns : Nat) (D : GateD) (vw : Value) (h : GateM w base g s cap ns D vw) (hvw : vw.oneCell' = true) (source : Int) :
    Calls Tryz.prog 22 #[.pointer (some ⟨g, 0, none⟩), .int .i64 source] w (IdlePost base g s cap ns D vw source w) := by
  have HG := Lib.hid h
  have q := wcell5 h.blk
  obtain ⟨k1, k2, k3, k4⟩ := h.caps
  cases hd : decide ((0 : Int) ≤ source ∧ source ≤ (ns : Int) - 1) with
  | false =>
    have HN := Lib.hid (of_decide_eq_false hd)
    have HD := Lib.hid hd
    clear h hd
    go_enter Tryz.func22, Tryz.ntmps22
    go_wp2_with fail
    refine (withinS_any _ _ _ _).mono ?_
    rintro e w1 ⟨rfl, rfl⟩
    rw [HD.out]
    go_wp2_with fail
    go_ret
    exact ⟨Tab.Ext.refl _ _, .inl ⟨HN.out, rfl, HG.out⟩⟩
  | true =>
    have hin : (0 : Int) ≤ source ∧ source ≤ (ns : Int) - 1 := of_decide_eq_true hd
    have HN := Lib.hid hin
    have HD := Lib.hid hd
    obtain ⟨i, rfl⟩ : ∃ i : Nat, source = i := ⟨source.toNat, by omega⟩
    have hi : i < ns := by omega
    obtain ⟨m, b0, hg, c1, c2⟩ := own_cellsS h.src h.len hi
    have HS := Lib.hid (h.setIdle hg true)
    have fz := h.src.frozenAt (i * 2 + 1)
    have HE := Lib.hid (show idleD D i = advD (setSrc D i (m, true)) by unfold idleD; rw [hg])
    have HX := Lib.hid ((Tab.Ext.refl (fun b => b = g ∨ b = s) w).setCell (p := ⟨s, i * 2 + 1, none⟩) (.inl (.inr rfl)) (.bool true))
    clear h hd hg
    go_enter Tryz.func22, Tryz.ntmps22
    go_wp2_with fail
    refine (withinS_any _ _ _ _).mono ?_
    rintro e w1 ⟨rfl, rfl⟩
    rw [HD.out]
    go_wp2_with fail
    refine (advance_any _ base g s cap ns _ vw HS.out hvw).mono ?_
    rintro e w2 ⟨rfl, o1, o2⟩
    have O := Lib.hid (And.intro o1 (HX.out.trans (o2.mono fun b _ hb => .inl hb)))
    clear o1 o2 HX
    go_wp2_with fail
    go_ret
    exact ⟨O.out.2, .inr ⟨HN.out, rfl, by rw [Int.toNat_natCast, HE.out]; exact O.out.1⟩⟩
end Go.Proofs.YthejmnmkbldacaaGreatDoor

namespace Go.Proofs.YthejmnmkbldacaaGreatDoor
open Go.RowKit Go.Shelf
def Tryz.laysValid_ren : Go.Shelf.Ren := ⟨fun | 196 => 191 | 259 => 224 | n => n, fun | 9 => 9 | 4 => 4 | 3 => 3 | 5 => 5 | 12 => 12 | 119 => 252 | 0 => 0 | 46 => 189 | 139 => 255 | 138 => 254 | 53 => 211 | n => n, fun | 3 => 0 | 4 => 1 | n => n⟩
theorem Tryz.laysValid : Go.Proofs.Lays.n196 Tryz.prog Tryz.laysValid_ren := {
  mixed := by kernel_rfl
  f196 := Tryz.func191.trans (congrArg some (by kernel_rfl))
  f259 := Tryz.func224.trans (congrArg some (by kernel_rfl))
  t0 := Tryz.underlying0
  a0 := Tryz.isAgg0
  z0 := Tryz.sizeOf0
  v0 := Tryz.zeroValue0
  t3 := Tryz.underlying3
  a3 := Tryz.isAgg3
  z3 := Tryz.sizeOf3
  v3 := Tryz.zeroValue3
  t4 := Tryz.underlying4
  a4 := Tryz.isAgg4
  z4 := Tryz.sizeOf4
  v4 := Tryz.zeroValue4
  t5 := Tryz.underlying5
  a5 := Tryz.isAgg5
  z5 := Tryz.sizeOf5
  v5 := Tryz.zeroValue5
  t9 := Tryz.underlying9
  a9 := Tryz.isAgg9
  z9 := Tryz.sizeOf9
  v9 := Tryz.zeroValue9
  t12 := Tryz.underlying12
  a12 := Tryz.isAgg12
  z12 := Tryz.sizeOf12
  v12 := Tryz.zeroValue12
  t46 := Tryz.underlying189
  a46 := Tryz.isAgg189
  z46 := Tryz.sizeOf189
  v46 := Tryz.zeroValue189
  t53 := Tryz.underlying211
  a53 := Tryz.isAgg211
  z53 := Tryz.sizeOf211
  v53 := Tryz.zeroValue211
  t119 := Tryz.underlying252
  a119 := Tryz.isAgg252
  z119 := Tryz.sizeOf252
  t138 := Tryz.underlying254
  a138 := Tryz.isAgg254
  z138 := Tryz.sizeOf254
  v138 := Tryz.zeroValue254
  t139 := Tryz.underlying255
  a139 := Tryz.isAgg255
  z139 := Tryz.sizeOf255
  v139 := Tryz.zeroValue255
  g3 := by kernel_rfl
  g4 := by kernel_rfl }

theorem validString_lies (s : ByteArray) (w : World) (hs : s.size ≤ 9223372036854775807) (hT : Lib.Utf8Tabs 0 1 w) :
    Calls Tryz.prog 191 #[.string s] w fun e w' => e = .returned (.bool (Lib.validD s.data.toList)) ∧ Below w.heap.size w w' :=
  Any.utf8_ValidString Tryz.laysValid s w hs hT
end Go.Proofs.YthejmnmkbldacaaGreatDoor

namespace Go.Proofs.YthejmnmkbldacaaGreatDoor
open Go.RowKit
attribute [local go_sem] Tab.Env.ev Tab.Env.get

/-- the tables of unicode/utf8 lie in memory -/
def Tabs (w : World) : Prop := Lib.Utf8Tabs 0 1 w
theorem Tabs.lt {w : World} (h : Tabs w) : 0 < w.heap.size ∧ 1 < w.heap.size := by
  have h1 := h.1 0 (by omega)
  have h2 := (h.2 0 (by omega)).1
  have f : ∀ (b o : Nat) (v : Value), w.cell? ⟨b, o, none⟩ = some v → b < w.heap.size := fun b o v hc => by
    rcases Nat.lt_or_ge b w.heap.size with h' | h'
    · exact h'
    · simp [World.cell?, Array.getElem?_eq_none h'] at hc
  exact ⟨f _ _ _ h1, f _ _ _ h2⟩
theorem Tabs.ext {M : Nat → Prop} {w w' : World} (h : Tabs w) (hb : Tab.Ext M w w') (h1 : ¬ M 0) (h2 : ¬ M 1) : Tabs w' :=
  ⟨fun c hc => (hb.cell (p := ⟨0, c, none⟩) h.lt.1 h1).trans (h.1 c hc), fun i hi => ⟨(hb.cell (p := ⟨1, 2 * i, none⟩) h.lt.2 h2).trans (h.2 i hi).1, (hb.cell (p := ⟨1, 2 * i + 1, none⟩) h.lt.2 h2).trans (h.2 i hi).2⟩⟩
theorem Tabs.later {w w' : World} (h : Tabs w) (hb : Below w.heap.size w w') : Tabs w' := h.ext (M := fun _ => False) (Tab.Ext.of_below hb) id id
/-- a block of whole numbers is no table -/
theorem Tabs.ne_int {w : World} (h : Tabs w) {g : Nat} {t : TypeId} {n : Int} {cs : List Value} (hb : Blk w g t (.int .i64 n :: cs)) : g ≠ 0 ∧ g ≠ 1 := by
  have hc := hb.cell 0
  simp only [List.getElem?_cons_zero] at hc
  refine ⟨fun e => ?_, fun e => ?_⟩
  · subst e
    have := (h.1 0 (by omega)).symm.trans hc
    simp at this
  · subst e
    have := ((h.2 0 (by omega)).1).symm.trans hc
    simp at this

/-- a rune from place pos on is a control character -/
def ctl (s : ByteArray) : Nat → Nat → Bool
  | 0, _ => false
  | b + 1, pos => if pos < s.size then (if (Utf8.decode s pos).1 < 32 ∨ (Utf8.decode s pos).1 = 127 then true else ctl s b (pos + (Utf8.decode s pos).2)) else false
theorem ctl_end (s : ByteArray) (b pos : Nat) (h : ¬ pos < s.size) : ctl s b pos = false := by
  cases b with
  | zero => rfl
  | succ b => simp [ctl, h]
theorem width_pos (s : ByteArray) (pos : Nat) (h : pos < s.size) : 1 ≤ (Utf8.decode s pos).2 := by
  by_cases ha : (s[pos]'h).toNat < 128
  · rw [decode_ascii s pos h ha]
    exact Nat.le_refl _
  · exact (decode_high s pos h (by omega)).2
/-- the text of a sound Text -/
def textOk (s : ByteArray) : Bool := decide (s.size ≤ 256) && (Lib.validD s.data.toList && !ctl s s.size 0)

set_option maxHeartbeats 1000000 in
theorem text_any (s : ByteArray) (hs : s.size ≤ maxLen) (w : World) (hT : Tabs w) :
    Calls Tryz.prog 225 #[.string s] w fun e w' => e = .returned (.bool (textOk s)) ∧ Below w.heap.size w w' := by
  unfold maxLen at hs
  by_cases h256 : s.size ≤ 256
  · have hd : decide ((256 : Int) < (s.size : Int)) = false := by simp; omega
    have hd2 : ¬ ((256 : Int) < (s.size : Int)) := by omega
    have HV := Lib.hid (validString_lies s w (by omega) hT)
    have HB := Lib.hid (show textOk s = (Lib.validD s.data.toList && !ctl s s.size 0) by unfold textOk; rw [decide_eq_true h256, Bool.true_and])
    clear hT
    rw [HB.out]
    generalize Lib.validD s.data.toList = V at *
    clear HB
    go_enter Tryz.func225, Tryz.ntmps225
    go_wp2_with fail
    refine HV.out.mono ?_
    rintro e w1 ⟨rfl, hb⟩
    clear HV
    cases V with
    | false =>
      go_wp2_with fail
      go_ret
      exact ⟨rfl, hb⟩
    | true =>
      go_wp2_with fail
      have HB0 := Lib.hid hb
      have hz := hb.size
      go_loopw [2, 4] (fun _ _ w' => ∃ (pos b : Nat), w' = w1.iter s pos ∧ Hid (ctl s b pos = ctl s s.size 0) ∧ s.size ≤ pos + b) (fun _ _ w' => s.size - w'.iterPos w1.heap.size)
      case atStart => exact ⟨0, s.size, rfl, Lib.hid rfl, by omega⟩
      case round =>
        obtain ⟨pos, b, rfl, HC, hbb⟩ := hrel
        by_cases hp : pos < s.size
        · have hnx : ∀ ty, (Instr.next (.pointer (some ⟨w1.heap.size, 0, none⟩)) true ty).run Tryz.prog (w1.iter s pos) = _ := fun ty => run_next_any w1 s pos ty hp
          obtain ⟨b, rfl⟩ : ∃ b', b = b' + 1 := ⟨b - 1, by omega⟩
          have hwd := width_pos s pos hp
          have HS := Lib.hid (show ctl s (b + 1) pos = if (Utf8.decode s pos).1 < 32 ∨ (Utf8.decode s pos).1 = 127 then true else ctl s b (pos + (Utf8.decode s pos).2) by rw [ctl, if_pos hp])
          generalize hr : (Utf8.decode s pos).1 = r at *
          generalize hwi : (Utf8.decode s pos).2 = wd at *
          clear hr hwi
          by_cases h1 : r < 32
          · have hd1 : decide ((r : Int) < 32) = true := by simp; omega
            have HF := Lib.hid (show ctl s s.size 0 = true by rw [← HC.out, HS.out, if_pos (.inl h1)])
            clear h1
            go_wp2_with fail
            go_ret
            exact ⟨ret_bool (by rw [HF.out]; rfl), HB0.out.trans ((below_new w1 _).mono hz)⟩
          · have hd1 : decide ((r : Int) < 32) = false := by simp; omega
            by_cases h2 : r = 127
            · have hd2 : ((r : Int) == 127) = true := by simp; omega
              have HF := Lib.hid (show ctl s s.size 0 = true by rw [← HC.out, HS.out, if_pos (.inr h2)])
              clear h1 h2
              go_wp2_with fail
              go_ret
              exact ⟨ret_bool (by rw [HF.out]; rfl), HB0.out.trans ((below_new w1 _).mono hz)⟩
            · have hd2 : ((r : Int) == 127) = false := by simp; omega
              have HF := Lib.hid (show ctl s b (pos + wd) = ctl s s.size 0 by rw [← HC.out, HS.out, if_neg (fun h => h.elim h1 h2)])
              clear h1 h2
              go_wp2_with fail
              go_roundw
              case rel => exact ⟨pos + wd, b, rfl, HF, by omega⟩
              case measure => simp; omega
        · have hnx : ∀ ty, (Instr.next (.pointer (some ⟨w1.heap.size, 0, none⟩)) true ty).run Tryz.prog (w1.iter s pos) = _ := fun ty => run_next_end w1 s pos ty hp
          have HF := Lib.hid (show ctl s s.size 0 = false by rw [← HC.out, ctl_end s b pos hp])
          go_wp2_with fail
          go_ret
          exact ⟨ret_bool (by rw [HF.out]; rfl), HB0.out.trans ((below_new w1 _).mono hz)⟩
  · have hd : decide ((256 : Int) < (s.size : Int)) = true := by simp; omega
    have HB := Lib.hid (show textOk s = false by unfold textOk; rw [decide_eq_false h256, Bool.false_and])
    clear h256 hT
    rw [HB.out]
    go_enter Tryz.func225, Tryz.ntmps225
    go_wp2_with fail
    go_ret
    exact ⟨rfl, Below.refl _ _⟩
end Go.Proofs.YthejmnmkbldacaaGreatDoor
