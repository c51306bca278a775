/-
  What is proved: how a gate lies in memory; how its mark advances. Conditions: none.
  What is proved: NewGate, Mark, Idle of a gate. Conditions: none.
  What is proved: a gate with its rows in memory, and what changes of it leave alone. Conditions: none.
  What is proved: one more rule for regions that draw: an operation that changes the world and hands a value on. Conditions: none.
-/
import Derived.Test.YthejmnmkbldacaaGreatDoorAp17
import Derived.Test.YthejmnmkbldacaaGreatDoorAp15
import Derived.Test.YthejmnmkbldacaaGreatDoorAp18
import Derived.Test.YthejmnmkbldacaaGreatDoorAp02
set_option linter.all false
namespace Go.Proofs.YthejmnmkbldacaaGreatDoor
open Go.RowKit
attribute [local go_sem] Tab.Env.ev Tab.Env.get

/-- a source: its mark, and whether it is idle -/
abbrev Src := Int × Bool
def scells (l : List Src) : List Value := l.flatMap fun s => [.int .i64 s.1, .bool s.2]
theorem scells_length (l : List Src) : (scells l).length = l.length * 2 := by
  induction l with
  | nil => rfl
  | cons d l ih =>
    have : scells (d :: l) = [.int .i64 d.1, .bool d.2] ++ scells l := rfl
    rw [this]
    simp [ih]
    omega
theorem scells_append (l r : List Src) : scells (l ++ r) = scells l ++ scells r := List.flatMap_append
theorem scells_get (l : List Src) (i : Nat) : (scells l)[i * 2]? = (l[i]?).map (fun s => .int .i64 s.1) ∧ (scells l)[i * 2 + 1]? = (l[i]?).map fun s => .bool s.2 := by
  induction l generalizing i with
  | nil => simp [scells]
  | cons d l ih =>
    have e : scells (d :: l) = .int .i64 d.1 :: .bool d.2 :: scells l := rfl
    cases i with
    | zero => rw [e]; simp
    | succ i =>
      rw [e, show (i + 1) * 2 = (i * 2) + 1 + 1 by omega]
      simpa using ih i
theorem scells_set (l : List Src) (i : Nat) (s : Src) : scells (l.set i s) = ((scells l).set (i * 2) (.int .i64 s.1)).set (i * 2 + 1) (.bool s.2) := by
  induction l generalizing i with
  | nil => simp [scells]
  | cons d l ih =>
    have e : ∀ d l, scells (d :: l) = .int .i64 d.1 :: .bool d.2 :: scells l := fun _ _ => rfl
    cases i with
    | zero => rw [List.set_cons_zero, e, e]; simp
    | succ i =>
      rw [List.set_cons_succ, e, e, ih i, show (i + 1) * 2 = (i * 2) + 1 + 1 by omega]
      simp

/-- a gate, as data -/
structure GateD where
  srcs : List Src
  column : Int
  delay : Int
  mark : Int
/-- the least mark of the sources that are not idle; whether there is one -/
def leastOf : List Src → Int × Bool → Int × Bool
  | [], a => a
  | s :: l, a => leastOf l (if s.2 then a else (min a.1 s.1, true))
def advD (D : GateD) : GateD :=
  let r := leastOf D.srcs (253402300799, false)
  if r.2 then { D with mark := max D.mark r.1 } else D

/-- a moment -/
def Mom (n : Int) : Prop := -62135596800 ≤ n ∧ n ≤ 253402300799
structure GateD.ok (D : GateD) : Prop where
  srcs : ∀ s, s ∈ D.srcs → Mom s.1
  some_ : 1 ≤ D.srcs.length
  few : D.srcs.length ≤ 20
  col : 0 ≤ D.column
  coli : D.column ≤ 9223372036854775807
  del : 0 ≤ D.delay
  delb : D.delay ≤ 4294967296
  mkb : Mom D.mark
theorem leastOf_mom : ∀ (l : List Src) (a : Int × Bool), (∀ s, s ∈ l → Mom s.1) → Mom a.1 → Mom (leastOf l a).1
  | [], a, _, h => h
  | s :: l, a, hs, h => by
    rw [leastOf]
    refine leastOf_mom l _ (fun t ht => hs t (List.mem_cons_of_mem _ ht)) ?_
    have := hs s (by simp)
    split
    · exact h
    · unfold Mom at *
      simp only
      omega
theorem advD_ok {D : GateD} (h : D.ok) : (advD D).ok := by
  have hm := leastOf_mom D.srcs (253402300799, false) h.srcs (by unfold Mom; decide)
  unfold advD
  simp only
  split
  · exact { h with mkb := by have := h.mkb; unfold Mom at *; simp only; omega }
  · exact h
theorem advD_srcs (D : GateD) : (advD D).srcs = D.srcs := by unfold advD; simp only; split <;> rfl
theorem advD_column (D : GateD) : (advD D).column = D.column := by unfold advD; simp only; split <;> rfl
theorem advD_delay (D : GateD) : (advD D).delay = D.delay := by unfold advD; simp only; split <;> rfl
theorem advD_mark (D : GateD) : D.mark ≤ (advD D).mark := by
  unfold advD
  simp only
  split
  · show D.mark ≤ max D.mark _
    omega
  · exact Int.le_refl _

/-- a gate in memory: block g the gate, block s its sources -/
structure GateM (w : World) (base g s cap ns : Nat) (D : GateD) (vw : Value) : Prop where
  blk : Blk w g 106 [.slice (some ⟨s, 0, none⟩) ns cap, .int .i64 D.column, .int .i64 D.delay, .int .i64 D.mark, vw]
  src : w.ownsRow base 108 2 (.slice (some ⟨s, 0, none⟩) ns cap) ns (scells D.srcs)
  len : D.srcs.length = ns
  ne : g ≠ s
  bg : base ≤ g
  ok : D.ok
theorem GateM.bs {w : World} {base g s cap ns : Nat} {D : GateD} {vw : Value} (h : GateM w base g s cap ns D vw) : base ≤ s ∧ s < w.heap.size := h.src.lt s rfl
theorem GateM.ext {M : Nat → Prop} {w w' : World} {base g s cap ns : Nat} {D : GateD} {vw : Value} (h : GateM w base g s cap ns D vw) (he : Tab.Ext M w w') (hg : ¬ M g) (hs : ¬ M s) : GateM w' base g s cap ns D vw := by
  refine ⟨h.blk.ext he hg, ⟨h.src.1, h.src.2.elim .inl fun ⟨g', cap', cur, h1, h2, h3, h4⟩ => .inr ⟨g', cap', cur, h1, h2, ?_, h4⟩⟩, h.len, h.ne, h.bg, h.ok⟩
  injection h1 with e1
  injection e1 with e1
  injection e1 with e1
  subst e1
  rw [he.block _ (lt_of_block h3) hs]
  exact h3
theorem own_cellsS {w : World} {base s n cap : Nat} {l : List Src} (h : w.ownsRow base 108 2 (.slice (some ⟨s, 0, none⟩) n cap) n (scells l)) (hl : l.length = n) {i : Nat} (hi : i < n) :
    ∃ m b, l[i]? = some (m, b) ∧ w.cell? ⟨s, i * 2, none⟩ = some (.int .i64 m) ∧ w.cell? ⟨s, i * 2 + 1, none⟩ = some (.bool b) := by
  have hd := scells_get l i
  have hg : l[i]? = some l[i] := List.getElem?_eq_getElem (by omega)
  rw [hg] at hd
  exact ⟨(l[i]).1, (l[i]).2, hg, (h.cellAt (i * 2) (by omega)).trans hd.1, (h.cellAt (i * 2 + 1) (by omega)).trans hd.2⟩
theorem leastOf_take {l : List Src} {a : Int × Bool} {k : Nat} {s : Src} (h : l[k]? = some s) : leastOf (l.take (k + 1)) a = (if s.2 then leastOf (l.take k) a else (min (leastOf (l.take k) a).1 s.1, true)) := by
  induction l generalizing a k with
  | nil => simp at h
  | cons t l ih =>
    cases k with
    | zero =>
      simp at h
      subst h
      simp only [List.take_succ_cons, List.take_zero, leastOf]
    | succ k =>
      simp only [List.take_succ_cons, leastOf]
      exact ih (by simpa using h)

set_option maxHeartbeats 1000000 in
theorem advance_any (w : World) (base g s cap ns : Nat) (D : GateD) (vw : Value) (h : GateM w base g s cap ns D vw) (hvw : vw.oneCell' = true) :
    Calls Tryz.prog 72 #[.pointer (some ⟨g, 0, none⟩)] w fun e w' => e = .returned (.tuple #[]) ∧ GateM w' base g s cap ns (advD D) vw ∧ Tab.Ext (fun b => b = g) w w' := by
  have HG := Lib.hid h
  have hns := h.ok.few
  rw [h.len] at hns
  have hgl := h.blk.lt
  have hsl := h.bs
  have q := wcell5 h.blk
  have f := h.blk.frozen 3
  have hcap : ns ≤ cap ∧ cap ≤ 9223372036854775807 := by
    have hc := SL.of_own h.src
    obtain ⟨_, A, c, e, h1, h2, _⟩ := hc
    injection e with _ _ e3
    subst e3
    exact ⟨h1, h2⟩
  have hmk := h.ok.mkb
  unfold Mom at hmk
  clear h
  go_enter Tryz.func72, Tryz.ntmps72
  go_wp2_with fail
  go_loopw [2, 3, 5, 11] (fun a b _ i wr => ∃ (k : Nat) (m : Int) (bb : Bool), k ≤ ns ∧ i = .int .i64 k ∧ a = .int .i64 m ∧ b = .bool bb ∧ Hid (leastOf (D.srcs.take k) (253402300799, false) = (m, bb)) ∧ Below w.heap.size w wr) (fun _ _ _ i _ => ns - (intOf i).toNat)
  case atStart => exact ⟨0, 253402300799, false, Nat.zero_le _, rfl, rfl, rfl, Lib.hid (by simp [leastOf]), Below.refl _ _⟩
  case round =>
    obtain ⟨k, m, bb, hk, rfl, rfl, rfl, HL, hbel⟩ := hrel
    have q' := wcell5 (HG.out.blk.below hbel hgl)
    have f' := (HG.out.blk.below hbel hgl).frozen 3
    by_cases hlt : k < ns
    · obtain ⟨m1, b1, hg1, c1, c2⟩ := own_cellsS HG.out.src HG.out.len hlt
      have c1' : wr.cell? ⟨s, k * 2, none⟩ = some (.int .i64 m1) := (hbel.cell (p := ⟨s, k * 2, none⟩) hsl.2).trans c1
      have c2' : wr.cell? ⟨s, k * 2 + 1, none⟩ = some (.bool b1) := (hbel.cell (p := ⟨s, k * 2 + 1, none⟩) hsl.2).trans c2
      have HN := Lib.hid (leastOf_take (a := (253402300799, false)) hg1)
      have hb2 := hbel.trans ((below_new wr (.cells #[.int .i64 m1, .bool b1] 108)).mono hbel.size)
      have hslw : s < wr.heap.size := by have := hbel.size; omega
      clear c1 c2 q hg1
      cases b1 with
      | true =>
        have HN2 := Lib.hid (show leastOf (D.srcs.take (k + 1)) (253402300799, false) = (m, bb) by rw [HN.out]; simp only [if_true]; exact HL.out)
        go_wp2_with fail
        go_roundw
        case rel => exact ⟨k + 1, m, bb, hlt, by go_num, rfl, rfl, HN2, hb2⟩
        case measure => simp [intOf] <;> omega
      | false =>
        have HN2 := Lib.hid (show leastOf (D.srcs.take (k + 1)) (253402300799, false) = (min m m1, true) by rw [HN.out, HL.out]; simp)
        have HN3 := Lib.hid (show leastOf (D.srcs.take (k + 1)) (253402300799, false) = (if m1 < m then m1 else m, true) by
          rw [HN2.out]
          congr 1
          split <;> omega)
        go_wp2_with fail
        go_roundw
        case rel => exact ⟨k + 1, _, true, hlt, by go_num, rfl, rfl, (by first | exact HN3 | exact HN2), hb2⟩
        case measure => simp [intOf] <;> omega
    · obtain rfl : k = ns := by omega
      have HL2 := Lib.hid (show leastOf D.srcs (253402300799, false) = (m, bb) by have := HL.out; rw [← HG.out.len, List.take_length] at this; exact this)
      have HGW := Lib.hid (HG.out.ext (M := fun _ => False) (Tab.Ext.of_below hbel) id id)
      have set_ : ∀ x : Int, Mom x → GateM (wr.setCell ⟨g, 3, none⟩ (.int .i64 x)) base g s cap k { D with mark := x } vw := fun x hx =>
        ⟨HGW.out.blk.set_ 3 _, ownsRow_setCell_other HGW.out.src (a := ⟨g, 3, none⟩) (fun e => HGW.out.ne (by
          simp only [Value.ownBlock] at e
          injection e with e
          exact e.symm)) _, HGW.out.len, HGW.out.ne, HGW.out.bg, { HGW.out.ok with mkb := hx }⟩
      have HSET := Lib.hid set_
      have hx : ∀ x : Int, Tab.Ext (fun b => b = g) w (wr.setCell ⟨g, 3, none⟩ (.int .i64 x)) := fun x => (Tab.Ext.of_below (M := fun b => b = g) hbel).setCell (p := ⟨g, 3, none⟩) (.inl rfl) (.int .i64 x)
      have HX := Lib.hid hx
      have hmm := leastOf_mom D.srcs (253402300799, false) HG.out.ok.srcs (by unfold Mom; decide)
      rw [HL2.out] at hmm
      have HMM := Lib.hid hmm
      clear set_ hx hmm HL
      cases bb with
      | true =>
        by_cases hc : D.mark < m
        · have HE := Lib.hid (show advD D = { D with mark := m } by
            unfold advD
            rw [HL2.out]
            simp only [if_true]
            congr 1
            omega)
          have hmx : max D.mark m = m := by omega
          go_wp2_with fail
          exact bodyPost_end (results_none rfl _ _ _) rfl ⟨rfl, by rw [HE.out]; exact HSET.out m HMM.out, HX.out m⟩
        · have HE := Lib.hid (show advD D = { D with mark := D.mark } by
            unfold advD
            rw [HL2.out]
            simp only [if_true]
            congr 1
            omega)
          have hmx : max D.mark m = D.mark := by omega
          go_wp2_with fail
          exact bodyPost_end (results_none rfl _ _ _) rfl ⟨rfl, by rw [HE.out]; exact HSET.out D.mark HG.out.ok.mkb, HX.out D.mark⟩
      | false =>
        have HE := Lib.hid (show advD D = D by
          unfold advD
          rw [HL2.out]
          simp)
        go_wp2_with fail
        exact bodyPost_end (results_none rfl _ _ _) rfl ⟨rfl, by rw [HE.out]; exact HGW.out, Tab.Ext.of_below hbel⟩
end Go.Proofs.YthejmnmkbldacaaGreatDoor

namespace Go.Proofs.YthejmnmkbldacaaGreatDoor
open Go.RowKit
attribute [local go_sem] Tab.Env.ev Tab.Env.get

theorem infoO : (Tryz.prog.info? 108).map (fun i => (i.zero, i.size, i.bytes)) = some (some (.agg #[.int .i64 0, .bool false]), 2, 16) := by kernel_rfl
theorem underO : Tryz.prog.underlying 104 = some (.slice 108) := by kernel_rfl
theorem Blk.ne_ {w : World} {g g' : Nat} {t t' : TypeId} {cs cs' : List Value} (h : Blk w g t cs) (h' : Blk w g' t' cs') (hne : t ≠ t') : g ≠ g' := by
  rintro rfl
  unfold Blk at h h'
  rw [h] at h'
  injection h' with h'
  injection h' with _ ht
  exact hne ht
theorem own_blk_ne {w : World} {g : Nat} {t : TypeId} {cs : List Value} {base : Nat} {e : TypeId} {size n : Nat} {v : Value} {xs : List Value} (h : w.ownsRow base e size v n xs) (hg : Blk w g t cs) (hne : e ≠ t) : v.ownBlock ≠ some g := by
  rcases h.2 with ⟨rfl, _⟩ | ⟨g', cap, cur, rfl, _, hh, _⟩
  · simp [Value.ownBlock]
  · intro he
    have : g' = g := by simpa [Value.ownBlock] using he
    subst this
    unfold Blk at hg
    rw [hh] at hg
    injection hg with hg
    injection hg with _ ht
    exact hne ht
theorem own_later {w w' : World} {base e size n : Nat} {v : Value} {xs : List Value} (h : w.ownsRow base e size v n xs) (hb : Below w.heap.size w w') : w'.ownsRow base e size v n xs := ownsRow_ext h (Tab.Ext.of_below hb)

def newOk (sources column delay : Int) : Prop := (1 ≤ sources ∧ sources ≤ 20) ∧ 0 ≤ column ∧ (0 ≤ delay ∧ delay ≤ 4294967296)
instance (a b c : Int) : Decidable (newOk a b c) := by unfold newOk; infer_instance
def newD (sources column delay : Int) : GateD := ⟨List.replicate sources.toNat (-62135596800, false), column, delay, -62135596800⟩
def NewPost (sources column delay : Int) (w : World) (e : Ending) (w' : World) : Prop :=
  Below w.heap.size w w' ∧ ((¬ newOk sources column delay ∧ e = .returned (.tuple #[.pointer none, .int .i64 3])) ∨
    (newOk sources column delay ∧ ∃ g s cap, e = .returned (.tuple #[.pointer (some ⟨g, 0, none⟩), .int .i64 0]) ∧ GateM w' w.heap.size g s cap sources.toNat (newD sources column delay) (.slice none 0 0)))
theorem replicate_snoc {α : Type} (n : Nat) (a : α) : List.replicate n a ++ [a] = List.replicate (n + 1) a := by
  rw [List.replicate_succ']

set_option maxHeartbeats 1000000 in
theorem newGate_any (sources column delay : Int) (hc : I64 column) (w : World) :
    Calls Tryz.prog 18 #[.int .i64 sources, .int .i64 column, .int .i64 delay] w (NewPost sources column delay w) := by
  unfold I64 at hc
  cases h1 : decide ((1 : Int) ≤ sources ∧ sources ≤ 20) with
  | false =>
    have HN := Lib.hid (show ¬ newOk sources column delay from fun h => by have := decide_eq_true h.1; rw [h1] at this; cases this)
    go_enter Tryz.func18, Tryz.ntmps18
    go_wp2_with fail
    refine (withinS_any _ _ _ _).mono ?_
    rintro e w1 ⟨rfl, rfl⟩
    rw [h1]
    clear h1
    go_wp2_with fail
    go_ret2
    exact ⟨Below.refl _ _, .inl ⟨HN.out, rfl⟩⟩
  | true =>
    by_cases h2 : column < 0
    · have HN := Lib.hid (show ¬ newOk sources column delay from fun h => by have := h.2.1; omega)
      have hd : decide (column < 0) = true := by simp [h2]
      go_enter Tryz.func18, Tryz.ntmps18
      go_wp2_with fail
      refine (withinS_any _ _ _ _).mono ?_
      rintro e w1 ⟨rfl, rfl⟩
      rw [h1]
      clear h1
      go_wp2_with fail
      go_ret2
      exact ⟨Below.refl _ _, .inl ⟨HN.out, rfl⟩⟩
    · have hd : decide (column < 0) = false := by simp; omega
      cases h3 : decide ((0 : Int) ≤ delay ∧ delay ≤ 4294967296) with
      | false =>
        have HN := Lib.hid (show ¬ newOk sources column delay from fun h => by have := decide_eq_true h.2.2; rw [h3] at this; cases this)
        clear h2
        go_enter Tryz.func18, Tryz.ntmps18
        go_wp2_with fail
        refine (withinS_any _ _ _ _).mono ?_
        rintro e w1 ⟨rfl, rfl⟩
        rw [h1]
        clear h1
        go_wp2_with fail
        refine (withinS_any _ _ _ _).mono ?_
        rintro e w1 ⟨rfl, rfl⟩
        rw [h3]
        clear h3
        go_wp2_with fail
        go_ret2
        exact ⟨Below.refl _ _, .inl ⟨HN.out, rfl⟩⟩
      | true =>
        have g1 : (1 : Int) ≤ sources ∧ sources ≤ 20 := of_decide_eq_true h1
        have g3 : (0 : Int) ≤ delay ∧ delay ≤ 4294967296 := of_decide_eq_true h3
        have HN := Lib.hid (show newOk sources column delay from ⟨g1, by omega, g3⟩)
        have HCOL := Lib.hid (show 0 ≤ column by omega)
        have HH1 := Lib.hid h1
        have HH3 := Lib.hid h3
        obtain ⟨n, hn⟩ : ∃ n : Nat, sources = n := ⟨sources.toNat, by omega⟩
        subst hn
        have B0 := Lib.hid (Blk.new w 106 [.slice none 0 0, .int .i64 column, .int .i64 delay, .int .i64 (-62135596800), .slice none 0 0])
        clear h2 h1 h3
        go_enter Tryz.func18, Tryz.ntmps18
        go_wp2_with fail
        refine (withinS_any _ _ _ _).mono ?_
        rintro e w1 ⟨rfl, rfl⟩
        rw [HH1.out]
        go_wp2_with fail
        refine (withinS_any _ _ _ _).mono ?_
        rintro e w1 ⟨rfl, rfl⟩
        rw [HH3.out]
        go_wp2_with fail
        go_loopw [26] (fun i wr => ∃ (k : Nat) (vs : Value), k ≤ n ∧ i = .int .i64 k ∧ Blk wr w.heap.size 106 [vs, .int .i64 column, .int .i64 delay, .int .i64 (-62135596800), .slice none 0 0] ∧ wr.ownsRow w.heap.size 108 2 vs k (scells (List.replicate k (-62135596800, false))) ∧ Below w.heap.size w wr) (fun i _ => n - (intOf i).toNat)
        case atStart => exact ⟨0, _, Nat.zero_le _, rfl, B0.out, World.ownsRow_nil _ _ _ _, below_new w _⟩
        case round =>
          obtain ⟨k, vs, hk, rfl, hb, hown, hbel⟩ := hrel
          have HB := Lib.hid hb
          have HO := Lib.hid hown
          have q := wcell5 hb
          have hgl := hb.lt
          have hzz : w.heap.size ≤ wr.heap.size := hbel.size
          by_cases hlt : k < n
          · have f := hb.frozen 0
            clear hb hown
            go_wp2_with (at_builtin; refine append_own2 wr rfl (.tmp 32) (.tmp 34) 104 rfl w.heap.size 108 underO infoO rfl (by decide) _ _ _ [.int .i64 (-62135596800), .bool false] rfl HO.out rfl rfl (by simp [Value.oneCell']) (by omega) (by decide) (by omega) ?_)
            intro v' w2 hown' hb2 hkept
            have hbg := (hkept.block w.heap.size hgl (own_blk_ne HO.out HB.out (by decide))).1
            have HB2 := Lib.hid (show Blk w2 w.heap.size 106 [vs, .int .i64 column, .int .i64 delay, .int .i64 (-62135596800), .slice none 0 0] from hbg.trans HB.out)
            have q2 := wcell5 HB2.out
            have f2 := HB2.out.frozen 0
            have HO2 := Lib.hid (show w2.ownsRow w.heap.size 108 2 v' (k + 1) (scells (List.replicate (k + 1) (-62135596800, false))) by rw [← replicate_snoc, scells_append]; exact hown')
            have hvs : v'.oneCell' = true := by
              rcases hown'.2 with ⟨e, _⟩ | ⟨_, _, _, e, _⟩ <;> rw [e] <;> rfl
            have hbel2 := hbel.trans hb2
            have HO3 := Lib.hid (ownsRow_setCell_other HO2.out (a := ⟨w.heap.size, 0, none⟩) (own_blk_ne HO2.out HB2.out (by decide)) v')
            have HB3 := Lib.hid (HB2.out.set_ 0 v')
            have hbel3 := hbel2.setCell (p := ⟨w.heap.size, 0, none⟩) (Nat.le_refl _) v'
            obtain ⟨A9, c9, n9, ev⟩ : ∃ A c n, v' = .slice A n c := by
              rcases hown'.2 with ⟨e, _⟩ | ⟨_, _, _, e, _⟩ <;> exact ⟨_, _, _, e⟩
            subst ev
            clear hown' hb2 hkept hbg q f hbel
            go_wp2_with fail
            go_roundw
            case rel => exact ⟨k + 1, _, hlt, by go_num, HB3.out, HO3.out, hbel3⟩
            case measure => simp [intOf] <;> omega
          · obtain rfl : k = n := by omega
            obtain ⟨s, cap, hv, hb1, hb2, hc1, hc2⟩ := own_form hown (by omega)
            subst hv
            clear hb hown
            go_wp2_with fail
            go_ret2
            refine ⟨hbel, .inr ⟨HN.out, w.heap.size, s, cap, rfl, ?_⟩⟩
            refine ⟨HB.out, by simpa [newD] using HO.out, by simp [newD], ?_, Nat.le_refl _, ?_⟩
            · intro e
              exact own_blk_ne HO.out HB.out (by decide) (by rw [e]; rfl)
            · refine ⟨fun x hx => ?_, by simp [newD]; omega, by simp [newD]; omega, HCOL.out, by show column ≤ _; omega, by show 0 ≤ delay; omega, by show delay ≤ _; omega, by show Mom (-62135596800); unfold Mom; decide⟩
              have := List.eq_of_mem_replicate hx
              rw [this]
              unfold Mom; decide

set_option maxHeartbeats 400000 in
theorem mark_any (w : World) (base g s cap ns : Nat) (D : GateD) (vw : Value) (h : GateM w base g s cap ns D vw) :
    Calls Tryz.prog 26 #[.pointer (some ⟨g, 0, none⟩)] w fun e w' => e = .returned (.int .i64 D.mark) ∧ w = w' := by
  have q := wcell5 h.blk
  clear h
  go_enter Tryz.func26, Tryz.ntmps26
  go_wp2_with fail
  go_ret
  exact ⟨rfl, rfl⟩

theorem list_set_self {α : Type} {l : List α} {i : Nat} {a : α} (h : l[i]? = some a) : l.set i a = l := by
  refine List.ext_getElem? fun j => ?_
  rw [List.getElem?_set]
  by_cases hj : i = j
  · subst hj
    rw [if_pos rfl, if_pos (List.getElem?_eq_some_iff.1 h).1, h]
  · rw [if_neg hj]
theorem scells_set1 {l : List Src} {i : Nat} {m : Int} {b0 : Bool} (h : l[i]? = some (m, b0)) (b : Bool) : (scells l).set (i * 2 + 1) (.bool b) = scells (l.set i (m, b)) := by
  have hd := (scells_get l i).1
  rw [h] at hd
  rw [scells_set, list_set_self (a := Value.int .i64 (m, b).1) (by simpa using hd)]
theorem scells_set0 {l : List Src} {i : Nat} {m0 : Int} {b : Bool} (h : l[i]? = some (m0, b)) (m : Int) : (scells l).set (i * 2) (.int .i64 m) = scells (l.set i (m, b)) := by
  have hd := (scells_get l i).2
  rw [h] at hd
  rw [scells_set]
  refine (list_set_self (a := Value.bool (m, b).2) ?_).symm
  rw [List.getElem?_set_ne (by omega)]
  simpa using hd
/-- the sources, one of them changed -/
def setSrc (D : GateD) (i : Nat) (s : Src) : GateD := { D with srcs := D.srcs.set i s }
theorem setSrc_ok {D : GateD} (h : D.ok) (i : Nat) (s : Src) (hs : Mom s.1) : (setSrc D i s).ok :=
  ⟨fun t ht => (List.mem_or_eq_of_mem_set ht).elim (h.srcs t) (fun e => by rw [e]; exact hs), by show 1 ≤ (D.srcs.set i s).length; rw [List.length_set]; exact h.some_, by show (D.srcs.set i s).length ≤ 20; rw [List.length_set]; exact h.few, h.col, h.coli, h.del, h.delb, h.mkb⟩
theorem GateM.setIdle {w : World} {base g s cap ns : Nat} {D : GateD} {vw : Value} (h : GateM w base g s cap ns D vw) {i : Nat} {m : Int} {b0 : Bool} (hi : D.srcs[i]? = some (m, b0)) (b : Bool) : GateM (w.setCell ⟨s, i * 2 + 1, none⟩ (.bool b)) base g s cap ns (setSrc D i (m, b)) vw :=
  ⟨h.blk.farB h.ne _, by
    have := (h.src.stored (i * 2 + 1) (.bool b)).1
    rw [scells_set1 hi] at this
    exact this, by show (D.srcs.set i _).length = ns; rw [List.length_set]; exact h.len, h.ne, h.bg, setSrc_ok h.ok i _ (h.ok.srcs (m, b0) (List.mem_of_getElem? hi))⟩
theorem GateM.setMark {w : World} {base g s cap ns : Nat} {D : GateD} {vw : Value} (h : GateM w base g s cap ns D vw) {i : Nat} {m0 : Int} {b : Bool} (hi : D.srcs[i]? = some (m0, b)) (m : Int) (hm : Mom m) : GateM (w.setCell ⟨s, i * 2, none⟩ (.int .i64 m)) base g s cap ns (setSrc D i (m, b)) vw :=
  ⟨h.blk.farB h.ne _, by
    have := (h.src.stored (i * 2) (.int .i64 m)).1
    rw [scells_set0 hi] at this
    exact this, by show (D.srcs.set i _).length = ns; rw [List.length_set]; exact h.len, h.ne, h.bg, setSrc_ok h.ok i _ hm⟩
theorem GateM.caps {w : World} {base g s cap ns : Nat} {D : GateD} {vw : Value} (h : GateM w base g s cap ns D vw) : ns ≤ cap ∧ cap ≤ 9223372036854775807 ∧ 1 ≤ ns ∧ ns ≤ 20 := by
  obtain ⟨_, A, c, e, h1, h2, _⟩ := SL.of_own h.src
  injection e with _ _ e3
  subst e3
  have h3 := h.ok.some_
  have h4 := h.ok.few
  rw [h.len] at h3 h4
  exact ⟨h1, h2, h3, h4⟩
/-- what Idle makes of a gate -/
def idleD (D : GateD) (i : Nat) : GateD := match D.srcs[i]? with
  | some s => advD (setSrc D i (s.1, true))
  | none => D
def IdlePost (base g s cap ns : Nat) (D : GateD) (vw : Value) (source : Int) (w : World) (e : Ending) (w' : World) : Prop :=
  Tab.Ext (fun b => b = g ∨ b = s) w w' ∧ ((¬ (0 ≤ source ∧ source ≤ (ns : Int) - 1) ∧ e = .returned (.int .i64 3) ∧ GateM w' base g s cap ns D vw) ∨
    ((0 ≤ source ∧ source ≤ (ns : Int) - 1) ∧ e = .returned (.int .i64 0) ∧ GateM w' base g s cap ns (idleD D source.toNat) vw))
set_option maxHeartbeats 400000 in
theorem idle_any (w : World) (base g s cap ns : Nat) (D : GateD) (vw : Value) (h : GateM w base g s cap ns D vw) (hvw : vw.oneCell' = true) (source : Int) :
    Calls Tryz.prog 22 #[.pointer (some ⟨g, 0, none⟩), .int .i64 source] w (IdlePost base g s cap ns D vw source w) := by
  have HG := Lib.hid h
  have q := wcell5 h.blk
  obtain ⟨k1, k2, k3, k4⟩ := h.caps
  cases hd : decide ((0 : Int) ≤ source ∧ source ≤ (ns : Int) - 1) with
  | false =>
    have HN := Lib.hid (of_decide_eq_false hd)
    have HD := Lib.hid hd
    clear h hd
    go_enter Tryz.func22, Tryz.ntmps22
    go_wp2_with fail
    refine (withinS_any _ _ _ _).mono ?_
    rintro e w1 ⟨rfl, rfl⟩
    rw [HD.out]
    go_wp2_with fail
    go_ret
    exact ⟨Tab.Ext.refl _ _, .inl ⟨HN.out, rfl, HG.out⟩⟩
  | true =>
    have hin : (0 : Int) ≤ source ∧ source ≤ (ns : Int) - 1 := of_decide_eq_true hd
    have HN := Lib.hid hin
    have HD := Lib.hid hd
    obtain ⟨i, rfl⟩ : ∃ i : Nat, source = i := ⟨source.toNat, by omega⟩
    have hi : i < ns := by omega
    obtain ⟨m, b0, hg, c1, c2⟩ := own_cellsS h.src h.len hi
    have HS := Lib.hid (h.setIdle hg true)
    have fz := h.src.frozenAt (i * 2 + 1)
    have HE := Lib.hid (show idleD D i = advD (setSrc D i (m, true)) by unfold idleD; rw [hg])
    have HX := Lib.hid ((Tab.Ext.refl (fun b => b = g ∨ b = s) w).setCell (p := ⟨s, i * 2 + 1, none⟩) (.inl (.inr rfl)) (.bool true))
    clear h hd hg
    go_enter Tryz.func22, Tryz.ntmps22
    go_wp2_with fail
    refine (withinS_any _ _ _ _).mono ?_
    rintro e w1 ⟨rfl, rfl⟩
    rw [HD.out]
    go_wp2_with fail
    refine (advance_any _ base g s cap ns _ vw HS.out hvw).mono ?_
    rintro e w2 ⟨rfl, o1, o2⟩
    have O := Lib.hid (And.intro o1 (HX.out.trans (o2.mono fun b _ hb => .inl hb)))
    clear o1 o2 HX
    go_wp2_with fail
    go_ret
    exact ⟨O.out.2, .inr ⟨HN.out, rfl, by rw [Int.toNat_natCast, HE.out]; exact O.out.1⟩⟩
end Go.Proofs.YthejmnmkbldacaaGreatDoor

namespace Go.Proofs.YthejmnmkbldacaaGreatDoor
open Go.RowKit
attribute [local go_sem] Tab.Env.ev Tab.Env.get

theorem own_keep {w w' : World} {base e size n : Nat} {v : Value} {xs : List Value} (h : w.ownsRow base e size v n xs) (he : ∀ b, v.ownBlock = some b → w'.heap[b]? = w.heap[b]?) : w'.ownsRow base e size v n xs :=
  ⟨h.1, h.2.elim .inl fun ⟨g, cap, cur, h1, h2, h3, h4⟩ => .inr ⟨g, cap, cur, h1, h2, (he g (by rw [h1]; rfl)).trans h3, h4⟩⟩
/-- the blocks that a gate's calls write to -/
def Mut (g s : Nat) (vw vl : Value) (b : Nat) : Prop := b = g ∨ b = s ∨ vw.ownBlock = some b ∨ vl.ownBlock = some b
/-- a row with a Moment in a column -/
def MomRow (col : Int) (r : List VD) : Prop := col.toNat < r.length ∧ (at_ r col.toNat).k = 5 ∧ Mom (at_ r col.toNat).n
/-- a gate with the rows that wait, and a row of rows that a call builds -/
structure GateS (w : World) (base g s cap ns : Nat) (D : GateD) (vw : Value) (ws : List RE) (vl : Value) (ls : List RE) : Prop where
  gm : GateM w base g s cap ns D vw
  wown : w.ownsRow base 31 1 vw ws.length (ws.map RE.rv)
  lown : w.ownsRow base 31 1 vl ls.length (ls.map RE.rv)
  sep : ∀ b, vw.ownBlock = some b → vl.ownBlock ≠ some b
  rows : ∀ e, e ∈ ws ∨ e ∈ ls → RI w (fun b => base ≤ b ∧ ¬ Mut g s vw vl b) e.rv e.row
  mom : ∀ e, e ∈ ws → MomRow D.column e.row
section
variable {w w' : World} {base g s cap ns : Nat} {D D' : GateD} {vw vl vl' vw' : Value} {ws ls : List RE} {e : RE}
theorem GateM.keep (h : GateM w base g s cap ns D vw) (hg : w'.heap[g]? = w.heap[g]?) (hs : w'.heap[s]? = w.heap[s]?) : GateM w' base g s cap ns D vw :=
  ⟨hg.trans h.blk, own_keep h.src (fun b hb => by
    simp only [Value.ownBlock] at hb
    injection hb with hb
    subst hb
    exact hs), h.len, h.ne, h.bg, h.ok⟩
theorem GateS.wg (h : GateS w base g s cap ns D vw ws vl ls) : vw.ownBlock ≠ some g ∧ vw.ownBlock ≠ some s ∧ vl.ownBlock ≠ some g ∧ vl.ownBlock ≠ some s := by
  have hs : ∀ {v : Value} {n : Nat} {xs : List Value}, w.ownsRow base 31 1 v n xs → v.ownBlock ≠ some s := fun hv he => by
    rcases h.gm.src.2 with ⟨e, _⟩ | ⟨g', cap', cur, e, _, hh, _⟩
    · cases e
    · injection e with e1
      injection e1 with e1
      injection e1 with e1
      subst e1
      rcases hv.2 with ⟨rfl, _⟩ | ⟨g2, cap2, cur2, rfl, _, hh2, _⟩
      · simp [Value.ownBlock] at he
      · have : g2 = s := by simpa [Value.ownBlock] using he
        subst this
        rw [hh] at hh2
        injection hh2 with hh2
        injection hh2 with _ ht
        exact absurd ht (by decide)
  exact ⟨own_blk_ne h.wown h.gm.blk (by decide), hs h.wown, own_blk_ne h.lown h.gm.blk (by decide), hs h.lown⟩
theorem GateS.later (h : GateS w base g s cap ns D vw ws vl ls) (hb : Below w.heap.size w w') : GateS w' base g s cap ns D vw ws vl ls :=
  ⟨h.gm.keep (hb.block g h.gm.blk.lt) (hb.block s h.gm.bs.2), own_keep h.wown (fun b hb' => hb.block b (h.wown.lt b hb').2), own_keep h.lown (fun b hb' => hb.block b (h.lown.lt b hb').2), h.sep, fun e he => (h.rows e he).later hb, h.mom⟩
/-- the gate itself changes -/
theorem GateS.gate (h : GateS w base g s cap ns D vw ws vl ls) (hm : GateM w' base g s cap ns D' vw) (hc : D'.column = D.column) (hx : Tab.Ext (fun b => b = g ∨ b = s) w w') : GateS w' base g s cap ns D' vw ws vl ls := by
  obtain ⟨k1, k2, k3, k4⟩ := h.wg
  refine ⟨hm, own_keep h.wown (fun b hb => hx.block b (h.wown.lt b hb).2 (fun e => ?_)), own_keep h.lown (fun b hb => hx.block b (h.lown.lt b hb).2 (fun e => ?_)), h.sep, fun e he => (h.rows e he).ext hx (fun b hb e => hb.2 (e.elim .inl fun e => .inr (.inl e))), fun e he => by rw [hc]; exact h.mom e he⟩
  · rcases e with e | e <;> subst e
    · exact k1 hb
    · exact k2 hb
  · rcases e with e | e <;> subst e
    · exact k3 hb
    · exact k4 hb
/-- one more late row -/
theorem GateS.addLate (h : GateS w base g s cap ns D vw ws vl ls) (ho : w'.ownsRow base 31 1 vl' (ls.length + 1) (ls.map RE.rv ++ [e.rv])) (hk : Kept w w' vl vl') (hr : RI w (fun b => base ≤ b ∧ ¬ Mut g s vw vl b) e.rv e.row) : GateS w' base g s cap ns D vw ws vl' (ls ++ [e]) := by
  obtain ⟨k1, k2, k3, k4⟩ := h.wg
  have hF : ∀ b, base ≤ b ∧ ¬ Mut g s vw vl b → b < w.heap.size → w'.heap[b]? = w.heap[b]? ∧ base ≤ b ∧ ¬ Mut g s vw vl' b := fun b hb hlt => by
    have hvl : vl.ownBlock ≠ some b := fun e => hb.2 (.inr (.inr (.inr e)))
    have := hk.block b hlt hvl
    refine ⟨this.1, hb.1, fun hm => ?_⟩
    rcases hm with e | e | e | e
    · exact hb.2 (.inl e)
    · exact hb.2 (.inr (.inl e))
    · exact hb.2 (.inr (.inr (.inl e)))
    · exact this.2 e
  refine ⟨h.gm.keep (hk.block g h.gm.blk.lt k3).1 (hk.block s h.gm.bs.2 k4).1, own_keep h.wown (fun b hb => (hk.block b (h.wown.lt b hb).2 (h.sep b hb)).1), by rw [List.map_append, List.length_append]; exact ho, fun b hb => (hk.block b (h.wown.lt b hb).2 (h.sep b hb)).2, fun d hd => ?_, h.mom⟩
  have : RI w (fun b => base ≤ b ∧ ¬ Mut g s vw vl b) d.rv d.row := by
    rcases hd with hd | hd
    · exact h.rows d (.inl hd)
    · rcases List.mem_append.1 hd with hd | hd
      · exact h.rows d (.inr hd)
      · rw [List.mem_singleton.1 hd]; exact hr
  exact this.keep hk.size hF
/-- one more row that waits -/
theorem GateS.addWait (h : GateS w base g s cap ns D vw ws vl ls) (ho : w'.ownsRow base 31 1 vw' (ws.length + 1) (ws.map RE.rv ++ [e.rv])) (hk : Kept w w' vw vw') (hr : RI w (fun b => base ≤ b ∧ ¬ Mut g s vw vl b) e.rv e.row) (hm : MomRow D.column e.row) :
    GateS (w'.setCell ⟨g, 4, none⟩ vw') base g s cap ns D vw' (ws ++ [e]) vl ls := by
  obtain ⟨k1, k2, k3, k4⟩ := h.wg
  have hsep : ∀ b, vw'.ownBlock = some b → vl.ownBlock ≠ some b := fun b hb hl => by
    have hlt := (h.lown.lt b hl).2
    exact (hk.block b hlt (fun e => h.sep b e hl)).2 hb
  have hF : ∀ b, base ≤ b ∧ ¬ Mut g s vw vl b → b < w.heap.size → (w'.setCell ⟨g, 4, none⟩ vw').heap[b]? = w.heap[b]? ∧ base ≤ b ∧ ¬ Mut g s vw' vl b := fun b hb hlt => by
    have hvw : vw.ownBlock ≠ some b := fun e => hb.2 (.inr (.inr (.inl e)))
    have := hk.block b hlt hvw
    refine ⟨(Below.heap_setCell _ _ _ _ (show b ≠ g from fun e => hb.2 (.inl e))).trans this.1, hb.1, fun hm => ?_⟩
    rcases hm with e | e | e | e
    · exact hb.2 (.inl e)
    · exact hb.2 (.inr (.inl e))
    · exact this.2 e
    · exact hb.2 (.inr (.inr (.inr e)))
  have hblk : Blk w' g 106 [.slice (some ⟨s, 0, none⟩) ns cap, .int .i64 D.column, .int .i64 D.delay, .int .i64 D.mark, vw] := (hk.block g h.gm.blk.lt k1).1.trans h.gm.blk
  refine ⟨⟨hblk.set_ 4 vw', ?_, h.gm.len, h.gm.ne, h.gm.bg, h.gm.ok⟩, ?_, ?_, hsep, fun d hd => ?_, fun d hd => ?_⟩
  · refine ownsRow_setCell_other (own_keep h.gm.src (fun b hb => ?_)) (a := ⟨g, 4, none⟩) (fun e => h.gm.ne (by
      simp only [Value.ownBlock] at e
      injection e with e
      exact e.symm)) _
    simp only [Value.ownBlock] at hb
    injection hb with hb
    subst hb
    exact (hk.block s h.gm.bs.2 k2).1
  · rw [List.map_append, List.length_append]
    exact ownsRow_setCell_other ho (a := ⟨g, 4, none⟩) (hk.block g h.gm.blk.lt k1).2 _
  · exact ownsRow_setCell_other (own_keep h.lown (fun b hb => (hk.block b (h.lown.lt b hb).2 (fun e => h.sep b e hb)).1)) (a := ⟨g, 4, none⟩) k3 _
  · have : RI w (fun b => base ≤ b ∧ ¬ Mut g s vw vl b) d.rv d.row := by
      rcases hd with hd | hd
      · rcases List.mem_append.1 hd with hd | hd
        · exact h.rows d (.inl hd)
        · rw [List.mem_singleton.1 hd]; exact hr
      · exact h.rows d (.inr hd)
    exact this.keep (by simpa using hk.size) hF
  · rcases List.mem_append.1 hd with hd | hd
    · exact h.mom d hd
    · rw [List.mem_singleton.1 hd]; exact hm
end

/-! what Offer computes -/
def atOf (col : Int) (r : List VD) : Int := (at_ r col.toNat).n
/-- the error of a row -/
def rowErr (col : Int) (r : List VD) : Int := if rowSound r = false then 1 else if (r.length : Int) ≤ col ∨ (at_ r col.toNat).k ≠ 5 then 2 else 0
/-- the error of the first row that has one -/
def rowsErr (col : Int) : List (List VD) → Int
  | [] => 0
  | r :: l => if rowErr col r = 0 then rowsErr col l else rowErr col r
/-- what becomes of a gate, of the late rows and of the rows that wait, by a row of source i -/
def offStep (i : Nat) (st : GateD × List (List VD) × List (List VD)) (r : List VD) : GateD × List (List VD) × List (List VD) :=
  if atOf st.1.column r < st.1.mark then (st.1, st.2.1 ++ [r], st.2.2)
  else (advD (setSrc st.1 i (max ((st.1.srcs[i]?).getD (0, false)).1 (atOf st.1.column r - st.1.delay), ((st.1.srcs[i]?).getD (0, false)).2)), st.2.1, st.2.2 ++ [r])
def offAll (i : Nat) (st : GateD × List (List VD) × List (List VD)) (l : List (List VD)) : GateD × List (List VD) × List (List VD) := l.foldl (offStep i) st
/-- the gate when Offer begins to look at rows -/
def offBegin (D : GateD) (i : Nat) : GateD := advD (setSrc D i (((D.srcs[i]?).getD (0, false)).1, false))

theorem rowsErr_drop {col : Int} {l : List (List VD)} : ∀ (k : Nat), k ≤ l.length → (∀ j (h : j < l.length), j < k → rowErr col l[j] = 0) → rowsErr col l = rowsErr col (l.drop k)
  | 0, _, _ => by simp
  | k + 1, hk, h => by
    rw [rowsErr_drop k (by omega) (fun j h1 h2 => h j h1 (by omega)), List.drop_eq_getElem_cons (by omega), rowsErr, if_pos (h k (by omega) (by omega))]
end Go.Proofs.YthejmnmkbldacaaGreatDoor

namespace Go.Proofs.YthejmnmkbldacaaGreatDoor.Tab
open Go Go.RowKit
variable {P : Program} {ops : Array Oper} {Q : Exit → Act → World → Prop} {E : World → World → Prop} {C : Array Bool → World → Prop} {w0 : World} {a0 : Act} {G : Env} {o : Oper} {i : Nat} {rest : List Oper} {K : Env → Prop}
theorem tab_actv {v : Value} {d : Tmp} (hd : o.dst = some d) (hg : guardB ops G a0 o = some true) (hs : ∀ cs b, o.op ≠ .select cs b) (hk : o.op.operands.toList.all G.isKnown = true)
    (hrun : ∀ listed w, listed.size = ops.size → Stage ops i listed → C listed w → E w0 w → ∃ w', (execOp (G.ev a0) o).run P w = .ok (.value v) w' ∧ E w w' ∧ C (listed.setIfInBounds i true) w')
    (h : wpTab P ops Q E C w0 a0 K (i + 1) rest ((d, .is v) :: G)) : wpTab P ops Q E C w0 a0 K i (o :: rest) G :=
  ⟨.is v, stable_is _, fun listed a w hsz hst hc hw hl => by
    rw [if_pos (guard_spec hl hg)]
    refine .inl ?_
    unfold Oper.wp
    obtain ⟨w', hr, hE, hC⟩ := hrun listed w hsz hst hc hw
    rw [execOp_congr (ρ' := G.ev a0) o hs fun x hx => ev_of (List.all_eq_true.1 hk x (Array.mem_toList_iff.2 hx)) (tyd_of hl x hx), hr]
    exact ⟨v, rfl, rfl, hE, hC⟩, by rw [hd]; exact h⟩
end Go.Proofs.YthejmnmkbldacaaGreatDoor.Tab
