/-
  What is proved: what Offer makes of a gate. Conditions: the tables of unicode/utf8 lie as they are laid; fewer than 2^30 rows, no list with 2^30 elements or more.
-/
import Derived.Test.YthejmnmkbldacaaGreatDoorGm21
import Derived.Test.YthejmnmkbldacaaGreatDoorGm24
set_option linter.all false
namespace Go.Proofs.YthejmnmkbldacaaGreatDoor
open Go.RowKit
attribute [local go_sem] Tab.Env.ev Tab.Env.get

theorem sound_moment {x : VD} (h : soundB x = true) (hk : x.k = 5) : Mom x.n := by
  unfold soundB at h
  rw [soundV_eq] at h
  by_cases hc : (4 : Int) < 1 ∨ (256 : Int) < (if x.k = 0 then 0 else 0 + 1) ∨ plainF x.k x.n x.sc x.s x.items.length = false
  · rw [if_pos hc] at h
    exact absurd h (by simp)
  · have hp : plainF x.k x.n x.sc x.s x.items.length = true := by
      cases hpl : plainF x.k x.n x.sc x.s x.items.length with
      | true => rfl
      | false => exact absurd (Or.inr (Or.inr hpl)) hc
    rw [hk] at hp
    unfold plainF plain5 at hp
    simp at hp
    exact hp.1
theorem rowErr_mom {col : Int} {r : List VD} (hc : 0 ≤ col) (h : rowErr col r = 0) : MomRow col r := by
  unfold rowErr at h
  split at h
  · cases h
  · rename_i hs
    split at h
    · cases h
    · rename_i h2
      have hl : col.toNat < r.length := by omega
      have hk : (at_ r col.toNat).k = 5 := Classical.byContradiction fun hk => h2 (.inr hk)
      have hs' : rowSound r = true := by simpa using hs
      exact ⟨hl, hk, sound_moment (List.all_eq_true.1 hs' _ (at_mem hl)) hk⟩
theorem offStep_column (i : Nat) (st : GateD × List (List VD) × List (List VD)) (r : List VD) : (offStep i st r).1.column = st.1.column ∧ (offStep i st r).1.delay = st.1.delay := by
  unfold offStep
  split
  · exact ⟨rfl, rfl⟩
  · exact ⟨advD_column _, advD_delay _⟩
theorem offAll_column (i : Nat) : ∀ (l : List (List VD)) (st : GateD × List (List VD) × List (List VD)), (offAll i st l).1.column = st.1.column ∧ (offAll i st l).1.delay = st.1.delay
  | [], _ => ⟨rfl, rfl⟩
  | r :: l, st => by
    have h1 := offAll_column i l (offStep i st r)
    have h2 := offStep_column i st r
    exact ⟨h1.1.trans h2.1, h1.2.trans h2.2⟩
theorem offAll_snoc (i : Nat) (st : GateD × List (List VD) × List (List VD)) (l : List (List VD)) (r : List VD) : offAll i st (l ++ [r]) = offStep i (offAll i st l) r := by
  unfold offAll
  rw [List.foldl_append]
  rfl
theorem offBegin_column (D : GateD) (i : Nat) : (offBegin D i).column = D.column ∧ (offBegin D i).delay = D.delay := ⟨advD_column _, advD_delay _⟩
def rowsD (l : List RE) : List (List VD) := l.map RE.row
theorem rowsD_get {l : List RE} {k : Nat} (h : k < (rowsD l).length) (hk : k < l.length) : (rowsD l)[k] = (dat l k).row := by
  have h1 : (rowsD l)[k]? = some (dat l k).row := by
    unfold rowsD
    rw [List.getElem?_map, dat_some hk]
    rfl
  exact Option.some.inj ((List.getElem?_eq_getElem h).symm.trans h1)
theorem rowsD_len (l : List RE) : (rowsD l).length = l.length := List.length_map _
theorem rowsD_take {l : List RE} {k : Nat} (h : k < l.length) : (rowsD l).take (k + 1) = (rowsD l).take k ++ [(dat l k).row] := by
  rw [List.take_succ_eq_append_getElem (by rw [rowsD_len]; exact h), rowsD_get _ h]

theorem offStep_len (i : Nat) (st : GateD × List (List VD) × List (List VD)) (r : List VD) : (offStep i st r).2.1.length + (offStep i st r).2.2.length = st.2.1.length + st.2.2.length + 1 := by
  unfold offStep
  split <;> simp <;> omega
theorem offAll_len (i : Nat) : ∀ (l : List (List VD)) (st : GateD × List (List VD) × List (List VD)), (offAll i st l).2.1.length + (offAll i st l).2.2.length = st.2.1.length + st.2.2.length + l.length
  | [], _ => rfl
  | r :: l, st => by
    have h1 := offAll_len i l (offStep i st r)
    have h2 := offStep_len i st r
    have e : offAll i st (r :: l) = offAll i (offStep i st r) l := rfl
    rw [e, h1, h2, List.length_cons]
    omega
/-- what lies above -/
theorem GateS.high {w : World} {base g s cap ns : Nat} {D : GateD} {vw vl : Value} {ws ls : List RE} (h : GateS w base g s cap ns D vw ws vl ls) : ∀ b, w.heap.size ≤ b → base ≤ b ∧ ¬ Mut g s vw vl b := fun b hb => by
  have h1 := h.gm.blk.lt
  have h2 := h.gm.bs.2
  have h3 := h.gm.bg
  refine ⟨by omega, fun hm => ?_⟩
  rcases hm with e | e | e | e
  · omega
  · omega
  · have := (h.wown.lt b e).2; omega
  · have := (h.lown.lt b e).2; omega
/-- the row that a call builds is handed on -/
theorem GateS.drop {w : World} {base g s cap ns : Nat} {D : GateD} {vw vl : Value} {ws ls : List RE} (h : GateS w base g s cap ns D vw ws vl ls) : GateS w base g s cap ns D vw ws (.slice none 0 0) [] :=
  ⟨h.gm, h.wown, World.ownsRow_nil _ _ _ _, fun _ _ => by simp [Value.ownBlock], fun e he => by
    rcases he with he | he
    · exact (h.rows e (.inl he)).mono fun b hb _ => ⟨hb.1, fun hm => hb.2 (by
        rcases hm with e | e | e | e
        · exact .inl e
        · exact .inr (.inl e)
        · exact .inr (.inr (.inl e))
        · simp [Value.ownBlock] at e)⟩
    · exact absurd he (by simp), h.mom⟩

/-- what a call leaves alone of what lay before it -/
structure Fr (w wr : World) (g s : Nat) (vw vw' vl : Value) : Prop where
  blk : ∀ b, b < w.heap.size → ¬ Mut g s vw (.slice none 0 0) b → wr.heap[b]? = w.heap[b]?
  nl : ∀ b, vl.ownBlock = some b → w.heap.size ≤ b
  nw : ∀ b, vw'.ownBlock = some b → vw.ownBlock = some b ∨ w.heap.size ≤ b
section
variable {w wr w3 w4 : World} {g s : Nat} {vw vw' vl v' : Value}
theorem Fr.late (h : Fr w wr g s vw vw' vl) (hz : w.heap.size ≤ wr.heap.size) (hb : Below wr.heap.size wr w3) (hk : Kept w3 w4 vl v') : Fr w w4 g s vw vw' v' := by
  have hz3 := hb.size
  refine ⟨fun b hlt hm => ?_, fun b e => ?_, h.nw⟩
  · exact ((hk.block b (by omega) (fun e => by have := h.nl b e; omega)).1.trans (hb.block b (by omega))).trans (h.blk b hlt hm)
  · by_cases hlt : b < w3.heap.size
    · by_cases hv : vl.ownBlock = some b
      · exact h.nl b hv
      · exact absurd e (hk.block b hlt hv).2
    · omega
theorem Fr.wait (h : Fr w wr g s vw vw' vl) (hz : w.heap.size ≤ wr.heap.size) (hb : Below wr.heap.size wr w3) (hk : Kept w3 w4 vw' v') (v : Value) : Fr w (w4.setCell ⟨g, 4, none⟩ v) g s vw v' vl := by
  have hz3 := hb.size
  refine ⟨fun b hlt hm => ?_, h.nl, fun b e => ?_⟩
  · have hv : vw'.ownBlock ≠ some b := fun e => by
      rcases h.nw b e with e | e
      · exact hm (.inr (.inr (.inl e)))
      · omega
    exact (Below.heap_setCell _ _ _ _ (show b ≠ g from fun e => hm (.inl e))).trans (((hk.block b (by omega) hv).1.trans (hb.block b (by omega))).trans (h.blk b hlt hm))
  · by_cases hlt : b < w3.heap.size
    · by_cases hv : vw'.ownBlock = some b
      · exact h.nw b hv
      · exact absurd e (hk.block b hlt hv).2
    · right
      omega
theorem Fr.gate (h : Fr w wr g s vw vw' vl) (hz : w.heap.size ≤ wr.heap.size) (hx : Tab.Ext (fun b => b = g ∨ b = s) wr w3) : Fr w w3 g s vw vw' vl :=
  ⟨fun b hlt hm => (hx.block b (by omega) (fun e => hm (e.elim .inl fun e => .inr (.inl e)))).trans (h.blk b hlt hm), h.nl, h.nw⟩
end

/-- rows that a call has laid anew *from* z on, apart from what the gate writes -/
def NR (z : Nat) (w : World) (g s : Nat) (vw vl : Value) (ws ls : List RE) : Prop := ∀ e, e ∈ ws ∨ e ∈ ls → RI w (fun b => z ≤ b ∧ ¬ Mut g s vw vl b) e.rv e.row
section
variable {z : Nat} {w w' : World} {g s : Nat} {vw vw' vl vl' : Value} {ws ls : List RE} {e : RE}
theorem NR.later (h : NR z w g s vw vl ws ls) (hb : Below w.heap.size w w') : NR z w' g s vw vl ws ls := fun e he => (h e he).later hb
theorem NR.gate (h : NR z w g s vw vl ws ls) (hx : Tab.Ext (fun b => b = g ∨ b = s) w w') : NR z w' g s vw vl ws ls := fun e he => (h e he).ext hx fun b hb h => hb.2 (h.elim .inl fun e => .inr (.inl e))
theorem NR.addLate (h : NR z w g s vw vl ws ls) (hk : Kept w w' vl vl') (hr : RI w (fun b => z ≤ b ∧ ¬ Mut g s vw vl b) e.rv e.row) : NR z w' g s vw vl' ws (ls ++ [e]) := by
  have hrow : ∀ e : RE, RI w (fun b => z ≤ b ∧ ¬ Mut g s vw vl b) e.rv e.row → RI w' (fun b => z ≤ b ∧ ¬ Mut g s vw vl' b) e.rv e.row := fun e he => he.keep hk.size fun b hb hlt => by
    have h1 := hk.block b hlt (fun e => hb.2 (.inr (.inr (.inr e))))
    exact ⟨h1.1, hb.1, fun hm => hm.elim (fun e => hb.2 (.inl e)) fun hm => hm.elim (fun e => hb.2 (.inr (.inl e))) fun hm => hm.elim (fun e => hb.2 (.inr (.inr (.inl e)))) fun e => h1.2 e⟩
  intro x hx
  rcases hx with hx | hx
  · exact hrow x (h x (.inl hx))
  · rcases List.mem_append.1 hx with hx | hx
    · exact hrow x (h x (.inr hx))
    · rw [List.mem_singleton.1 hx]; exact hrow e hr
theorem NR.addWait (h : NR z w g s vw vl ws ls) (hk : Kept w w' vw vw') (hr : RI w (fun b => z ≤ b ∧ ¬ Mut g s vw vl b) e.rv e.row) : NR z (w'.setCell ⟨g, 4, none⟩ vw') g s vw' vl (ws ++ [e]) ls := by
  have hrow : ∀ e : RE, RI w (fun b => z ≤ b ∧ ¬ Mut g s vw vl b) e.rv e.row → RI (w'.setCell ⟨g, 4, none⟩ vw') (fun b => z ≤ b ∧ ¬ Mut g s vw' vl b) e.rv e.row := fun e he => he.keep (by simpa using hk.size) fun b hb hlt => by
    have h1 := hk.block b hlt (fun e => hb.2 (.inr (.inr (.inl e))))
    exact ⟨(Below.heap_setCell _ _ _ _ (show b ≠ g from fun e => hb.2 (.inl e))).trans h1.1, hb.1, fun hm => hm.elim (fun e => hb.2 (.inl e)) fun hm => hm.elim (fun e => hb.2 (.inr (.inl e))) fun hm => hm.elim (fun e => h1.2 e) fun e => hb.2 (.inr (.inr (.inr e)))⟩
  intro x hx
  rcases hx with hx | hx
  · rcases List.mem_append.1 hx with hx | hx
    · exact hrow x (h x (.inl hx))
    · rw [List.mem_singleton.1 hx]; exact hrow e hr
  · exact hrow x (h x (.inr hx))
end
theorem SL.of_ownB {w : World} {base k n : Nat} {v : Value} {cs : List Value} {e : TypeId} (h : w.ownsRow base e k v n cs) : SL w (fun b => v.ownBlock = some b) k v n cs := by
  refine ⟨h.1, ?_⟩
  rcases h.2 with ⟨rfl, hn⟩ | ⟨g, cap, cur, rfl, hg, hblk, hle, hm, hsz, htk⟩
  · subst hn
    exact ⟨none, 0, rfl, Nat.le_refl _, Nat.zero_le _, fun h => absurd h (Nat.lt_irrefl 0)⟩
  · refine ⟨_, cap, rfl, hle, hm, fun hn => ⟨g, 0, rfl, rfl, lt_of_block hblk, fun j u hj => ?_⟩⟩
    rw [Nat.zero_add]
    have hj2 : j < n * k := by
      have := (List.getElem?_eq_some_iff.1 hj).1
      rw [h.1] at this
      exact this
    exact (h.cellAt j hj2).trans hj

/-- what Offer leaves -/
def OffPost (base g s cap ns : Nat) (D : GateD) (vw : Value) (ws : List RE) (source : Int) (l : List (List VD)) (w : World) (e : Ending) (w' : World) : Prop :=
  Tab.Ext (fun b => Mut g s vw (.slice none 0 0) b) w w' ∧
  ((¬ (0 ≤ source ∧ source ≤ (ns : Int) - 1) ∧ e = .returned (.tuple #[.slice none 0 0, .int .i64 3]) ∧ GateS w' base g s cap ns D vw ws (.slice none 0 0) []) ∨
   ((0 ≤ source ∧ source ≤ (ns : Int) - 1) ∧ rowsErr D.column l ≠ 0 ∧ e = .returned (.tuple #[.slice none 0 0, .int .i64 (rowsErr D.column l)]) ∧ GateS w' base g s cap ns D vw ws (.slice none 0 0) []) ∨
   ((0 ≤ source ∧ source ≤ (ns : Int) - 1) ∧ rowsErr D.column l = 0 ∧ ∃ vl ls vw' ws', e = .returned (.tuple #[vl, .int .i64 0]) ∧ RR w' (fun b => w.heap.size ≤ b) (fun b => w.heap.size ≤ b) vl ls ∧ rowsD ls = (offAll source.toNat (offBegin D source.toNat, [], []) l).2.1 ∧
     GateS w' base g s cap ns (offAll source.toNat (offBegin D source.toNat, [], []) l).1 vw' (ws ++ ws') (.slice none 0 0) [] ∧ rowsD ws' = (offAll source.toNat (offBegin D source.toNat, [], []) l).2.2 ∧ (∀ b, vw'.ownBlock = some b → vw.ownBlock = some b ∨ w.heap.size ≤ b) ∧ NR w.heap.size w' g s vw' (.slice none 0 0) ws' []))

set_option maxHeartbeats 3000000 in
set_option maxRecDepth 100000 in
theorem offer_any (w : World) (base g s cap ns : Nat) (D : GateD) (vw : Value) (ws : List RE) (hS : GateS w base g s cap ns D vw ws (.slice none 0 0) []) (hT : Tabs w) (hTb : 0 < base ∧ 1 < base) (hbase : base ≤ w.heap.size)
    (F F' : Nat → Prop) (v : Value) (l : List RE) (hr : RR w F F' v l) (hF : ∀ b, F b → b < base) (hF' : ∀ b, F' b → b < base) (hn : ws.length + l.length < 1073741824) (hsm : ∀ e, e ∈ l → e.row.length < 1073741824 ∧ ∀ x, x ∈ e.row → smV x) (source : Int) :
    Calls Tryz.prog 20 #[.pointer (some ⟨g, 0, none⟩), .int .i64 source, v] w (OffPost base g s cap ns D vw ws source (rowsD l) w) := by
  have HS := Lib.hid hS
  have q := wcell5 hS.gm.blk
  have hgl := hS.gm.blk.lt
  obtain ⟨k1, k2, k3, k4⟩ := hS.gm.caps
  cases hd : decide ((0 : Int) ≤ source ∧ source ≤ (ns : Int) - 1) with
  | false =>
    have HN := Lib.hid (of_decide_eq_false hd)
    have HD := Lib.hid hd
    obtain ⟨_, A, c, e, _⟩ := hr.sl
    subst e
    clear hS hd hr hT hsm
    go_enter Tryz.func20, Tryz.ntmps20
    go_wp2_with fail
    refine (withinS_any _ _ _ _).mono ?_
    rintro e w1 ⟨rfl, rfl⟩
    rw [HD.out]
    go_wp2_with fail
    go_ret2
    exact ⟨Tab.Ext.refl _ _, .inl ⟨HN.out, rfl, HS.out⟩⟩
  | true =>
    have hin : (0 : Int) ≤ source ∧ source ≤ (ns : Int) - 1 := of_decide_eq_true hd
    have HIN := Lib.hid hin
    have HD := Lib.hid hd
    obtain ⟨i, rfl⟩ : ∃ i : Nat, source = i := ⟨source.toNat, by omega⟩
    have hi : i < ns := by omega
    have HR := Lib.hid hr
    have HT := Lib.hid hT
    have HSM := Lib.hid hsm
    have HF := Lib.hid hF
    have HF' := Lib.hid hF'
    obtain ⟨_, A, c, e, hc1, hc2, _⟩ := hr.sl
    subst e
    unfold maxLen at hc2
    obtain ⟨n, hln⟩ : ∃ n, l.length = n := ⟨_, rfl⟩
    have HN := Lib.hid hln
    rw [hln] at hc1 hn ⊢
    obtain ⟨cn, hcn⟩ : ∃ cn : Nat, D.column = cn := ⟨D.column.toNat, by have := hS.gm.ok.col; omega⟩
    have HCN := Lib.hid hcn
    have hcni := hS.gm.ok.coli
    rw [hcn] at q hcni
    clear hS hd hr hT hsm hF hF' hln hcn
    go_enter Tryz.func20, Tryz.ntmps20
    go_wp2_with fail
    refine (withinS_any _ _ _ _).mono ?_
    rintro e w1 ⟨rfl, rfl⟩
    rw [HD.out]
    go_wp2_with fail
    go_loopw [6, 7, 9, 26] (fun _ _ _ j wr => ∃ k : Nat, k ≤ n ∧ j = .int .i64 k ∧ Below w.heap.size w wr ∧ Hid (∀ m (h : m < (rowsD l).length), m < k → rowErr cn (rowsD l)[m] = 0)) (fun _ _ _ j _ => n - (intOf j).toNat)
    case atStart => exact ⟨0, Nat.zero_le _, rfl, Below.refl _ _, Lib.hid fun m h hm => absurd hm (Nat.not_lt_zero m)⟩
    case round =>
      obtain ⟨k, hk, rfl, hbel, HJ⟩ := hrel
      have q' := wcell5 (HS.out.gm.blk.below hbel hgl)
      rw [HCN.out] at q'
      by_cases hlt : k < n
      · as_aux_lemma =>
        obtain ⟨b, off, c', A1, m1, c1, row, hv, -, -, hb, -, he, hri, qc⟩ := (HR.out.later hbel).at_ (i := k) (by rw [HN.out]; exact hlt)
        injection hv with e1 _ e2
        subst e1
        subst e2
        have hrowk : ∀ h, (rowsD l)[k]'h = row := fun h => by
          rw [rowsD_get h (by rw [HN.out]; exact hlt), he]
        have hklen : k < (rowsD l).length := by unfold rowsD; rw [List.length_map, HN.out]; exact hlt
        have HDROP := Lib.hid (show rowsErr cn (rowsD l) = if rowErr cn row = 0 then rowsErr cn ((rowsD l).drop (k + 1)) else rowErr cn row by
          rw [rowsErr_drop k (by omega) HJ.out, List.drop_eq_getElem_cons hklen, rowsErr, hrowk])
        have HROW := Lib.hid hrowk
        have HSND := Lib.hid (soundRow_any _ (.slice A1 m1 c1) row wr hri (HT.out.later hbel))
        have HRI := Lib.hid hri
        clear he hri q hrowk
        go_wp2_with fail
        refine HSND.out.mono ?_
        rintro e w2 ⟨rfl, hb2⟩
        have hbel2 := hbel.trans (hb2.mono hbel.size)
        have q2 := wcell5 (HS.out.gm.blk.below hbel2 hgl)
        rw [HCN.out] at q2
        cases hsr : rowSound row with
        | false =>
          have HE := Lib.hid (show rowErr cn row = 1 by unfold rowErr; rw [if_pos hsr])
          have HE2 := Lib.hid (show rowsErr D.column (rowsD l) = 1 by rw [HCN.out, HDROP.out, if_neg (by rw [HE.out]; decide), HE.out])
          clear hsr q'
          go_wp2_with fail
          go_ret2
          exact ⟨Tab.Ext.of_below hbel2, .inr (.inl ⟨HIN.out, by rw [HE2.out]; decide, by rw [HE2.out]; rfl, HS.out.later hbel2⟩)⟩
        | true =>
          have hri2 := HRI.out.later hb2
          obtain ⟨A9, c9, iA, iC, hv9, -, -, hs9, hw9, -⟩ := hri2.shape
          injection hv9 with e1 e2 e3
          subst e1
          subst e2
          subst e3
          by_cases hcl : (row.length : Int) ≤ cn
          · have HE := Lib.hid (show rowErr cn row = 2 by unfold rowErr; rw [if_neg (by rw [hsr]; decide), if_pos (.inl hcl)])
            have HE2 := Lib.hid (show rowsErr D.column (rowsD l) = 2 by rw [HCN.out, HDROP.out, if_neg (by rw [HE.out]; decide), HE.out])
            have hd1 : decide ((row.length : Int) ≤ (cn : Int)) = true := by simp; omega
            have hd2 : decide (row.length ≤ cn) = true := by simp; omega
            clear hsr q' hcl
            go_wp2_with fail
            go_ret2
            exact ⟨Tab.Ext.of_below hbel2, .inr (.inl ⟨HIN.out, by rw [HE2.out]; decide, by rw [HE2.out]; rfl, HS.out.later hbel2⟩)⟩
          · have hcl' : cn < row.length := by omega
            have hd1 : decide ((row.length : Int) ≤ (cn : Int)) = false := by simp; omega
            have hd2 : decide (row.length ≤ cn) = false := by simp; omega
            obtain ⟨b9, o9, rfl, -, -, hc9⟩ := hs9 (by omega)
            obtain ⟨x1, x2, -, -, -⟩ := hc9 cn hcl'
            by_cases hk5 : (at_ row cn).k = 5
            · have hd3 : ((at_ row cn).k != 5) = false := by simp [hk5]
              have HE := Lib.hid (show rowErr cn row = 0 by unfold rowErr; rw [if_neg (by rw [hsr]; decide), if_neg (by rw [Int.toNat_natCast]; exact fun h => h.elim hcl (fun h => h hk5))])
              have HJ2 := Lib.hid (show ∀ m (h : m < (rowsD l).length), m < k + 1 → rowErr cn (rowsD l)[m] = 0 from fun m h hm => by
                by_cases hmk : m < k
                · exact HJ.out m h hmk
                · obtain rfl : m = k := by omega
                  rw [HROW.out]; exact HE.out)
              clear hsr q' hcl hk5 hc9 hs9 x2
              go_wp2_with fail
              go_roundw
              case rel => exact ⟨k + 1, hlt, by go_num, hbel2, HJ2⟩
              case measure => simp [intOf] <;> omega
            · have hd3 : ((at_ row cn).k != 5) = true := by simp [hk5]
              have HE := Lib.hid (show rowErr cn row = 2 by unfold rowErr; rw [if_neg (by rw [hsr]; decide), if_pos (by rw [Int.toNat_natCast]; exact .inr hk5)])
              have HE2 := Lib.hid (show rowsErr D.column (rowsD l) = 2 by rw [HCN.out, HDROP.out, if_neg (by rw [HE.out]; decide), HE.out])
              clear hsr q' hcl hk5 hc9 hs9 x2
              go_wp2_with fail
              go_ret2
              exact ⟨Tab.Ext.of_below hbel2, .inr (.inl ⟨HIN.out, by rw [HE2.out]; decide, by rw [HE2.out]; rfl, HS.out.later hbel2⟩)⟩
      · obtain rfl : k = n := by omega
        have HERR := Lib.hid (show rowsErr D.column (rowsD l) = 0 by
          have hll : (rowsD l).length = k := by unfold rowsD; rw [List.length_map, HN.out]
          rw [HCN.out, rowsErr_drop k (by omega) HJ.out, List.drop_eq_nil_of_le (by omega)]; rfl)
        have HSW := Lib.hid (HS.out.later hbel)
        obtain ⟨m, b0, hg, c1, c2⟩ := own_cellsS HSW.out.gm.src HSW.out.gm.len hi
        have fz := HSW.out.gm.src.frozenAt (i * 2 + 1)
        have HADV := Lib.hid (fun hvw => advance_any _ base g s cap ns _ vw (HSW.out.gm.setIdle hg false) hvw)
        have hvw : vw.oneCell' = true := by
          rcases HS.out.wown.2 with ⟨e, _⟩ | ⟨_, _, _, e, _⟩ <;> rw [e] <;> rfl
        clear q
        go_wp2_with fail
        refine (HADV.out hvw).mono ?_
        rintro e w2 ⟨rfl, o1, o2⟩
        have hBEG : offBegin D i = advD (setSrc D i (m, false)) := by unfold offBegin; rw [hg]; rfl
        have hext1 : Tab.Ext (fun b => b = g ∨ b = s) wr w2 := ((Tab.Ext.refl (fun b => b = g ∨ b = s) wr).setCell (p := ⟨s, i * 2 + 1, none⟩) (.inl (.inr rfl)) (.bool false)).trans (o2.mono fun b _ hb => .inl hb)
        have HS2 := Lib.hid (show GateS w2 base g s cap ns (offBegin D i) vw ws (.slice none 0 0) [] by rw [hBEG]; exact HSW.out.gate o1 (by rw [advD_column]; rfl) hext1)
        have HX2 := Lib.hid (show Tab.Ext (fun b => base ≤ b) w w2 from (Tab.Ext.of_below hbel).trans (hext1.mono fun b _ hb => by rcases hb with rfl | rfl; exact HS.out.gm.bg; exact HS.out.gm.bs.1))
        have HFR2 := Lib.hid (show Fr w w2 g s vw vw (.slice none 0 0) from ⟨((Tab.Ext.of_below hbel).trans (hext1.mono (M' := fun b => Mut g s vw (.slice none 0 0) b) fun b _ hb => by rcases hb with rfl | rfl; exact .inl rfl; exact .inr (.inl rfl))).block, fun b e => by simp [Value.ownBlock] at e, fun b e => .inl e⟩)
        have hsz2 : w.heap.size ≤ w2.heap.size := HX2.out.size
        clear o1 o2 hBEG hext1 HADV fz c1 c2 hg HSW q' hbel
        go_wp2_with fail
        obtain ⟨n, rfl⟩ : ∃ n, n = k := ⟨_, rfl⟩
        go_loopw [11, 13, 14, 65] (fun a _ _ j wr => ∃ (k : Nat) (vw' vl : Value) (ws' ls : List RE), k ≤ n ∧ j = .int .i64 k ∧ vl = a ∧ Tab.Ext (fun b => base ≤ b) w wr ∧
          Hid (rowsD ls = (offAll i (offBegin D i, [], []) ((rowsD l).take k)).2.1 ∧ rowsD ws' = (offAll i (offBegin D i, [], []) ((rowsD l).take k)).2.2 ∧ GateS wr base g s cap ns (offAll i (offBegin D i, [], []) ((rowsD l).take k)).1 vw' (ws ++ ws') vl ls) ∧ Hid (Fr w wr g s vw vw' vl ∧ NR w.heap.size wr g s vw' vl ws' ls)) (fun _ _ _ j _ => n - (intOf j).toNat)
        case atStart => exact ⟨0, vw, _, [], [], Nat.zero_le _, rfl, rfl, HX2.out, Lib.hid ⟨rfl, rfl, by rw [List.take_zero, List.append_nil]; exact HS2.out⟩, Lib.hid ⟨HFR2.out, fun e he => by rcases he with he | he <;> exact absurd he (by simp)⟩⟩
        case round =>
          obtain ⟨k, vw', vl, ws', ls, hk, rfl, rfl, hext, HST, HFRN⟩ := hrel
          have HFR := Lib.hid HFRN.out.1
          have HNR := Lib.hid HFRN.out.2
          clear HFRN
          have hwl : ws'.length ≤ k ∧ ls.length ≤ k := by
            have h1 := offAll_len i ((rowsD l).take k) (offBegin D i, [], [])
            have h2 := congrArg List.length HST.out.1
            have h3 := congrArg List.length HST.out.2.1
            rw [rowsD_len] at h2 h3
            have h4 : ((rowsD l).take k).length ≤ k := List.length_take_le _ _
            simp only [List.length_nil, Nat.zero_add] at h1
            omega
          have hcol := offAll_column i ((rowsD l).take k) (offBegin D i, [], [])
          simp only at hcol
          rw [(offBegin_column D i).1, (offBegin_column D i).2, HCN.out] at hcol
          by_cases hlt : k < n
          · have HTK := Lib.hid (show offAll i (offBegin D i, [], []) ((rowsD l).take (k + 1)) = offStep i (offAll i (offBegin D i, [], []) ((rowsD l).take k)) (dat l k).row by rw [rowsD_take (by rw [HN.out]; exact hlt), offAll_snoc])
            obtain ⟨D1, lt, wt, hst⟩ : ∃ D1 lt wt, offAll i (offBegin D i, [], []) ((rowsD l).take k) = (D1, lt, wt) := ⟨_, _, _, rfl⟩
            rw [hst] at HST HTK hcol
            simp only at hcol
            have HS1 := Lib.hid HST.out.2.2
            have HC1 := Lib.hid hcol
            have hrr := HR.out.ext (M := fun b => base ≤ b) hext (fun b hb h => by have := HF.out b hb; omega) (fun b hb h => by have := HF'.out b hb; omega)
            obtain ⟨b, off, c', A1, m1, c1, row, hv, -, -, hb, -, he, hri, qc⟩ := hrr.at_ (i := k) (by rw [HN.out]; exact hlt)
            injection hv with e1 _ e2
            subst e1
            subst e2
            rw [he] at HTK
            have hsmr := HSM.out _ (dat_mem (l := l) (i := k) (by rw [HN.out]; exact hlt))
            rw [he] at hsmr
            have hmr : MomRow cn row := rowErr_mom (by omega) (by
              have := HJ.out k (by rw [rowsD_len, HN.out]; exact hlt) hlt
              rw [rowsD_get _ (by rw [HN.out]; exact hlt), he] at this
              exact this)
            obtain ⟨hm1, hm2, hm3⟩ := hmr
            rw [Int.toNat_natCast] at hm1 hm2 hm3
            obtain ⟨A9, c9, iA, iC, hv9, -, -, hs9, -, -⟩ := hri.shape
            injection hv9 with e1 e2 e3
            subst e1
            subst e2
            subst e3
            obtain ⟨b9, o9, rfl, -, hb9, hc9⟩ := hs9 (by omega)
            obtain ⟨x1, x2, -, -, -⟩ := hc9 cn hm1
            have HAT := Lib.hid (show atOf D1.column row = (at_ row cn).n by unfold atOf; rw [HC1.out.1, Int.toNat_natCast])
            have HMR := Lib.hid (show MomRow D1.column row from by rw [HC1.out.1]; exact ⟨by rw [Int.toNat_natCast]; exact hm1, by rw [Int.toNat_natCast]; exact hm2, by rw [Int.toNat_natCast]; exact hm3⟩)
            have HRI := Lib.hid hri
            have HSMR := Lib.hid hsmr
            unfold Mom at hm3
            generalize hat : (at_ row cn).n = at1 at *
            have qg := wcell5 HS1.out.gm.blk
            rw [HC1.out.1, HC1.out.2] at qg
            have hgl1 := HS1.out.gm.blk.lt
            have HCP := Lib.hid (fun w' hb => copyRow_any F' (.slice (some ⟨b9, o9, none⟩) row.length c1) row w' (HRI.out.later (w' := w') hb) HSMR.out.1 HSMR.out.2)
            have hbs : base ≤ wr.heap.size := by have := hext.size; omega
            have hdelb : 0 ≤ D.delay ∧ D.delay ≤ 4294967296 := ⟨HS.out.gm.ok.del, HS.out.gm.ok.delb⟩
            have hmkb := HS1.out.gm.ok.mkb
            unfold Mom at hmkb
            clear hst hrr he hsmr hri hat hcol hm2 hs9 hc9
            by_cases hlate : at1 < D1.mark
            · as_aux_lemma =>
              have hd1 : decide (at1 < D1.mark) = true := by simp [hlate]
              have HSTEP := Lib.hid (show offStep i (D1, lt, wt) row = (D1, lt ++ [row], wt) by unfold offStep; rw [if_pos (by rw [HAT.out]; exact hlate)])
              go_wp2_with fail
              refine (HCP.out wr (Below.refl _ _)).mono ?_
              rintro e w3 ⟨v3, rfl, o1, o2⟩
              have HS3 := Lib.hid (HS1.out.later o2)
              have hz3 : wr.heap.size ≤ w3.heap.size := o2.size
              have O1 := Lib.hid o1
              have O2 := Lib.hid o2
              obtain ⟨A3, c3, _, _, e3, _⟩ := o1.shape
              subst e3
              clear o1 o2 HCP hlate
              go_wp2_with (at_builtin; refine append_own2 w3 rfl (.tmp 83) (.tmp 86) 22 rfl base 31 underR infoR rfl (by decide) _ _ _ [.slice A3 row.length c3] rfl HS3.out.lown rfl rfl (by simp [Value.oneCell']) (by omega) (by decide) (by omega) ?_)
              intro v' w4 hown' hb4 hkept
              have hHi := GateS.high HS1.out
              have HS4 := Lib.hid (HS3.out.addLate (e := RE.mk (.slice A3 row.length c3) row) hown' hkept (O1.out.mono fun b hb _ => hHi b hb))
              have hext4 : Tab.Ext (fun b => base ≤ b) w w4 := hext.trans ((Tab.Ext.of_below O2.out).trans ⟨hb4.os, hb4.tape, hb4.output, Nat.le_of_lt (Nat.lt_of_le_of_lt hkept.size (Nat.lt_succ_self _)) |> fun _ => hkept.size, fun b hb h => hb4.block b (by omega)⟩)
              have HFR4 := Lib.hid (And.intro (HFR.out.late hext.size O2.out hkept) ((HNR.out.later O2.out).addLate (e := RE.mk (.slice A3 row.length c3) row) hkept (O1.out.mono fun b hb _ => ⟨by have := hext.size; omega, (hHi b hb).2⟩)))
              clear hown' hb4 hkept hHi
              go_wp2_with fail
              go_roundw
              case rel => exact ⟨k + 1, vw', _, ws', ls ++ [RE.mk (.slice A3 row.length c3) row], hlt, by go_num, rfl, hext4, Lib.hid (by
                rw [HTK.out, HSTEP.out]
                exact ⟨by simp only [rowsD, List.map_append]; rw [show List.map RE.row ls = lt from HST.out.1]; rfl, HST.out.2.1, HS4.out⟩), HFR4⟩
              case measure => simp [intOf] <;> omega
            · as_aux_lemma =>
              have hd1 : decide (at1 < D1.mark) = false := by simp; omega
              obtain ⟨m9, b9', hsi, _, _⟩ := own_cellsS HS1.out.gm.src HS1.out.gm.len hi
              have HSI := Lib.hid hsi
              have HSTEP := Lib.hid (show offStep i (D1, lt, wt) row = (advD (setSrc D1 i (max m9 (at1 - D.delay), b9')), lt, wt ++ [row]) by
                unfold offStep
                rw [if_neg (by rw [HAT.out]; exact hlate)]
                simp only [HAT.out, HC1.out.2]
                rw [hsi]
                rfl)
              obtain ⟨_, Aw, cw, ew, gw1, gw2, _⟩ := SL.of_own HS1.out.wown
              subst ew
              obtain ⟨N, hN⟩ : ∃ N, (ws ++ ws').length = N := ⟨_, rfl⟩
              rw [hN] at HS1 gw1 HFR HNR
              have hN30 : N < 1073741823 := by rw [← hN, List.length_append]; omega
              have HNN := Lib.hid hN
              clear hN
              have qg := wcell5 HS1.out.gm.blk
              rw [HC1.out.1, HC1.out.2] at qg
              have hm9 := HS1.out.gm.ok.srcs (m9, b9') (List.mem_of_getElem? hsi)
              have HM9 := Lib.hid hm9
              clear hsi hm9
              go_wp2_with fail
              have p0 := fun w' (h : Tab.Ext (fun _ => False) wr.drew w') => wcell5 (HS1.out.gm.blk.drew.ext h id)
              rw [HC1.out.1, HC1.out.2] at p0
              have HXW := Lib.hid (show ∀ w', Tab.Ext (fun _ => False) wr.drew w' → Below wr.heap.size wr w' from fun w' h => (Below.refl _ wr).drew.trans (h.below.mono (Nat.le_refl _)))
              refine Tab.wp_region_tab_tailZ 8 (Tab.Ext fun _ => False) _ 88 (.tmp 0) rfl rfl rfl rfl rfl (by kernel_rfl) (by kernel_rfl) (by kernel_rfl) (fun _ _ _ h => h) (by kernel_rfl) (by kernel_rfl) (by kernel_rfl) (fun _ => Tab.Ext.refl _ _) (fun _ _ _ h k => h.trans k) ?_
              iterate 6 (first | (refine Tab.tab_moveE _ rfl (Tab.silent_true _) (.inl rfl) rfl rfl (fun _ => Tab.Ext.refl _ _) ?_; apply Exists.intro; refine And.intro ?_ ?_; focus (simp [Tab.Env.ev, Tab.Env.get]; rfl)) | (refine Tab.tab_moveE _ rfl (Tab.silent_true _) (.inr rfl) rfl rfl (fun _ => Tab.Ext.refl _ _) ?_; apply Exists.intro; refine And.intro ?_ ?_; focus (simp [Tab.Env.ev, Tab.Env.get]; rfl)) | refine Tab.tab_skip rfl (Tab.silent_true _) rfl ?_ | (refine Tab.tab_repE rfl (Tab.silent_true _) rfl (fun _ _ h => by cases h) rfl (fun _ => Tab.Ext.refl _ _) ?_; apply Exists.intro; refine And.intro (fun l w' _ _ hw => ?_) ?_; focus (go_simp; rfl)) | (refine Tab.tab_repE rfl (Tab.silent_true _) rfl (fun _ _ h => by cases h) rfl (fun _ => Tab.Ext.refl _ _) ?_; apply Exists.intro; refine And.intro (fun l w' hs hc hw => ?_) ?_; focus (go_simp; rfl)))
              refine Tab.tab_callk (.ty fun v w' => RI w' (fun b => wr.heap.size ≤ b) v row) rfl (fun v w1 w2 hE hv => hv.ext hE (fun _ _ => id)) rfl rfl cfCopyRow rfl (fun l_ w' _ _ _ hw => ?_) ?_
              · show Calls _ _ #[.slice (some ⟨b9, o9, none⟩) row.length c1] w' _
                refine (HCP.out w' (HXW.out w' hw)).mono ?_
                rintro e_ w_ ⟨v', rfl, hri, hb_⟩
                exact ⟨v', rfl, hri.mono (fun b hb _ => Nat.le_trans (HXW.out w' hw).size hb), Tab.Ext.of_below hb_, trivial⟩
              refine Tab.tab_ty (.ty fun v w' => ∃ (p : Option Addr × Nat) (g' : Nat), v = .slice (some ⟨g', 0, none⟩) 1 1 ∧ wr.heap.size ≤ g' ∧ Blk w' g' 31 [.slice p.1 row.length p.2] ∧ RI w' (fun b => wr.heap.size ≤ b) (.slice p.1 row.length p.2) row) rfl (fun v w1 w2 hE ⟨p, g', e, hg, hb, hv⟩ => ⟨p, g', e, hg, hb.ext hE id, hv.ext hE (fun _ _ => id)⟩) rfl (fun listed a w' _ _ _ hw hx => ?_) ?_
              · have e18 : RI w' (fun b => wr.heap.size ≤ b) (a.eval (.tmp 94)) row := hx (.tmp 94) (by show Operand.tmp 94 ∈ #[Operand.tmp 94]; simp)
                have e19 : ∃ (p : Option Addr × Nat), a.eval (.tmp 94) = .slice p.1 row.length p.2 ∧ RI w' (fun b => wr.heap.size ≤ b) (.slice p.1 row.length p.2) row := by
                  obtain ⟨A9, c9, _, _, e9, _⟩ := e18.shape
                  exact ⟨(A9, c9), e9, e9 ▸ e18⟩
                have h20 := e19.choose_spec
                generalize e19.choose = p9 at h20
                have hr : ∀ p af gd, (execOp a.eval { dst := some 95, op := .buildSlice 22 1 #[(0, .tmp 94)], type := 22, pos := p, after := af, guard := gd }).run Tryz.prog w' = .ok (.value (.slice (some ⟨w'.heap.size, 0, none⟩) 1 1)) (w'.alloc (.cells #[.slice p9.1 row.length p9.2] 31)) := by
                  intro p af gd
                  have h21 := h20.1
                  clear hx h20 e18 e19 qg p0
                  generalize a.eval = ρ at *
                  go_simp
                unfold Oper.wp
                rw [hr]
                exact ⟨_, rfl, ⟨p9, _, rfl, (HXW.out w' hw).size, Blk.new _ _ _, h20.2.later (below_new _ _)⟩, Tab.Ext.of_below (below_new _ _), trivial⟩
              intro a_ w_ hw_ hsat_
              refine Tab.fin_of_sat rfl ?_ hsat_
              simp only [Tab.fin, Act.put, List.setIfInBounds_toArray, List.set_cons_succ, List.set_cons_zero, List.drop_succ_cons, List.drop_zero]
              intro v94 _ v95 ⟨p9, g', e95, hg', hblk, hri⟩
              subst e95
              have hw_b := HXW.out w_ hw_
              have HS3 := Lib.hid (HS1.out.later hw_b)
              have hz3 : wr.heap.size ≤ w_.heap.size := hw_b.size
              have HBLK := Lib.hid hblk
              have HRI3 := Lib.hid hri
              have HWB := Lib.hid hw_b
              have hHi := Lib.hid HS1.out.high
              clear hsat_ hw_ hblk hri HXW p0 HCP qg hw_b
              refine append_own3 w_ rfl (.tmp 92) (.tmp 95) 22 rfl base 31 underR infoR rfl (by decide) _ _ _ [.slice p9.1 row.length p9.2] rfl HS3.out.wown g' 0 1 1 rfl rfl (fun j u hj => ?_) (by simp [Value.oneCell']) (by rw [HNN.out]; omega) (by decide) (by omega) ?_
              · rw [Nat.zero_add, HBLK.out.cell]
                exact hj
              intro v' w4 hown' hb4 hkept
              obtain ⟨A5, n5, c5, ev⟩ : ∃ A n c, v' = .slice A n c := by
                rcases hown'.2 with ⟨e, _⟩ | ⟨_, _, _, e, _⟩ <;> exact ⟨_, _, _, e⟩
              subst ev
              have hbk : Blk w4 g 106 [.slice (some ⟨s, 0, none⟩) ns cap, .int .i64 D1.column, .int .i64 D1.delay, .int .i64 D1.mark, .slice Aw N cw] := (hkept.block g HS3.out.gm.blk.lt HS3.out.wg.1).1.trans HS3.out.gm.blk
              have HS5 := Lib.hid (HS3.out.addWait (e := RE.mk (.slice p9.1 row.length p9.2) row) hown' hkept (HRI3.out.mono fun b hb _ => hHi.out b hb) HMR.out)
              have q4 := wcell5 hbk
              have f4 := hbk.frozen 4
              have hgl4 := hbk.lt
              have HX5 := Lib.hid (show Tab.Ext (fun b => base ≤ b) w (w4.setCell ⟨g, 4, none⟩ (.slice A5 n5 c5)) from (hext.trans ((Tab.Ext.of_below HWB.out).trans ⟨hb4.os, hb4.tape, hb4.output, hkept.size, fun b hb h => hb4.block b (by omega)⟩)).setCell (p := ⟨g, 4, none⟩) (.inl HS.out.gm.bg) _)
              have HFR5 := Lib.hid (HFR.out.wait hext.size HWB.out hkept (.slice A5 n5 c5))
              have HNR5 := Lib.hid ((HNR.out.later HWB.out).addWait (e := RE.mk (.slice p9.1 row.length p9.2) row) hkept (HRI3.out.mono fun b hb _ => ⟨by have := hext.size; omega, (hHi.out b hb).2⟩))
              clear hown' hb4 hkept hbk
              go_wp2_with fail
              generalize hW5 : w4.setCell ⟨g, 4, none⟩ (.slice A5 n5 c5) = W5 at *
              clear hW5 q4 f4
              obtain ⟨m9', b9'', hsi2, y1, y2⟩ := own_cellsS HS5.out.gm.src HS5.out.gm.len hi
              have heq : (m9', b9'') = (m9, b9') := Option.some.inj (hsi2.symm.trans HSI.out)
              injection heq with heq1 heq2
              subst heq1
              subst heq2
              have z5 := wcell5 HS5.out.gm.blk
              rw [HC1.out.1, HC1.out.2] at z5
              have fz5 := HS5.out.gm.src.frozenAt (i * 2)
              have hsl5 := HS5.out.gm.bs.2
              clear hsi2
              have hwr := IntWalk.i64_in (at1 - D.delay) (by omega)
              have HMM := HM9.out
              unfold Mom at HMM
              have hmaxm : Mom (max m9' (at1 - D.delay)) := by unfold Mom; omega
              have HGS := Lib.hid (fun MX (hMX : MX = max m9' (at1 - D.delay)) => (show GateM (W5.drew.setCell ⟨s, i * 2, none⟩ (.int .i64 MX)) base g s cap ns (setSrc D1 i (MX, b9'')) (.slice A5 n5 c5) from GateM.setMark (w := W5.drew) (HS5.out.gm.keep rfl rfl) HSI.out MX (hMX ▸ hmaxm)))
              have HXs := Lib.hid (fun MX => ((Tab.Ext.refl (fun b => b = g ∨ b = s) W5).drew.setCell (p := ⟨s, i * 2, none⟩) (.inl (.inr rfl)) (.int .i64 MX)))
              clear hmaxm HMM
              obtain ⟨MX, HMX⟩ : ∃ MX, Hid (MX = max m9' (at1 - D.delay)) := ⟨_, Lib.hid rfl⟩
              have hmxe := HMX.out.symm
              refine Tab.wp_region_tabC (fun _ _ => True) (Tab.stageC 14 fun b_ w_' => w_' = if b_ = true then (W5.drew.setCell ⟨s, i * 2, none⟩ (.int .i64 MX)) else W5.drew) (by kernel_rfl) (by kernel_rfl) (fun _ => trivial) (fun _ _ _ _ _ => trivial) (Tab.stageC_start rfl) ?_
              iterate 14 (first | (refine Tab.tab_moveE _ rfl (Tab.silent_at (by decide)) (.inl rfl) rfl rfl (fun _ => trivial) ?_; apply Exists.intro; refine And.intro ?_ ?_; focus (simp [Tab.Env.ev, Tab.Env.get]; rfl)) | (refine Tab.tab_moveE _ rfl (Tab.silent_at (by decide)) (.inr rfl) rfl rfl (fun _ => trivial) ?_; apply Exists.intro; refine And.intro ?_ ?_; focus (simp [Tab.Env.ev, Tab.Env.get]; rfl)) | refine Tab.tab_skip rfl (Tab.silent_at (by decide)) rfl ?_ | (refine Tab.tab_repE rfl (Tab.silent_at (by decide)) rfl (fun _ _ h => by cases h) rfl (fun _ => trivial) ?_; apply Exists.intro; refine And.intro (fun l w' _ _ hw => ?_) ?_; focus (go_simp; rfl)) | (refine Tab.tab_repE rfl (Tab.silent_at (by decide)) rfl (fun _ _ h => by cases h) rfl (fun _ => trivial) ?_; apply Exists.intro; refine And.intro (fun l w' hs hc hw => ?_) ?_; focus (first | (go_simp; rfl) | (have h := Tab.stageC_before hc hs (by kernel_rfl); simp only [Bool.false_eq_true, if_false] at h; subst h; skip; go_simp; rfl))))
              (refine Tab.tab_act rfl rfl (fun _ _ h => by cases h) rfl (fun l w' hsz hs hc hw => ?_) ?_; focus (have h := Tab.stageC_at hc hs; simp only [Bool.false_eq_true, if_false] at h; subst h; refine ⟨(W5.drew.setCell ⟨s, i * 2, none⟩ (.int .i64 MX)), ?_, trivial, Tab.stageC_done (if_pos rfl).symm (by rw [hsz]; decide)⟩; skip; go_simp; done))
              intro l_ a_ w_ hall_ hcl_ _ hsat_
              have hw_ := Tab.stageC_end hcl_ hall_ (by decide)
              simp only [if_true] at hw_
              subst hw_
              refine Tab.fin_of_sat rfl ?_ hsat_
              simp only [Tab.fin, Act.put, List.setIfInBounds_toArray, List.set_cons_succ, List.set_cons_zero]
              go_wp2_with fail
              refine (advance_any _ base g s cap ns _ _ (HGS.out _ HMX.out) rfl).mono ?_
              rintro e w7 ⟨rfl, o1, o2⟩
              have HX7 := (HXs.out MX).trans (o2.mono fun b _ hb => .inl hb)
              have HS7 := Lib.hid (HS5.out.gate o1 (by rw [advD_column]; rfl) HX7)
              have hext7 := HX5.out.trans (HX7.mono fun b _ hb => by rcases hb with rfl | rfl; exact HS.out.gm.bg; exact HS.out.gm.bs.1)
              have HFR7 := Lib.hid (And.intro (HFR5.out.gate HX5.out.size HX7) (HNR5.out.gate HX7))
              clear o1 o2 HX7 y1 y2 z5 fz5 hmxe
              go_wp2_with fail
              go_roundw
              case rel => exact ⟨k + 1, _, _, ws' ++ [RE.mk (.slice p9.1 row.length p9.2) row], ls, hlt, by go_num, rfl, hext7, Lib.hid (by
                rw [HTK.out, HSTEP.out, ← HMX.out, ← List.append_assoc]
                exact ⟨HST.out.1, by simp only [rowsD, List.map_append]; rw [show List.map RE.row ws' = wt from HST.out.2.1]; rfl, HS7.out⟩), HFR7⟩
              case measure => simp [intOf] <;> omega
          · as_aux_lemma =>
            obtain rfl : k = n := by omega
            obtain ⟨_, Al, cl, e, g1, g2, _⟩ := SL.of_own HST.out.2.2.lown
            subst e
            have HCL := Lib.hid (fun W => clipR_any Al ls.length cl (SL.of_own HST.out.2.2.lown).none_zero g1 g2 W)
            go_wp2_with fail
            refine (HCL.out _).mono ?_
            rintro e w1 ⟨rfl, rfl⟩
            go_wp2_with fail
            go_ret2
            have htk : (rowsD l).take k = rowsD l := List.take_of_length_le (by rw [rowsD_len, HN.out]; omega)
            have hst := HST.out
            rw [htk] at hst
            refine ⟨⟨hext.os, hext.tape, hext.output, hext.size, HFR.out.blk⟩, .inr (.inr ⟨HIN.out, HERR.out, _, ls, vw', ws', rfl, ⟨((SL.of_ownB hst.2.2.lown).clip.mono fun b hb _ => HFR.out.nl b hb) |> fun h => by rw [List.length_map] at *; exact h, fun e he => (HNR.out e (.inr he)).mono fun b hb _ => hb.1⟩, by rw [Int.toNat_natCast]; exact hst.1, by rw [Int.toNat_natCast]; exact hst.2.2.drop, by rw [Int.toNat_natCast]; exact hst.2.1, HFR.out.nw, fun e he => (HNR.out e (.inl (he.elim id (fun h => absurd h (by simp))))).mono fun b hb _ => ⟨hb.1, fun hm => hb.2 (hm.elim .inl fun hm => hm.elim (fun e => .inr (.inl e)) fun hm => hm.elim (fun e => .inr (.inr (.inl e))) fun e => by simp [Value.ownBlock] at e)⟩⟩)⟩
end Go.Proofs.YthejmnmkbldacaaGreatDoor
