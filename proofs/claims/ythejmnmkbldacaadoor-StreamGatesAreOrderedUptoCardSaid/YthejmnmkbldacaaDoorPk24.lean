/-
  What is proved: Sum returns the canonical list of two lists of differences, or its error. Conditions: the tables of unicode/utf8 lie as they are laid; fewer than 2^22 differences, no list with 2^30 elements or more.
  What is proved: the law's own test of Sum answers true. Conditions: the tables of unicode/utf8 lie as they are laid.
  What is proved: the plain law of gates: what is released is in order, and no more than was offered. Conditions: none. No program in sight.
  What is proved: the law of ordered gates answers true (seat D alone). Conditions: the tables of unicode/utf8 lie as they are laid; no more than 2^20 rows are offered.
-/
import Derived.Test.YthejmnmkbldacaaDoorPk23
set_option linter.all false
namespace Go.Proofs.YthejmnmkbldacaaDoor
open Go.RowKit
attribute [local go_sem] Tab.Env.ev Tab.Env.get

/-- what Sum answers -/
def SumPost (l : List DE) (w : World) (e : Ending) (w' : World) : Prop :=
  (Below w.heap.size w w' ∧ e = .returned (.tuple #[.slice none 0 0, .int .i64 1]) ∧ allSound l = false) ∨ (allSound l = true ∧ SummedPost l w e w')
theorem SummedPost.from_ {l : List DE} {w w1 w' : World} {e : Ending} (h : SummedPost l w1 e w') (hb : Below w.heap.size w w1) : SummedPost l w e w' := by
  refine ⟨hb.trans (h.1.mono hb.size), ?_⟩
  rcases h.2 with h | ⟨v', out, l', h1, h2, h3, h4, h5, h6⟩
  · exact .inl h
  · exact .inr ⟨v', out, l', h1, h2, h3, h4, h5, h6.mono (fun b hb' _ => Nat.le_trans hb.size hb') (fun b hb' _ => Nat.le_trans hb.size hb')⟩
/-- two lists one behind the other -/
theorem RD.append {w : World} {base : Nat} {F1 F2 : Nat → Prop} {v : Value} {a b : List DE} (h : w.ownsRow base 39 2 v (a.length + b.length) (dcells a ++ dcells b)) (h1 : ∀ d, d ∈ a → d.good w F1) (h2 : ∀ d, d ∈ b → d.good w F2) : RD w (fun b => base ≤ b) (fun b => F1 b ∨ F2 b) v (a ++ b) := by
  refine ⟨by rw [dcells_append, List.length_append]; exact SL.of_own h, fun d hd => ?_⟩
  rcases List.mem_append.1 hd with hd | hd
  · exact ⟨(h1 d hd).row.mono fun b hb _ => .inl hb, (h1 d hd).n⟩
  · exact ⟨(h2 d hd).row.mono fun b hb _ => .inr hb, (h2 d hd).n⟩
theorem SmD.append {a b : List DE} (h1 : SmD a) (h2 : SmD b) : SmD (a ++ b) := fun d hd => (List.mem_append.1 hd).elim (h1 d) (h2 d)

set_option maxHeartbeats 1000000 in
theorem sum_any (F1 F1' F2 F2' : Nat → Prop) (va vb : Value) (a b : List DE) (w : World) (ha : RD w F1 F1' va a) (hb : RD w F2 F2' vb b) (hn : a.length + b.length < 4194304) (hsa : SmD a) (hsb : SmD b) (hT : Tabs w) :
    Calls Tryd.prog 33 #[va, vb] w (SumPost (a ++ b) w) := by
  obtain ⟨A1, c1, e1, -, -⟩ := rd_shape ha
  obtain ⟨A2, c2, e2, -, -⟩ := rd_shape hb
  have hbl := below_new w (.cells #[va, vb] 35)
  have HB := Lib.hid hbl
  have HCC := Lib.hid (concatD_any F1 F2 va vb (dcells a) (dcells b) a.length b.length w.heap.size (w.alloc (.cells #[va, vb] 35)) (Blk.new w _ _) (ha.sl.later hbl) (hb.sl.later hbl) (dcells_one ha.good) (dcells_one hb.good) (by omega))
  have HA := Lib.hid ha
  have HBB := Lib.hid hb
  have HS := Lib.hid (hsa.append hsb)
  have HT := Lib.hid hT
  rw [e1, e2] at HCC HB ⊢
  clear ha hb hsa hsb hT hbl e1 e2
  go_enter Tryd.func33, Tryd.ntmps33
  go_wp2_with fail
  refine HCC.out.mono ?_
  rintro e w1 ⟨v, rfl, hown, hb1⟩
  have hz : w.heap.size ≤ (w.alloc (.cells #[Value.slice A1 a.length c1, .slice A2 b.length c2] 35)).heap.size := HB.out.size
  have hbel := HB.out.trans (hb1.mono hz)
  have HRD := Lib.hid (RD.append hown (fun d hd => ⟨(HA.out.good d hd).row.later hbel, (HA.out.good d hd).n⟩) (fun d hd => ⟨(HBB.out.good d hd).row.later hbel, (HBB.out.good d hd).n⟩))
  have HSND := Lib.hid (soundS_any _ _ v (a ++ b) w1 HRD.out (by rw [List.length_append]; omega) (HT.out.later hbel))
  clear hown hb1 HCC
  go_wp2_with fail
  refine HSND.out.mono ?_
  rintro e w2 ⟨rfl, hb2⟩
  have hbel2 := hbel.trans (hb2.mono hbel.size)
  cases hs : allSound (a ++ b) with
  | false =>
    have HS0 := Lib.hid hs
    clear hs
    go_wp2_with fail
    go_ret2
    exact .inl ⟨hbel2, rfl, HS0.out⟩
  | true =>
    have HS0 := Lib.hid hs
    have HSM := Lib.hid (summed_any _ _ v (a ++ b) w2 (HRD.out.later hb2) (by rw [List.length_append]; omega) HS.out)
    clear hs hb2 HSND
    go_wp2_with fail
    refine HSM.out.mono ?_
    rintro e w3 hp
    have HP := Lib.hid (hp.from_ hbel2)
    rcases hp.2 with ⟨rfl, _⟩ | ⟨v', out, l', rfl, _⟩
    · clear hp
      go_wp2_with fail
      go_ret2
      exact .inr ⟨HS0.out, HP.out⟩
    · clear hp
      go_wp2_with fail
      go_ret2
      exact .inr ⟨HS0.out, HP.out⟩
end Go.Proofs.YthejmnmkbldacaaDoor

namespace Go.Proofs.YthejmnmkbldacaaDoor
open Go.RowKit
attribute [local go_sem] Tab.Env.ev Tab.Env.get

/-- a row of one number -/
def rowV (n : Int) : List VD := [.mk 2 n 0 .empty []]
theorem ri_row {w : World} {g : Nat} {n : Int} (hn : I64 n) (h : Blk w g 41 [.int .i64 2, .int .i64 n, .int .i64 0, .string .empty, .slice none 0 0]) : RI w (fun b => b = g) (.slice (some ⟨g, 0, none⟩) 1 1) (rowV n) := by
  have q := wcell5 h
  refine RI.mk (some ⟨g, 0, none⟩) 1 (rowV n) (fun _ => none) (fun _ => 0) (Nat.le_refl _) (by unfold maxLen; omega) (fun _ => ⟨g, 0, rfl, rfl, h.lt, fun i hi => ?_⟩) (fun i hi => ?_) (fun i hi => ?_)
  · obtain rfl : i = 0 := by simp [rowV] at hi; omega
    exact ⟨q.1, q.2.1, q.2.2.1, q.2.2.2.1, q.2.2.2.2⟩
  · obtain rfl : i = 0 := by simp [rowV] at hi; omega
    exact ⟨show I64 2 by unfold I64; decide, hn, show I64 0 by unfold I64; decide, Nat.zero_le _⟩
  · obtain rfl : i = 0 := by simp [rowV] at hi; omega
    exact RI.nil _ _

set_option maxHeartbeats 400000 in
theorem row_any (n : Int) (hn : I64 n) (w : World) :
    Calls Tryd.prog 34 #[.int .i64 n] w fun e w' => ∃ g, e = .returned (.slice (some ⟨g, 0, none⟩) 1 1) ∧ w.heap.size ≤ g ∧ RI w' (fun b => b = g) (.slice (some ⟨g, 0, none⟩) 1 1) (rowV n) ∧ Below w.heap.size w w' := by
  have HN := Lib.hid hn
  clear hn
  go_enter Tryd.func34, Tryd.ntmps34
  go_wp2_with fail
  go_ret
  exact ⟨_, rfl, Nat.le_refl _, ri_row HN.out (Blk.new _ _ _), below_new _ _⟩

theorem rowV_sound (n : Int) (h1 : -999999999999999999 ≤ n) (h2 : n ≤ 999999999999999999) : rowSound (rowV n) = true := by
  have hp : plainF 2 n 0 .empty 0 = true := by
    have : plainF 2 n 0 .empty 0 = plain2 n 0 .empty 0 := rfl
    rw [this]
    unfold plain2
    have hs : sEmpty .empty = true := by simp [sEmpty, ByteArray.toList, ByteArray.toList.loop]
    rw [hs]
    simp
    omega
  have hv : soundB (.mk 2 n 0 .empty []) = true := by
    unfold soundB
    rw [soundV_eq]
    have e : plainF (VD.mk 2 n 0 .empty []).k (VD.mk 2 n 0 .empty []).n (VD.mk 2 n 0 .empty []).sc (VD.mk 2 n 0 .empty []).s (VD.mk 2 n 0 .empty []).items.length = true := hp
    rw [e, if_neg (by simp [VD.k])]
    simp [VD.items, soundL]
  unfold rowSound rowV
  simp only [List.all_cons, List.all_nil, Bool.and_true]
  exact hv
theorem rowV_sm (n : Int) : ∀ x, x ∈ rowV n → smV x := fun x hx => by
  rw [List.mem_singleton.1 hx]
  exact ⟨by simp, trivial⟩

/-- the two differences -/
def sumsL (v1 v2 : Value) : List DE := [⟨v1, rowV 1, 1⟩] ++ [⟨v2, rowV 1, 2⟩]
theorem sumsL_out {v1 v2 : Value} {out : List DE} (h : Canon cmpD DE.n setN (sumsL v1 v2) out) : ∃ d, out = [d] ∧ d.n = 3 := by
  have hz : ∀ x, x ∈ out → x.row = rowV 1 := fun x hx => by
    obtain ⟨e, he, h1⟩ := h.mem x hx
    rw [h1]
    simp only [sumsL, List.singleton_append, List.mem_cons, List.mem_nil_iff, or_false] at he
    rcases he with rfl | rfl <;> rfl
  have hself := cmpD_ord.self (DE.mk v1 (rowV 1) 1)
  have hc : ∀ x y, x ∈ out → y ∈ out → cmpD x y = 0 := fun x y hx hy => by
    unfold cmpD
    rw [hz x hx, hz y hy]
    exact hself
  have ht := h.tot ⟨v1, rowV 1, 1⟩
  have e3 : tot cmpD DE.n (DE.mk v1 (rowV 1) 1) (sumsL v1 v2) = 3 := by
    have e1 : cmpD (DE.mk v2 (rowV 1) 2) (DE.mk v1 (rowV 1) 1) = 0 := hself
    simp only [sumsL, List.singleton_append, tot]
    rw [if_pos hself, if_pos e1]
    rfl
  rw [e3] at ht
  match out, h.strict, hc, hz, ht with
  | [], _, _, _, ht => simp [tot] at ht
  | [d], _, _, hz, ht =>
    refine ⟨d, rfl, ?_⟩
    have e1 : cmpD d (DE.mk v1 (rowV 1) 1) = 0 := by
      unfold cmpD
      rw [hz d (by simp)]
      exact hself
    simp only [tot] at ht
    rw [if_pos e1] at ht
    omega
  | a :: b :: l, hst, hc, _, _ =>
    have h1 := (List.pairwise_cons.1 hst).1 b (by simp)
    have h2 := hc a b (by simp) (by simp)
    omega

/-- one difference in a block *of* its own -/
theorem rd_one {w : World} {g : Nat} {rv : Value} {row : List VD} {n : Int} {F : Nat → Prop} (h : Blk w g 39 [rv, .int .i64 n]) (hr : RI w F rv row) (hn : I64 n) : RD w (fun b => b = g) F (.slice (some ⟨g, 0, none⟩) 1 1) [⟨rv, row, n⟩] :=
  ⟨⟨rfl, _, 1, rfl, Nat.le_refl _, by unfold maxLen; omega, fun _ => ⟨g, 0, rfl, rfl, h.lt, fun j u hj => by rw [Nat.zero_add, h.cell]; exact hj⟩⟩, fun d hd => by
    rw [List.mem_singleton.1 hd]
    exact ⟨hr, hn⟩⟩

set_option maxHeartbeats 1000000 in
theorem sums_any (w : World) (hT : Tabs w) :
    Calls Tryd.prog 8 #[] w fun e w' => e = .returned (.bool true) ∧ Below w.heap.size w w' := by
  have HT := Lib.hid hT
  have HR := Lib.hid (fun W => row_any 1 (by unfold I64; decide) W)
  clear hT
  go_enter Tryd.func8, Tryd.ntmps8
  go_wp2_with fail
  refine (HR.out _).mono ?_
  rintro e w1 ⟨g1, rfl, hg1, hri1, hb1⟩
  have HRI1 := Lib.hid hri1
  have HB1 := Lib.hid hb1
  clear hri1 hb1
  go_wp2_with fail
  refine (HR.out _).mono ?_
  rintro e w2 ⟨g2, rfl, hg2, hri2, hb2⟩
  have HRI2 := Lib.hid hri2
  have b1 := ((Blk.new w1 39 [.slice (some ⟨g1, 0, none⟩) 1 1, .int .i64 1]).below hb2 (Blk.new w1 39 [.slice (some ⟨g1, 0, none⟩) 1 1, .int .i64 1]).lt)
  have hbn := below_new w2 (.cells #[.slice (some ⟨g2, 0, none⟩) 1 1, .int .i64 2] 39)
  have hb12 := (below_new w1 (.cells #[.slice (some ⟨g1, 0, none⟩) 1 1, .int .i64 1] 39)).trans (hb2.mono (below_new w1 (.cells #[.slice (some ⟨g1, 0, none⟩) 1 1, .int .i64 1] 39)).size)
  have RD1 := Lib.hid ((rd_one b1 (HRI1.out.later hb12) (show I64 1 by unfold I64; decide)).later hbn)
  have RD2 := Lib.hid (rd_one (Blk.new w2 39 [.slice (some ⟨g2, 0, none⟩) 1 1, .int .i64 2]) (HRI2.out.later hbn) (show I64 2 by unfold I64; decide))
  have hball := HB1.out.trans ((hb12.trans (hbn.mono hb12.size)).mono HB1.out.size)
  have HBA := Lib.hid hball
  have HS := Lib.hid (sum_any _ _ _ _ _ _ _ _ _ RD1.out RD2.out (by simp) (fun d hd => by rw [List.mem_singleton.1 hd]; exact ⟨by simp [rowV], rowV_sm 1⟩) (fun d hd => by rw [List.mem_singleton.1 hd]; exact ⟨by simp [rowV], rowV_sm 1⟩) (HT.out.later hball))
  clear hri2 hb2 b1 hbn hb12 hball
  go_wp2_with fail
  refine HS.out.mono ?_
  rintro e w3 (⟨_, rfl, h⟩ | ⟨_, hb3, h⟩)
  · exfalso
    simp only [allSound, List.singleton_append, List.all_cons, List.all_nil, Bool.and_true] at h
    rw [rowV_sound 1 (by decide) (by decide)] at h
    exact absurd h (by decide)
  · rcases h with ⟨rfl, h | ⟨out, hc, h⟩⟩ | ⟨v', out, l', rfl, _, hc, _, hsd, hrd⟩
    · exfalso
      simp only [rangedB, List.singleton_append, List.all_cons, List.all_nil, Bool.and_true] at h
      exact absurd h (by decide)
    · obtain ⟨d, rfl, hd⟩ := sumsL_out hc
      exfalso
      simp only [rangedB, List.all_cons, List.all_nil, Bool.and_true, hd] at h
      exact absurd h (by decide)
    · obtain ⟨d, rfl, hd⟩ := sumsL_out hc
      have hl1 : l'.length = 1 := by
        have := congrArg List.length hsd
        simpa using this
      obtain ⟨d', rfl⟩ : ∃ d', l' = [d'] := by
        match l', hl1 with
        | [x], _ => exact ⟨x, rfl⟩
      have hn : d'.n = 3 := by
        have : (d'.row, d'.n) = (d.row, d.n) := by simpa [SameD] using hsd
        rw [← hd]
        exact congrArg Prod.snd this
      obtain ⟨b, off, c, A, m, c', row, k, rfl, hc1, hc2, hb, he, -, q1, q2⟩ := hrd.at_ (i := 0) (by simp)
      have hk : k = 3 := by rw [← hn]; exact (congrArg DE.n he).symm
      subst hk
      have HB3 := Lib.hid (HBA.out.trans (hb3.mono HBA.out.size))
      clear hrd hc hd he hn hsd hb3 HS
      go_wp2_with fail
      go_ret
      exact ⟨rfl, HB3.out⟩
end Go.Proofs.YthejmnmkbldacaaDoor

namespace Go.Proofs.YthejmnmkbldacaaDoor
open Go.RowKit

structure LawI (D : GateD) (ws : List RE) (col : Int) (count seen : Nat) (last : Int) : Prop where
  hcol : D.column = col
  hsum : seen + ws.length ≤ count
  hlast : last ≤ D.mark
  ge : ∀ e, e ∈ ws → last ≤ atOf col e.row
  mom : Mom last

theorem offStep_inv (i : Nat) (last : Int) (st : GateD × List (List VD) × List (List VD)) (r : List VD) (h : last ≤ st.1.mark) : st.1.mark ≤ (offStep i st r).1.mark ∧ ∀ x, x ∈ (offStep i st r).2.2 → x ∈ st.2.2 ∨ last ≤ atOf st.1.column x := by
  unfold offStep
  split
  · exact ⟨Int.le_refl _, fun x hx => .inl hx⟩
  · rename_i hc
    refine ⟨advD_mark (setSrc st.1 i _), fun x hx => ?_⟩
    rcases List.mem_append.1 hx with hx | hx
    · exact .inl hx
    · rw [List.mem_singleton.1 hx]
      right
      omega
theorem offAll_inv (i : Nat) (last : Int) : ∀ (l : List (List VD)) (st : GateD × List (List VD) × List (List VD)), last ≤ st.1.mark → st.1.mark ≤ (offAll i st l).1.mark ∧ ∀ x, x ∈ (offAll i st l).2.2 → x ∈ st.2.2 ∨ last ≤ atOf st.1.column x
  | [], st, _ => ⟨Int.le_refl _, fun x hx => .inl hx⟩
  | r :: l, st, h => by
    have h1 := offStep_inv i last st r h
    have h2 := offAll_inv i last l (offStep i st r) (Int.le_trans h h1.1)
    refine ⟨Int.le_trans h1.1 h2.1, fun x hx => ?_⟩
    rcases h2.2 x hx with k | k
    · exact h1.2 x k
    · rw [(offStep_column i st r).1] at k
      exact .inr k
section
variable {D : GateD} {ws ws' ls : List RE} {col : Int} {count seen : Nat} {last : Int}
theorem LawI.offer (h : LawI D ws col count seen last) (i : Nat) (l : List (List VD)) (hw : rowsD ws' = (offAll i (offBegin D i, [], []) l).2.2) (hl : rowsD ls = (offAll i (offBegin D i, [], []) l).2.1) :
    LawI (offAll i (offBegin D i, [], []) l).1 (ws ++ ws') col (count + l.length) (seen + ls.length) last ∧ D.mark ≤ (offAll i (offBegin D i, [], []) l).1.mark := by
  have hb : D.mark ≤ (offBegin D i).mark := advD_mark (setSrc D i _)
  have h1 := offAll_inv i last l (offBegin D i, [], []) (Int.le_trans h.hlast hb)
  have h2 := offAll_column i l (offBegin D i, [], [])
  have h3 := offAll_len i l (offBegin D i, [], [])
  have h4 := congrArg List.length hw
  have h5 := congrArg List.length hl
  rw [rowsD_len] at h4 h5
  have hc : (offBegin D i).column = D.column := (offBegin_column D i).1
  have hsum := h.hsum
  have hlast := h.hlast
  have hm := h1.1
  simp only [List.length_nil, Nat.zero_add] at h3 hm
  refine ⟨⟨h2.1.trans (hc.trans h.hcol), by rw [List.length_append]; omega, by omega, fun e he => ?_, h.mom⟩, by omega⟩
  rcases List.mem_append.1 he with he | he
  · exact h.ge e he
  · have : e.row ∈ rowsD ws' := List.mem_map.2 ⟨e, he, rfl⟩
    rw [hw] at this
    rcases h1.2 _ this with k | k
    · exact absurd k (by simp)
    · rw [show ((offBegin D i, ([] : List (List VD)), ([] : List (List VD))).1).column = col from hc.trans h.hcol] at k
      exact k
theorem LawI.idle (h : LawI D ws col count seen last) (i : Nat) : LawI (idleD D i) ws col count seen last ∧ D.mark ≤ (idleD D i).mark := by
  unfold idleD
  split
  · rename_i s0 _
    have hb : D.mark ≤ (advD (setSrc D i (s0.1, true))).mark := advD_mark (setSrc D i (s0.1, true))
    exact ⟨⟨(advD_column _).trans h.hcol, h.hsum, Int.le_trans h.hlast hb, h.ge, h.mom⟩, hb⟩
  · exact ⟨h, Int.le_refl _⟩
theorem rel_len (D : GateD) (ws : List RE) : (relOut D ws).length + (relKeep D ws).length = ws.length := by
  unfold relOut relKeep
  induction ws with
  | nil => rfl
  | cons e l ih =>
    cases h : relP D e <;> simp [h] <;> omega
theorem LawI.release (h : LawI D ws col count seen last) (hm : Mom D.mark) : LawI D (relKeep D ws) col count (seen + (relOut D ws).length) D.mark := by
  have h1 := rel_len D ws
  have h2 := h.hsum
  refine ⟨h.hcol, by omega, Int.le_refl _, fun e he => ?_, hm⟩
  have := (List.mem_filter.1 he).2
  simp only [relP, Bool.not_eq_true', decide_eq_false_iff_not] at this
  rw [h.hcol] at this
  omega
theorem relOut_keep (D : GateD) (ws : List RE) : relOut D (relKeep D ws) = [] := by
  unfold relOut relKeep
  rw [List.filter_eq_nil_iff]
  intro e he
  have := (List.mem_filter.1 he).2
  simpa using this
theorem relKeep_keep (D : GateD) (ws : List RE) : relKeep D (relKeep D ws) = relKeep D ws := by
  unfold relKeep
  rw [List.filter_filter]
  congr 1
  funext e
  simp
theorem sumN_ones (l : List RE) : sumN DE.n (onesOf l) = l.length := by
  induction l with
  | nil => rfl
  | cons e l ih =>
    have : onesOf (e :: l) = ⟨e.rv, e.row, 1⟩ :: onesOf l := rfl
    rw [this]
    simp only [sumN, ih, List.length_cons]
    omega
theorem tot_ones_nonneg (r : DE) (l : List RE) : 0 ≤ tot cmpD DE.n r (onesOf l) := by
  induction l with
  | nil => exact Int.le_refl _
  | cons e l ih =>
    have : onesOf (e :: l) = ⟨e.rv, e.row, 1⟩ :: onesOf l := rfl
    rw [this]
    simp only [tot]
    split <;> omega
theorem tot_ones_pos (r : DE) {l : List RE} {d : DE} (hd : d ∈ onesOf l) (hc : cmpD d r = 0) : 1 ≤ tot cmpD DE.n r (onesOf l) := by
  induction l with
  | nil => cases hd
  | cons e l ih =>
    have e1 : onesOf (e :: l) = ⟨e.rv, e.row, 1⟩ :: onesOf l := rfl
    rw [e1] at hd ⊢
    have h0 := tot_ones_nonneg r l
    simp only [tot]
    rcases List.mem_cons.1 hd with rfl | hd
    · rw [if_pos hc]
      show 1 ≤ (1 : Int) + _
      omega
    · have := ih hd
      split <;> omega
/-- what is released -/
theorem out_facts {out : List DE} (h : Canon cmpD DE.n setN (onesOf (relOut D ws)) out) (hi : LawI D ws col count seen last) (hm : ∀ e, e ∈ ws → MomRow D.column e.row) :
    (∀ d, d ∈ out → 1 ≤ d.n ∧ MomRow col d.row ∧ last ≤ atOf col d.row ∧ atOf col d.row < D.mark) ∧ sumN DE.n out = (relOut D ws).length := by
  refine ⟨fun d hd => ?_, by rw [h.sum, sumN_ones]⟩
  obtain ⟨e, he, h1⟩ := h.mem d hd
  have hrow : d.row = e.row := by rw [h1]; rfl
  obtain ⟨x, hx, rfl⟩ := List.mem_map.1 he
  have hxw := (List.mem_filter.1 hx).1
  have hxp := (List.mem_filter.1 hx).2
  simp only [relP, decide_eq_true_eq] at hxp
  rw [hi.hcol] at hxp
  have hmx := hm x hxw
  rw [hi.hcol] at hmx
  rw [hrow]
  refine ⟨?_, hmx, hi.ge x hxw, hxp⟩
  have h2 := tot_strict (n := DE.n) cmpD_ord h.strict hd
  rw [h.tot d] at h2
  have h3 := tot_ones_pos d he (by unfold cmpD; rw [hrow]; exact cmpD_ord.self ⟨x.rv, x.row, 1⟩)
  omega
theorem out_nil {out : List DE} (h : Canon cmpD DE.n setN (onesOf ([] : List RE)) out) : out = [] := by
  match out, h.mem with
  | [], _ => rfl
  | d :: l, hm =>
    obtain ⟨e, he, _⟩ := hm d (by simp)
    cases he
theorem sumN_take_bound {out : List DE} (h : ∀ d, d ∈ out → 1 ≤ d.n) (k : Nat) : 0 ≤ sumN DE.n (out.take k) ∧ sumN DE.n (out.take k) ≤ sumN DE.n out := by
  have hn : ∀ l : List DE, (∀ d, d ∈ l → 1 ≤ d.n) → 0 ≤ sumN DE.n l := fun l => by
    induction l with
    | nil => intro _; exact Int.le_refl _
    | cons d l ih =>
      intro h
      have h1 := h d (by simp)
      have h2 := ih fun x hx => h x (List.mem_cons_of_mem _ hx)
      simp only [sumN]
      omega
  have h1 := hn (out.take k) fun d hd => h d (List.mem_of_mem_take hd)
  have h2 := hn (out.drop k) fun d hd => h d (List.mem_of_mem_drop hd)
  have h3 : sumN DE.n out = sumN DE.n (out.take k) + sumN DE.n (out.drop k) := by
    rw [← sumN_append, List.take_append_drop]
  omega
theorem rowsIn_take (l : List OpE) {k : Nat} (h : k < l.length) : rowsIn (l.take (k + 1)) = rowsIn (l.take k) + (dat l k).rows.length := by
  rw [List.take_succ_eq_append_getElem h, ← dat_eq h]
  unfold rowsIn
  rw [List.map_append, List.sum_append]
  simp
theorem rowsIn_le (l : List OpE) (k : Nat) : rowsIn (l.take k) ≤ rowsIn l := by
  have : rowsIn l = rowsIn (l.take k) + rowsIn (l.drop k) := by
    unfold rowsIn
    rw [← List.sum_append, ← List.map_append, List.take_append_drop]
  omega
end
end Go.Proofs.YthejmnmkbldacaaDoor

namespace Go.Proofs.YthejmnmkbldacaaDoor
open Go.RowKit
theorem wcell3' {w : World} {g : Nat} {t : TypeId} {a b c : Value} (h : Blk w g t [a, b, c]) : w.cell? ⟨g, 0, none⟩ = some a ∧ w.cell? ⟨g, 1, none⟩ = some b ∧ w.cell? ⟨g, 2, none⟩ = some c := ⟨h.cell 0, h.cell 1, h.cell 2⟩
theorem GateS.one {w : World} {base g s cap ns : Nat} {D : GateD} {vw vl : Value} {ws ls : List RE} (h : GateS w base g s cap ns D vw ws vl ls) : vw.oneCell' = true := by
  rcases h.wown.2 with ⟨e, _⟩ | ⟨_, _, _, e, _⟩ <;> rw [e] <;> rfl
theorem GateS.mutBase {w : World} {base g s cap ns : Nat} {D : GateD} {vw vl : Value} {ws ls : List RE} (h : GateS w base g s cap ns D vw ws vl ls) (b : Nat) (hm : Mut g s vw (.slice none 0 0) b) : base ≤ b := by
  rcases hm with e | e | e | e
  · rw [e]; exact h.gm.bg
  · rw [e]; exact h.gm.bs.1
  · exact (h.wown.lt b e).1
  · simp [Value.ownBlock] at e
attribute [local go_sem] Tab.Env.ev Tab.Env.get

theorem below_of_ext {w w' : World} (h : Tab.Ext (fun b => w.heap.size ≤ b) w w') : Below w.heap.size w w' := ⟨h.os, h.tape, h.output, h.size, fun b hb => h.block b hb (by omega)⟩
theorem OpsI.ext {w w' : World} {v : Value} {l : List OpE} (h : OpsI w v l) (hb : Below w.heap.size w w') : OpsI w' v l := by
  obtain ⟨A, c, e, h1, h2, h3⟩ := h.shape
  refine ⟨⟨A, c, e, h1, h2, fun i hi => ?_⟩, fun o ho => ((h.rows o ho).later hb).mono (fun b hb' _ => Nat.lt_of_lt_of_le hb' hb.size) (fun b hb' _ => Nat.lt_of_lt_of_le hb' hb.size)⟩
  obtain ⟨b, off, e, hlt, c0, c1, c2⟩ := h3 i hi
  have k : ∀ j, w'.cell? ⟨b, j, none⟩ = w.cell? ⟨b, j, none⟩ := fun j => World.cell?_of_block (w := w) (a := ⟨b, j, none⟩) (hb.block b hlt)
  exact ⟨b, off, e, Nat.lt_of_lt_of_le hlt hb.size, (k _).trans c0, (k _).trans c1, (k _).trans c2⟩

set_option maxHeartbeats 3000000 in
set_option maxRecDepth 100000 in
theorem law_any (sources column delay : Int) (v : Value) (l : List OpE) (w : World) (hc : I64 column) (hl : OpsI w v l) (hT : Tabs w) (hTb : 4 < w.heap.size ∧ 5 < w.heap.size)
    (hn : rowsIn l ≤ 1048576) (hsm : ∀ o, o ∈ l → smR o.rows) :
    Calls Tryd.prog 3 #[.int .i64 sources, .int .i64 column, .int .i64 delay, v] w fun e w' => e = .returned (.bool true) ∧ Below w.heap.size w w' := by
  have HT := Lib.hid hT
  have HL := Lib.hid hl
  have HSM := Lib.hid hsm
  have HTB := Lib.hid hTb
  have HNR := Lib.hid hn
  obtain ⟨A, c, rfl, hc1, hc2, hcells⟩ := hl.shape
  unfold maxLen at hc2
  have HCE := Lib.hid hcells
  obtain ⟨n, hln⟩ : ∃ n, l.length = n := ⟨_, rfl⟩
  have HN := Lib.hid hln
  rw [hln] at hc1 ⊢
  have HNG := Lib.hid (fun W => newGate_any sources column delay hc W)
  clear hT hl hsm hTb hn hln hcells
  go_enter Tryd.func3, Tryd.ntmps3
  go_wp2_with fail
  refine (HNG.out _).mono ?_
  rintro e w1 ⟨hb1, (⟨_, rfl⟩ | ⟨hok, g, s, cap, rfl, hgm⟩)⟩
  · have HB1 := Lib.hid hb1
    go_wp2_with fail
    refine (sums_any _ (HT.out.later HB1.out)).mono ?_
    rintro e w2 ⟨rfl, hb2⟩
    have HB2 := Lib.hid (HB1.out.trans (hb2.mono HB1.out.size))
    clear hb2
    go_wp2_with fail
    go_ret
    exact ⟨rfl, HB2.out⟩
  · have HB1 := Lib.hid hb1
    have HGM := Lib.hid hgm
    have HOK := Lib.hid hok
    clear hb1 hgm
    obtain ⟨cn, rfl⟩ : ∃ cn : Nat, column = cn := ⟨column.toNat, by have := hok.2.1; omega⟩
    clear hok
    go_wp2_with fail
    refine (sums_any _ (HT.out.later HB1.out)).mono ?_
    rintro e w2 ⟨rfl, hb2⟩
    have HB2 := Lib.hid (HB1.out.trans (hb2.mono HB1.out.size))
    have HS := Lib.hid (show GateS w2 w.heap.size g s cap sources.toNat (newD sources cn delay) (.slice none 0 0) [] (.slice none 0 0) [] from
      ⟨HGM.out.keep (hb2.block g HGM.out.blk.lt) (hb2.block s HGM.out.bs.2), World.ownsRow_nil _ _ _ _, World.ownsRow_nil _ _ _ _, fun _ _ => by simp [Value.ownBlock], fun e he => by rcases he with he | he <;> exact absurd he (by simp), fun e he => absurd he (by simp)⟩)
    clear hb2
    go_wp2_with fail
    go_loopw [8, 11, 12, 13, 15, 16, 17, 18, 20, 21, 35] (fun _ cv sv lv _ _ _ _ _ _ j wr => ∃ (k count seen : Nat) (last : Int) (D : GateD) (vw : Value) (ws : List RE), k ≤ n ∧ j = .int .i64 k ∧ cv = .int .i64 count ∧ sv = .int .i64 seen ∧ lv = .int .i64 last ∧
      Hid (LawI D ws cn count seen last ∧ count ≤ rowsIn (l.take k) ∧ D.column = cn ∧ GateS wr w.heap.size g s cap sources.toNat D vw ws (.slice none 0 0) []) ∧ Tab.Ext (fun b => w.heap.size ≤ b) w wr) (fun _ _ _ _ _ _ _ _ _ _ j _ => n - (intOf j).toNat)
    case atStart => exact ⟨0, 0, 0, -62135596800, newD sources cn delay, .slice none 0 0, [], Nat.zero_le _, rfl, rfl, rfl, rfl, Lib.hid ⟨⟨rfl, Nat.le_refl _, Int.le_refl _, fun e he => absurd he (by simp), by unfold Mom; decide⟩, Nat.zero_le _, rfl, HS.out⟩, Tab.Ext.of_below HB2.out⟩
    case round =>
      obtain ⟨k, count, seen, last, D, vw, ws, hk, rfl, rfl, rfl, rfl, HI, hext⟩ := hrel
      have hcb : count ≤ 1048576 := Nat.le_trans HI.out.2.1 (Nat.le_trans (rowsIn_le l k) HNR.out)
      have hsb := HI.out.1.hsum
      by_cases hlt : k < n
      · as_aux_lemma =>
        have hbel := below_of_ext hext
        have hki : k < l.length := by rw [HN.out]; exact hlt
        obtain ⟨b, off, rfl, hb, c0, c1, c2⟩ := HCE.out k hki
        have kk : ∀ j, wr.cell? ⟨b, j, none⟩ = w.cell? ⟨b, j, none⟩ := fun j => World.cell?_of_block (w := w) (a := ⟨b, j, none⟩) (hbel.block b hb)
        have HRW := Lib.hid (HL.out.rows (dat l k) (dat_mem hki))
        have HSR := Lib.hid (HSM.out (dat l k) (dat_mem hki))
        have HTK := Lib.hid (rowsIn_take l hki)
        generalize dat l k = o at *
        obtain ⟨kd, sr, rv, rows⟩ := o
        simp only at c0 c1 c2 HRW HSR HTK
        obtain ⟨_, A2, c2', e2, hm1, hm2, _⟩ := HRW.out.sl
        subst e2
        unfold maxLen at hm2
        rw [← kk] at c0 c1 c2
        clear kk
        have HX := Lib.hid hext
        have HBL := Lib.hid hbel
        have hz : w.heap.size ≤ wr.heap.size := hbel.size
        clear hext hbel
        go_wp2_with fail
        have bo := Blk.new wr 30 [.int .i64 kd, .int .i64 sr, .slice A2 rows.length c2']
        have HS0 := Lib.hid (HI.out.2.2.2.later (below_new wr (.cells #[.int .i64 kd, .int .i64 sr, .slice A2 rows.length c2'] 30)))
        have HX0 := Lib.hid (HX.out.trans (Tab.Ext.of_below (below_new wr (.cells #[.int .i64 kd, .int .i64 sr, .slice A2 rows.length c2'] 30))))
        have hzz : ¬ Mut g s vw (.slice none 0 0) wr.heap.size := (HI.out.2.2.2.high _ (Nat.le_refl _)).2
        have hzg : ¬ (wr.heap.size = g ∨ wr.heap.size = s) := fun e => hzz (e.elim .inl fun e => .inr (.inl e))
        have HLI := Lib.hid (And.intro HI.out.1 HI.out.2.1)
        have HDC := Lib.hid HI.out.2.2.1
        change Calls _ _ _ (wr.alloc (.cells #[.int .i64 kd, .int .i64 sr, .slice A2 rows.length c2'] 30)) _
        clear HI c0 c1 c2
        generalize wr.alloc (.cells #[.int .i64 kd, .int .i64 sr, .slice A2 rows.length c2'] 30) = W0 at *
        generalize wr.heap.size = z at *
        have q0 := wcell3' bo
        have hz0 : w.heap.size ≤ W0.heap.size := HX0.out.size
        have HBO := Lib.hid bo
        clear bo
        refine (mark_any _ _ _ _ _ _ _ _ HS0.out.gm).mono ?_
        rintro e W1 ⟨rfl, rfl⟩
        have hmb := HS0.out.gm.ok.mkb
        unfold Mom at hmb
        by_cases h0 : kd = 0
        · as_aux_lemma =>
          subst h0
          have HOF := Lib.hid (offer_any W0 w.heap.size g s cap sources.toNat D vw ws HS0.out (HT.out.later (below_of_ext HX0.out)) HTB.out hz0 _ _ (.slice A2 rows.length c2') rows (HRW.out.later (below_of_ext HX0.out)) (fun b h => h) (fun b h => h) (by have := HTK.out; have := rowsIn_le l (k + 1); have := HNR.out; omega) HSR.out sr)
          go_wp2_with fail
          refine HOF.out.mono ?_
          rintro e W2 ⟨hx2, (⟨_, rfl, hs2⟩ | ⟨_, hne, rfl, hs2⟩ | ⟨_, _, vl, ls, vw', ws', rfl, hrr, hls, hs2, hws⟩)⟩
          · have HX2 := Lib.hid (HX0.out.trans (hx2.mono fun b _ hb => HS0.out.mutBase b hb))
            have HS2 := Lib.hid hs2
            clear hx2 hs2 HOF
            go_wp2_with fail
            go_roundw
            case rel => exact ⟨k + 1, count, seen, last, D, vw, ws, hlt, by go_num, rfl, rfl, rfl, Lib.hid ⟨HLI.out.1, by have := HTK.out; have := HLI.out.2; omega, HDC.out, HS2.out⟩, HX2.out⟩
            case measure => simp [intOf] <;> omega
          · have HX2 := Lib.hid (HX0.out.trans (hx2.mono fun b _ hb => HS0.out.mutBase b hb))
            have HS2 := Lib.hid hs2
            have hd : (rowsErr D.column (rowsD rows) != 0) = true := by simp [hne]
            clear hx2 hs2 HOF
            generalize rowsErr D.column (rowsD rows) = er at *
            go_wp2_with fail
            go_roundw
            case rel => exact ⟨k + 1, count, seen, last, D, vw, ws, hlt, by go_num, rfl, rfl, rfl, Lib.hid ⟨HLI.out.1, by have := HTK.out; have := HLI.out.2; omega, HDC.out, HS2.out⟩, HX2.out⟩
            case measure => simp [intOf] <;> omega
          · have HX2 := Lib.hid (HX0.out.trans (hx2.mono fun b _ hb => HS0.out.mutBase b hb))
            have HS2 := Lib.hid hs2
            have HL2 := Lib.hid (HLI.out.1.offer sr.toNat (rowsD rows) hws hls)
            have q2 := wcell3' (HBO.out.ext hx2 hzz)
            obtain ⟨_, A3, c3, e3, hv1, hv2, _⟩ := hrr.sl
            subst e3
            unfold maxLen at hv2
            generalize (offAll sr.toNat (offBegin D sr.toNat, [], []) (rowsD rows)).1 = D2 at *
            have hr1 : count + rows.length ≤ 1048576 := by have := HTK.out; have := rowsIn_le l (k + 1); have := HNR.out; have := HLI.out.2; omega
            have hr2 : seen + ls.length ≤ count + rows.length := by have := HL2.out.1.hsum; rw [rowsD_len] at this; omega
            have hw1 := IntWalk.i64_in ((count : Int) + rows.length) (by omega)
            have hw2 := IntWalk.i64_in ((seen : Int) + ls.length) (by omega)
            have hd : decide (D2.mark < D.mark) = false := by have := HL2.out.2; simp; omega
            clear hx2 hs2 HOF hrr hls hws
            go_wp2_with fail
            refine (mark_any _ _ _ _ _ _ _ _ HS2.out.gm).mono ?_
            rintro e W3 ⟨rfl, rfl⟩
            go_wp2_with fail
            go_roundw
            case rel => exact ⟨k + 1, count + rows.length, seen + ls.length, last, D2, vw', ws ++ ws', hlt, by go_num, by go_num, by go_num, rfl, Lib.hid ⟨by have := HL2.out.1; rw [rowsD_len] at this; exact this, by have := HTK.out; have := HLI.out.2; omega, HL2.out.1.hcol, HS2.out⟩, HX2.out⟩
            case measure => simp [intOf] <;> omega
        · have hd0 : (kd == 0) = false := by simp [h0]
          have hdm : decide (D.mark < D.mark) = false := by simp
          have hcnt : count ≤ rowsIn (l.take (k + 1)) := by have := HTK.out; have := HLI.out.2; omega
          have HMB := Lib.hid (fun b (hb : b = g ∨ b = s) => HS0.out.mutBase b (hb.elim .inl fun e => .inr (.inl e)))
          by_cases h1 : kd = 1
          · as_aux_lemma =>
            subst h1
            have HID := Lib.hid (idle_any W0 w.heap.size g s cap sources.toNat D vw HS0.out.gm HS0.out.one sr)
            clear h0
            go_wp2_with fail
            refine HID.out.mono ?_
            rintro e W2 ⟨hx2, (⟨_, rfl, hgm⟩ | ⟨_, rfl, hgm⟩)⟩
            · have HX2 := Lib.hid (HX0.out.trans (hx2.mono fun b _ hb => HMB.out b hb))
              have HS2 := Lib.hid (HS0.out.gate hgm rfl hx2)
              clear hx2 hgm HID
              go_wp2_with fail
              refine (mark_any _ _ _ _ _ _ _ _ HS2.out.gm).mono ?_
              rintro e W3 ⟨rfl, rfl⟩
              go_wp2_with fail
              go_roundw
              case rel => exact ⟨k + 1, count, seen, last, D, vw, ws, hlt, by go_num, rfl, rfl, rfl, Lib.hid ⟨HLI.out.1, hcnt, HDC.out, HS2.out⟩, HX2.out⟩
              case measure => simp [intOf] <;> omega
            · have HX2 := Lib.hid (HX0.out.trans (hx2.mono fun b _ hb => HMB.out b hb))
              have HL2 := Lib.hid (HLI.out.1.idle sr.toNat)
              have HS2 := Lib.hid (HS0.out.gate hgm (HL2.out.1.hcol.trans HDC.out.symm) hx2)
              generalize idleD D sr.toNat = D2 at *
              have hd : decide (D2.mark < D.mark) = false := by have := HL2.out.2; simp; omega
              clear hx2 hgm HID
              go_wp2_with fail
              refine (mark_any _ _ _ _ _ _ _ _ HS2.out.gm).mono ?_
              rintro e W3 ⟨rfl, rfl⟩
              go_wp2_with fail
              go_roundw
              case rel => exact ⟨k + 1, count, seen, last, D2, vw, ws, hlt, by go_num, rfl, rfl, rfl, Lib.hid ⟨HL2.out.1, hcnt, HL2.out.1.hcol, HS2.out⟩, HX2.out⟩
              case measure => simp [intOf] <;> omega
          · as_aux_lemma =>
            have hd1 : (kd == 1) = false := by simp [h1]
            have HRL := Lib.hid (fun W vx wx (h : GateS W w.heap.size g s cap sources.toNat D vx wx (.slice none 0 0) []) hz hl => release_any W w.heap.size g s cap sources.toNat D vx wx h hz hl)
            clear h0 h1
            go_wp2_with fail
            refine (HRL.out _ _ _ HS0.out hz0 (by omega)).mono ?_
            rintro e W2 ⟨v2, out, vr, rfl, hx2, hs2, hrd, hcan⟩
            have HX2 := Lib.hid (HX0.out.trans (hx2.mono fun b _ hb => HMB.out b (.inl hb)))
            have HS2 := Lib.hid hs2
            have HF := Lib.hid (out_facts hcan HLI.out.1 (fun e he => HS0.out.mom e he))
            have HRD := Lib.hid hrd
            have hrl := rel_len D ws
            obtain ⟨_, A5, c5, e5, hv1, hv2, _⟩ := hrd.sl
            subst e5
            unfold maxLen at hv2
            obtain ⟨m, hm⟩ : ∃ m, out.length = m := ⟨_, rfl⟩
            have HM := Lib.hid hm
            rw [hm] at hv1 ⊢
            have hz2 : w.heap.size ≤ W2.heap.size := HX2.out.size
            clear hx2 hs2 hrd hcan hm
            go_wp2_with fail
            go_loopw [8, 12, 20, 21, 46] (fun _ sv _ _ j wi => ∃ (q : Nat) (sn : Int), q ≤ m ∧ j = .int .i64 q ∧ sv = .int .i64 sn ∧ Hid (sn = seen + sumN DE.n (out.take q)) ∧ Below W2.heap.size W2 wi) (fun _ _ _ _ j _ => m - (intOf j).toNat)
            case atStart => exact ⟨0, seen, Nat.zero_le _, rfl, rfl, Lib.hid (by simp [sumN]), Below.refl _ _⟩
            case round =>
              obtain ⟨q, sn, hq, rfl, rfl, HSN, hbi⟩ := hrel
              have hz3 := hbi.size
              have HSG := Lib.hid (HS2.out.later hbi)
              have hsm2 := HF.out.2
              have hrl2 : ((relOut D ws).length : Int) ≤ ws.length := by omega
              by_cases hqm : q < m
              · as_aux_lemma =>
                have hqo : q < out.length := by rw [HM.out]; exact hqm
                obtain ⟨b5, o5, c6, A6, m6, c7, row, kk, hv, -, -, hb5, he, hg, x0, x1⟩ := (HRD.out.later hbi).at_ (i := q) hqo
                injection hv with e1 e0 e2
                clear e0
                subst e1
                subst e2
                have hf := HF.out.1 (dat out q) (dat_mem hqo)
                rw [he] at hf
                obtain ⟨f1, ⟨hm1, hm2, hm3⟩, f3, f4⟩ := hf
                rw [Int.toNat_natCast] at hm1 hm2 hm3
                simp only at f1 hm1 hm3
                have hrow : RI wr (fun _ => True) (.slice A6 m6 c7) row := hg.row
                obtain ⟨A9, c9, iA, iC, hv9, -, -, hs9, -, -⟩ := hrow.shape
                injection hv9 with e1 e2 e3
                subst e1
                subst e2
                subst e3
                obtain ⟨b9, o9, e9, -, hb9, hc9⟩ := hs9 (by omega)
                subst e9
                obtain ⟨y1, y2, -, -, -⟩ := hc9 cn hm1
                have hat : atOf cn row = (at_ row cn).n := by unfold atOf; rw [Int.toNat_natCast]
                simp only at f3 f4
                rw [hat] at f3 f4
                unfold Mom at hm3
                generalize (at_ row cn).n = at1 at *
                have hst : sumN DE.n (out.take (q + 1)) = sumN DE.n (out.take q) + kk := by
                  rw [List.take_succ_eq_append_getElem hqo, ← dat_eq hqo, he, sumN_append]
                  simp [sumN]
                have hbd := sumN_take_bound (out := out) (fun d hd => (HF.out.1 d hd).1) (q + 1)
                have hbd0 := sumN_take_bound (out := out) (fun d hd => (HF.out.1 d hd).1) q
                have hsn := HSN.out
                have hkkb : 1 ≤ kk ∧ kk ≤ 1048576 := by omega
                have hsnb : 0 ≤ sn ∧ sn + kk ≤ 1048576 := by omega
                have HSN2 := Lib.hid (show sn + kk = seen + sumN DE.n (out.take (q + 1)) by omega)
                have hw := IntWalk.i64_in (sn + kk) (by omega)
                have hd2 : decide (kk < 1) = false := by simp; omega
                have hd3 : decide (at1 < last) = false := by simp; omega
                have hd4 : decide (D.mark ≤ at1) = false := by simp; omega
                clear he hg hs9 hrow hc9 hm2 hat hst hbd hbd0 hsn f1 f3 f4
                go_wp2_with fail
                have hbn := below_new wr (.cells #[.slice (some ⟨b9, o9, none⟩) row.length c7, .int .i64 kk] 39)
                have qd := wcell2 (Blk.new wr 39 [.slice (some ⟨b9, o9, none⟩) row.length c7, .int .i64 kk])
                have HBN := Lib.hid (hbi.trans (hbn.mono hz3))
                have HSG2 := Lib.hid (HSG.out.later hbn)
                clear hbn
                refine (mark_any _ _ _ _ _ _ _ _ HSG2.out.gm).mono ?_
                rintro e W3 ⟨rfl, rfl⟩
                go_wp2_with fail
                go_roundw
                case rel => exact ⟨q + 1, sn + kk, hqm, by go_num, by go_num, HSN2, HBN.out⟩
                case measure => simp [intOf] <;> omega
              · as_aux_lemma =>
                obtain rfl : q = m := by omega
                have htk : out.take q = out := List.take_of_length_le (by rw [HM.out]; omega)
                have HSQ := Lib.hid (show sn = ((seen + (relOut D ws).length : Nat) : Int) by have := HSN.out; rw [htk, hsm2] at this; omega)
                clear htk
                go_wp2_with fail
                refine (mark_any _ _ _ _ _ _ _ _ HSG.out.gm).mono ?_
                rintro e W3 ⟨rfl, rfl⟩
                go_wp2_with fail
                refine (HRL.out _ _ _ HSG.out (by omega) (by omega)).mono ?_
                rintro e W4 ⟨v3, out3, vr3, rfl, hx3, hs3, hrd3, hcan3⟩
                rw [relOut_keep] at hcan3
                have ho3 := out_nil hcan3
                subst ho3
                obtain ⟨_, A7, c7, e7, hv7, hv8, _⟩ := hrd3.sl
                subst e7
                rw [relKeep_keep] at hs3
                have HS3 := Lib.hid hs3
                have HX4 := Lib.hid ((HX2.out.trans (Tab.Ext.of_below hbi)).trans (hx3.mono fun b _ hb => HMB.out b (.inl hb)))
                clear hs3 hx3 hrd3 hcan3
                go_wp2_with fail
                refine (mark_any _ _ _ _ _ _ _ _ HS3.out.gm).mono ?_
                rintro e W5 ⟨rfl, rfl⟩
                go_wp2_with fail
                go_roundw
                case rel => exact ⟨k + 1, count, seen + (relOut D ws).length, D.mark, D, vr3, relKeep D ws, hlt, by go_num, rfl, by rw [HSQ.out], rfl, Lib.hid ⟨HLI.out.1.release HS0.out.gm.ok.mkb, hcnt, HDC.out, HS3.out⟩, HX4.out⟩
                case measure => simp [intOf] <;> omega
      · obtain rfl : k = n := by omega
        have hd : decide ((seen : Int) ≤ (count : Int)) = true := by simp; omega
        have hd2 : decide (seen ≤ count) = true := by simp; omega
        have HX := Lib.hid hext
        clear hext
        go_wp2_with fail
        go_ret
        exact ⟨rfl, below_of_ext HX.out⟩
end Go.Proofs.YthejmnmkbldacaaDoor
