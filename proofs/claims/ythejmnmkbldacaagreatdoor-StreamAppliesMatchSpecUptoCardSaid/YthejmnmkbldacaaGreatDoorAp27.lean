/-
  What is proved: the reference's sorting of rows. Conditions: fewer than 2^21 rows.
  What is proved: the reference's SortRows. Conditions: fewer than 2^21 rows, small rows.
-/
import Derived.Test.YthejmnmkbldacaaGreatDoorAp26
set_option linter.all false
namespace Go.Proofs.YthejmnmkbldacaaGreatDoor
open Go.RowKit
attribute [local go_sem] Tab.Env.ev Tab.Env.get

def leR (x y : RE) : Prop := cmpL x.row y.row ≤ 0
theorem leR_trans {x y z : RE} (h1 : leR x y) (h2 : leR y z) : leR x z := cmpD_ord.trans (a := REd x) (b := REd y) (d := REd z) h1 h2
theorem leR_of_gt {x y : RE} (h : 0 < cmpL x.row y.row) : leR y x := by
  unfold leR
  rw [cmpL_anti x.row y.row]
  omega
def SortedR (l : List RE) : Prop := l.Pairwise leR
/-- where the merging stands: o is out, ra and rb remain -/
structure MInv (l o ra rb : List RE) : Prop where
  perm : (o ++ (ra ++ rb)).Perm l
  so : SortedR o
  sa : SortedR ra
  sb : SortedR rb
  le : ∀ x, x ∈ o → ∀ y, y ∈ ra ++ rb → leR x y
theorem MInv.start {la lb a b : List RE} (ha : la.Perm a) (hb : lb.Perm b) (sa : SortedR la) (sb : SortedR lb) : MInv (a ++ b) [] la lb :=
  ⟨ha.append hb, List.Pairwise.nil, sa, sb, fun x hx => by cases hx⟩
theorem MInv.fst {l o ra rb : List RE} {x y : RE} (h : MInv l o (x :: ra) (y :: rb)) (hc : leR x y) : MInv l (o ++ [x]) ra (y :: rb) := by
  have sa := List.pairwise_cons.1 h.sa
  have sb := List.pairwise_cons.1 h.sb
  refine ⟨?_, ?_, sa.2, h.sb, ?_⟩
  · rw [List.append_assoc]; exact h.perm
  · unfold SortedR
    rw [List.pairwise_append]
    refine ⟨h.so, List.pairwise_singleton _ _, fun a ha b hb => ?_⟩
    rw [List.mem_singleton.1 hb]
    exact h.le a ha x (by simp)
  · intro a ha b hb
    rcases List.mem_append.1 ha with ha | ha
    · exact h.le a ha b (List.mem_cons_of_mem _ hb)
    · rw [List.mem_singleton.1 ha]
      rcases List.mem_append.1 hb with hb | hb
      · exact sa.1 b hb
      · rcases List.mem_cons.1 hb with rfl | hb
        · exact hc
        · exact leR_trans hc (sb.1 b hb)
theorem MInv.snd {l o ra rb : List RE} {x y : RE} (h : MInv l o (x :: ra) (y :: rb)) (hc : leR y x) : MInv l (o ++ [y]) (x :: ra) rb := by
  have sa := List.pairwise_cons.1 h.sa
  have sb := List.pairwise_cons.1 h.sb
  refine ⟨?_, ?_, h.sa, sb.2, ?_⟩
  · refine List.Perm.trans ?_ h.perm
    rw [List.append_assoc]
    refine List.Perm.append_left _ ?_
    have : ((x :: ra) ++ y :: rb).Perm (y :: ((x :: ra) ++ rb)) := List.perm_middle
    exact this.symm
  · unfold SortedR
    rw [List.pairwise_append]
    refine ⟨h.so, List.pairwise_singleton _ _, fun a ha b hb => ?_⟩
    rw [List.mem_singleton.1 hb]
    exact h.le a ha y (by simp)
  · intro a ha b hb
    rcases List.mem_append.1 ha with ha | ha
    · exact h.le a ha b (by
        rcases List.mem_append.1 hb with hb | hb
        · exact List.mem_append_left _ hb
        · exact List.mem_append_right _ (List.mem_cons_of_mem _ hb))
    · rw [List.mem_singleton.1 ha]
      rcases List.mem_append.1 hb with hb | hb
      · rcases List.mem_cons.1 hb with rfl | hb
        · exact hc
        · exact leR_trans hc (sa.1 b hb)
      · exact sb.1 b hb
theorem MInv.done {l o ra rb : List RE} (h : MInv l o ra rb) (h0 : ra = [] ∨ rb = []) : (o ++ ra ++ rb).Perm l ∧ SortedR (o ++ ra ++ rb) := by
  refine ⟨by rw [List.append_assoc]; exact h.perm, ?_⟩
  unfold SortedR
  rw [List.append_assoc, List.pairwise_append]
  refine ⟨h.so, ?_, h.le⟩
  rcases h0 with rfl | rfl
  · exact h.sb
  · rw [List.append_nil]; exact h.sa
theorem IT.under {w w' : World} {B : Nat} {F' : Nat → Prop} {v : Value} {l : List RE} (h : IT w (fun b => b < B) (fun b => F' b ∧ b < B) v l) (hb : Below B w w') : IT w' (fun b => b < B) (fun b => F' b ∧ b < B) v l :=
  ⟨h.sl.keep hb.size fun b hF _ => ⟨hb.block b hF, hF⟩, fun e he => (h.good e he).keep hb.size fun b hF _ => ⟨hb.block b hF.2, hF⟩⟩
theorem IT.tail {w : World} {F F' : Nat → Prop} {b off n c : Nat} {x : RE} {l : List RE} (h : IT w F F' (.slice (some ⟨b, off, none⟩) (n + 1) c) (x :: l)) (hc : n + 1 ≤ c) (hl : l.length = n) :
    IT w F F' (.slice (if c = 1 then some ⟨b, off, none⟩ else some ⟨b, off + 3, none⟩) n (c - 1)) l := by
  split
  · rename_i h1
    subst h1
    obtain rfl : n = 0 := by omega
    obtain rfl : l = [] := List.eq_nil_of_length_eq_zero hl
    exact ⟨⟨rfl, _, _, rfl, Nat.le_refl _, Nat.zero_le _, fun h => absurd h (Nat.lt_irrefl 0)⟩, fun e he => by cases he⟩
  · rcases Nat.eq_zero_or_pos n with h0 | h0
    · subst h0
      obtain rfl : l = [] := List.eq_nil_of_length_eq_zero hl
      obtain ⟨_, A, c', hv, h1, h2, _⟩ := h.sl
      injection hv with e1 e2 e3
      subst e3
      exact ⟨⟨rfl, _, _, rfl, by simp, by omega, fun h => absurd h (Nat.lt_irrefl 0)⟩, fun e he => by cases he⟩
    · exact h.drop 1 (by rw [List.length_cons]; omega)
def lenS : Value → Nat
  | .slice _ n _ => n
  | _ => 0

theorem cfByKeys : ∀ (args : Array Value) (w : World), (callFunc 119 args).run Tryz.prog w = .ok (.enter 119 args) w := fun _ _ => by simp [go_sem]
def SortPost (F F' : Nat → Prop) (l : List RE) (w : World) (e : Ending) (w' : World) : Prop :=
  ∃ v' l', e = .returned v' ∧ IT w' (fun b => F b ∨ w.heap.size ≤ b) F' v' l' ∧ l'.Perm l ∧ SortedR l' ∧ Below w.heap.size w w'

set_option maxHeartbeats 4000000 in
set_option maxRecDepth 100000 in
theorem sorted_any : ∀ (n : Nat) (F F' : Nat → Prop) (v : Value) (l : List RE) (w : World), l.length = n → n < 2097152 → IT w F F' v l →
    Calls Tryz.prog 68 #[v, .slice none 0 0] w (SortPost F F' l w) := by
  intro n
  induction n using Nat.strongRecOn with
  | ind n ih =>
  intro F F' v l w hln hn h
  have HIH := Lib.hid ih
  have HI := Lib.hid h
  have HN := Lib.hid hln
  clear ih
  by_cases h1 : n ≤ 1
  · as_aux_lemma =>
    obtain ⟨_, A, c, rfl, hc, hm, _⟩ := h.sl
    rw [hln] at hc HI ⊢
    have hn1 : (n : Int) ≤ 1 := by omega
    clear h hln HIH
    go_enter Tryz.func68, Tryz.ntmps68
    go_wp2_with fail
    go_ret
    refine ⟨_, l, rfl, HI.out.mono (fun b hb _ => .inl hb) (fun _ hb _ => hb), List.Perm.refl _, ?_, Below.refl _ _⟩
    have hN := HN.out
    match l, hN with
    | [], _ => exact List.Pairwise.nil
    | [_], _ => exact List.pairwise_singleton _ _
    | _ :: _ :: _, hN => simp at hN; omega
  · as_aux_lemma =>
    obtain ⟨b, off, c, A0, m0, c0, row0, ev, hc, hm, _⟩ := h.at_ (i := 0) (by omega)
    subst ev
    obtain ⟨m, hmm⟩ : ∃ m, n / 2 = m := ⟨_, rfl⟩
    have hm1 : 1 ≤ m := by omega
    have hm2 : m < n := by omega
    have hn1 : ¬ (n : Int) ≤ 1 := by omega
    have hdiv : (n : Int) / 2 = m := by omega
    have hdiv2 : (n : Int).tdiv 2 = m := by
      rw [Int.tdiv_eq_ediv_of_nonneg (by omega)]
      exact hdiv
    rw [hln] at hc HI ⊢
    unfold maxLen at hm
    have HTA := Lib.hid (HI.out.take m m (by rw [HN.out]; omega) (Nat.le_refl _) (by unfold maxLen; omega))
    have HTB := Lib.hid (HI.out.drop m (by rw [HN.out]; exact hm2))
    have HCA := Lib.hid (HIH.out m hm2 _ _ _ (l.take m) w (by rw [List.length_take, HN.out]; omega) (by omega) HTA.out)
    have HCB := Lib.hid (fun w1 (hb1 : Below w.heap.size w w1) => HIH.out (n - m) (by omega) _ _ _ (l.drop m) w1 (by rw [List.length_drop, HN.out]) (by omega) (HTB.out.later hb1))
    clear h hln hmm HIH
    go_enter Tryz.func68, Tryz.ntmps68
    go_wp2_with fail
    refine HCA.out.mono ?_
    rintro e w1 ⟨va, la, rfl, hia, hpa, hsa, hb1⟩
    have HIA := Lib.hid hia
    have HPA := Lib.hid (And.intro hpa hsa)
    have HB1 := Lib.hid hb1
    have HCB1 := Lib.hid (HCB.out w1 hb1)
    clear hia hpa hsa hb1 HCA HCB
    go_wp2_with fail
    refine HCB1.out.mono ?_
    rintro e w2 ⟨vb, lb, rfl, hib, hpb, hsb, hb2⟩
    have HIB := Lib.hid hib
    have HPB := Lib.hid (And.intro hpb hsb)
    have HB2 := Lib.hid (HB1.out.trans (hb2.mono HB1.out.size))
    have HIA2 := Lib.hid (HIA.out.later hb2)
    obtain ⟨inf, hinf, hiz, his, hib6⟩ := info_parts infoI6
    have hmk : ∀ W : World, (Instr.makeSlice 97 (.int .i64 0) (.int .i64 (n : Int))).run Tryz.prog W = .ok (.slice (some ⟨W.heap.size, 0, none⟩) 0 n) (W.alloc (.cells (madeCells #[.slice none 0 0, .slice none 0 0, .int .i64 0] (n * 3)) 100)) := fun W => by
      have := run_make (P := Tryz.prog) (w := W) 97 100 inf _ underI6 hinf hiz .i64 .i64 0 n (by omega) (by omega) (by rw [hib6]; omega) (by omega)
      rw [his] at this
      simpa [Value.cells] using this
    have HOW := Lib.hid (show OwnI (w2.alloc (.cells (madeCells #[.slice none 0 0, .slice none 0 0, .int .i64 0] (n * 3)) 100)) w2.heap.size (fun b => F' b ∧ b < w2.heap.size) (.slice (some ⟨w2.heap.size, 0, none⟩) 0 n) [] from
      ⟨⟨rfl, .inr ⟨w2.heap.size, n, _, rfl, Nat.le_refl _, heap_alloc_new w2 _, Nat.zero_le _, by unfold maxLen; omega, by simp [madeCells], rfl⟩⟩, fun e he => by cases he⟩)
    have HBW := Lib.hid (below_new w2 (.cells (madeCells #[.slice none 0 0, .slice none 0 0, .int .i64 0] (n * 3)) 100))
    have HIA3 := Lib.hid ((HIA2.out.mono (F2 := fun b => b < w2.heap.size) (F2' := fun b => F' b ∧ b < w2.heap.size) (fun _ _ h => h) (fun _ hb h => ⟨hb, h⟩)).later HBW.out)
    have HIB3 := Lib.hid ((HIB.out.mono (F2 := fun b => b < w2.heap.size) (F2' := fun b => F' b ∧ b < w2.heap.size) (fun _ _ h => h) (fun _ hb h => ⟨hb, h⟩)).later HBW.out)
    have HMI := Lib.hid (show MInv l [] la lb by
      have := MInv.start HPA.out.1 HPB.out.1 HPA.out.2 HPB.out.2
      rwa [List.take_append_drop] at this)
    clear hinf hiz his hib6
    go_wp2_with fail
    generalize hWdef : w2.alloc (.cells (madeCells #[.slice none 0 0, .slice none 0 0, .int .i64 0] (n * 3)) 100) = W at *
    clear hmk hWdef HIA2 HIB HPA HPB HTA HTB
    have hz2 := HB2.out.size
    go_loopw [6, 7, 8, 9] (fun sa sb s _ wr => ∃ (va vb v : Value) (ra rb o : List RE), va = sa ∧ vb = sb ∧ v = s ∧ IT wr (fun b => b < w2.heap.size) (fun b => F' b ∧ b < w2.heap.size) va ra ∧ IT wr (fun b => b < w2.heap.size) (fun b => F' b ∧ b < w2.heap.size) vb rb ∧ OwnI wr w2.heap.size (fun b => F' b ∧ b < w2.heap.size) v o ∧ Hid (MInv l o ra rb) ∧ Below w2.heap.size w2 wr) (fun sa sb _ _ _ => lenS sa + lenS sb)
    case atStart => exact ⟨va, vb, _, la, lb, [], rfl, rfl, rfl, HIA3.out, HIB3.out, HOW.out, HMI, HBW.out⟩
    case round =>
      obtain ⟨va, vb, v, ra, rb, o, rfl, rfl, rfl, hia, hib, ho, HM, hbel⟩ := hrel
      have HIA := Lib.hid hia
      have HIB := Lib.hid hib
      have HO := Lib.hid ho
      have HB := Lib.hid hbel
      have hlen : o.length + (ra.length + rb.length) = n := by
        have := HM.out.perm.length_eq
        rw [List.length_append, List.length_append, HN.out] at this
        exact this
      have HLEN := Lib.hid hlen
      clear HIA3 HIB3 HOW HMI HBW hlen
      by_cases hx : ra = [] ∨ rb = []
      · as_aux_lemma =>
        have HD := Lib.hid (HM.out.done hx)
        obtain ⟨_, Aa, ca, ea, ga1, ga2, _⟩ := hia.sl
        obtain ⟨_, Ab, cb, eb, gb1, gb2, _⟩ := hib.sl
        subst ea
        subst eb
        have hol : o.length + ra.length < 1073741824 := by have := HLEN.out; omega
        have hol2 : o.length + ra.length + rb.length < 1073741824 := by have := HLEN.out; omega
        have hzz := HB.out.size
        have hxx : ra.length = 0 ∨ (0 < ra.length ∧ rb.length = 0) := by
          rcases hx with rfl | rfl
          · exact .inl rfl
          · rcases Nat.eq_zero_or_pos ra.length with h | h
            · exact .inl h
            · exact .inr ⟨h, rfl⟩
        have HEND := Lib.hid (fun (W4 : World) (v4 : Value) (hb4 : Below w2.heap.size wr W4) (ho4 : W4.ownsRow w2.heap.size 100 3 v4 (o.length + ra.length + rb.length) (icells o ++ icells ra ++ icells rb)) => (show SortPost F F' l w (.returned v4) W4 from by
          have hk : ∀ {v : Value} {row : List VD}, RI wr (fun b => F' b ∧ b < w2.heap.size) v row → RI W4 F' v row := fun h => h.keep hb4.size fun b hF _ => ⟨hb4.block b hF.2, hF.1⟩
          refine ⟨v4, o ++ ra ++ rb, rfl, ⟨?_, fun e he => ?_⟩, HD.out.1, HD.out.2, HB2.out.trans ((HB.out.trans hb4).mono hz2)⟩
          · have := (SL.of_own ho4).mono (F' := fun b => F b ∨ w.heap.size ≤ b) fun b hb _ => .inr (Nat.le_trans hz2 hb)
            rw [List.length_append, List.length_append, icells_append, icells_append]
            exact this
          · rcases List.mem_append.1 he with he | he
            · rcases List.mem_append.1 he with he | he
              · exact hk ((HO.out.good e he).mono fun b hb _ => hb.1)
              · exact hk (hia.good e he)
            · exact hk (hib.good e he)))
        obtain ⟨na, hna⟩ : ∃ na, ra.length = na := ⟨_, rfl⟩
        obtain ⟨nb, hnb⟩ : ∃ nb, rb.length = nb := ⟨_, rfl⟩
        rw [hna] at HIA hol hol2 HEND hxx ga1 ⊢
        rw [hnb] at HIB hol2 HEND hxx gb1 ⊢
        have HNA := Lib.hid hna
        have HNB := Lib.hid hnb
        unfold maxLen at ga2 gb2
        have HSA := Lib.hid (show SL wr (fun b => b < w2.heap.size) 3 (.slice Aa na ca) na (icells ra) by have := HIA.out.sl; rw [HNA.out] at this; exact this)
        have HOA := Lib.hid (icells_one (fun d hd => HIA.out.good d hd))
        have HOB := Lib.hid (icells_one (fun d hd => HIB.out.good d hd))
        have HSB := Lib.hid (show ∀ W, Below w2.heap.size wr W → SL W (fun b => b < w2.heap.size) 3 (.slice Ab nb cb) nb (icells rb) from fun W hW => by have := (HIB.out.under hW).sl; rw [HNB.out] at this; exact this)
        clear hia hib ho hbel hx hna hnb
        rcases hxx with h0 | ⟨h0, h00⟩
        · as_aux_lemma =>
          subst h0
          go_wp2_with (at_builtin; refine append_sl wr rfl (.tmp 87) (.tmp 88) 97 rfl w2.heap.size 100 underI6 infoI6 rfl (by decide) _ _ _ (icells ra) rfl HO.out.own _ _ 0 rfl HSA.out HOA.out hol (by decide) hzz ?_)
          intro v3 w3 hown3 hb3
          have HOW3 := Lib.hid hown3
          have HSB3 := Lib.hid (HSB.out w3 hb3)
          have HB3 := Lib.hid hb3
          have hz3 : w2.heap.size ≤ w3.heap.size := Nat.le_trans hzz hb3.size
          have hol3 : o.length + nb < 1073741824 := by omega
          clear hown3 hb3
          go_wp2_with (at_builtin; refine append_sl w3 rfl (.tmp 90) (.tmp 91) 97 rfl w2.heap.size 100 underI6 infoI6 rfl (by decide) _ _ _ (icells rb) rfl HOW3.out _ _ nb rfl HSB3.out HOB.out hol3 (by decide) hz3 ?_)
          intro v4 w4 hown4 hb4
          have HP := Lib.hid (HEND.out w4 v4 (HB3.out.trans hb4) (by simpa using hown4))
          clear hown4 hb4
          go_wp2_with fail
          go_ret
          exact HP.out
        · as_aux_lemma =>
          subst h00
          go_wp2_with (at_builtin; refine append_sl wr rfl (.tmp 87) (.tmp 88) 97 rfl w2.heap.size 100 underI6 infoI6 rfl (by decide) _ _ _ (icells ra) rfl HO.out.own _ _ na rfl HSA.out HOA.out hol (by decide) hzz ?_)
          intro v3 w3 hown3 hb3
          have HOW3 := Lib.hid hown3
          have HSB3 := Lib.hid (HSB.out w3 hb3)
          have HB3 := Lib.hid hb3
          have hz3 : w2.heap.size ≤ w3.heap.size := Nat.le_trans hzz hb3.size
          have hol3 : o.length + na + 0 < 1073741824 := by omega
          clear hown3 hb3
          go_wp2_with (at_builtin; refine append_sl w3 rfl (.tmp 90) (.tmp 91) 97 rfl w2.heap.size 100 underI6 infoI6 rfl (by decide) _ _ _ (icells rb) rfl HOW3.out _ _ 0 rfl HSB3.out HOB.out hol3 (by decide) hz3 ?_)
          intro v4 w4 hown4 hb4
          have HP := Lib.hid (HEND.out w4 v4 (HB3.out.trans hb4) (by simpa using hown4))
          clear hown4 hb4
          go_wp2_with fail
          go_ret
          exact HP.out
      · as_aux_lemma =>
        obtain ⟨x, ra, rfl⟩ : ∃ x ra', ra = x :: ra' := by
          cases ra with
          | nil => exact absurd (.inl rfl) hx
          | cons x ra => exact ⟨x, ra, rfl⟩
        obtain ⟨y, rb, rfl⟩ : ∃ y rb', rb = y :: rb' := by
          cases rb with
          | nil => exact absurd (.inr rfl) hx
          | cons y rb => exact ⟨y, rb, rfl⟩
        clear hx
        obtain ⟨ba, oa, ca, Ax, mx, cx, rowx, ea, ha1, ha2, ha3, ha4, hax, hrx, pa0, pa1, pa2⟩ := hia.at_ (i := 0) (by simp)
        obtain ⟨bb, ob, cb, Ay, my, cy, rowy, eb, hb1, hb2, hb3, hb4, hay, hry, pb0, pb1, pb2⟩ := hib.at_ (i := 0) (by simp)
        subst ea
        subst eb
        have hax2 : x = ⟨.slice Ax mx cx, rowx⟩ := hax
        have hay2 : y = ⟨.slice Ay my cy, rowy⟩ := hay
        subst hax2
        subst hay2
        rw [List.length_cons] at ha1 hb1
        simp only [List.length_cons]
        obtain ⟨na, hna⟩ : ∃ na, ra.length = na := ⟨_, rfl⟩
        obtain ⟨nb, hnb⟩ : ∃ nb, rb.length = nb := ⟨_, rfl⟩
        rw [List.length_cons, hna] at HIA
        rw [List.length_cons, hnb] at HIB
        rw [hna] at ha1 ⊢
        rw [hnb] at hb1 ⊢
        rw [List.length_cons, List.length_cons, hna, hnb] at HLEN
        unfold maxLen at ha2 hb2
        simp only [Nat.zero_mul, Nat.add_zero] at pa0 pa1 pa2 pb0 pb1 pb2
        have HNA := Lib.hid hna
        have HNB := Lib.hid hnb
        have HRX := Lib.hid hrx
        have HRY := Lib.hid hry
        clear hia hib ho hbel hax hay hna hnb hrx hry ha4 hb4
        go_wp2_with fail
        have p0 := fun w' (h : Tab.Ext (fun _ => False) wr.drew w') => And.intro ((h.cell (p := ⟨ba, oa, none⟩) ha3 id).trans pa0) (And.intro ((h.cell (p := ⟨ba, oa + 1, none⟩) ha3 id).trans pa1) ((h.cell (p := ⟨ba, oa + 2, none⟩) ha3 id).trans pa2))
        have p1 := fun w' (h : Tab.Ext (fun _ => False) wr.drew w') => And.intro ((h.cell (p := ⟨bb, ob, none⟩) hb3 id).trans pb0) (And.intro ((h.cell (p := ⟨bb, ob + 1, none⟩) hb3 id).trans pb1) ((h.cell (p := ⟨bb, ob + 2, none⟩) hb3 id).trans pb2))
        have hbw := Lib.hid (fun w' (h : Tab.Ext (fun _ => False) wr.drew w') => (show Below wr.heap.size wr w' from (Below.refl _ _).drew.trans h.below))
        refine Tab.wp_region_tab (Tab.Ext fun _ => False) (by kernel_rfl) (by kernel_rfl) (fun _ => Tab.Ext.refl _ _) (fun _ _ _ h k => h.trans k) ?_
        iterate 7 (first | (refine Tab.tab_moveE _ rfl (Tab.silent_true _) (.inl rfl) rfl rfl (fun _ => Tab.Ext.refl _ _) ?_; apply Exists.intro; refine And.intro ?_ ?_; focus (simp [Tab.Env.ev, Tab.Env.get]; rfl)) | (refine Tab.tab_moveE _ rfl (Tab.silent_true _) (.inr rfl) rfl rfl (fun _ => Tab.Ext.refl _ _) ?_; apply Exists.intro; refine And.intro ?_ ?_; focus (simp [Tab.Env.ev, Tab.Env.get]; rfl)) | refine Tab.tab_skip rfl (Tab.silent_true _) rfl ?_ | (refine Tab.tab_repE rfl (Tab.silent_true _) rfl (fun _ _ h => by cases h) rfl (fun _ => Tab.Ext.refl _ _) ?_; apply Exists.intro; refine And.intro (fun l w' _ _ hw => ?_) ?_; focus (go_simp; rfl)) | (refine Tab.tab_repE rfl (Tab.silent_true _) rfl (fun _ _ h => by cases h) rfl (fun _ => Tab.Ext.refl _ _) ?_; apply Exists.intro; refine And.intro (fun l w' hs hc hw => ?_) ?_; focus ((have q0 := p0 _ hw; have q1 := p1 _ hw; go_simp; rfl))))
        refine Tab.tab_call_is (.int .i64 0) rfl rfl rfl cfByKeys rfl (fun l_ w' _ _ _ hw => ?_) ?_
        · show Calls _ _ #[.agg #[.slice Ax mx cx, .slice none 0 0, .int .i64 0], .agg #[.slice Ay my cy, .slice none 0 0, .int .i64 0], .slice none 0 0] w' _
          refine (byKeys_any Ax Ay mx cx my cy w').mono ?_
          rintro e_ w_ ⟨rfl, hb_⟩
          exact ⟨rfl, Tab.Ext.of_below hb_, trivial⟩
        iterate 1 (first | (refine Tab.tab_moveE _ rfl (Tab.silent_true _) (.inl rfl) rfl rfl (fun _ => Tab.Ext.refl _ _) ?_; apply Exists.intro; refine And.intro ?_ ?_; focus (simp [Tab.Env.ev, Tab.Env.get]; rfl)) | (refine Tab.tab_moveE _ rfl (Tab.silent_true _) (.inr rfl) rfl rfl (fun _ => Tab.Ext.refl _ _) ?_; apply Exists.intro; refine And.intro ?_ ?_; focus (simp [Tab.Env.ev, Tab.Env.get]; rfl)) | refine Tab.tab_skip rfl (Tab.silent_true _) rfl ?_ | (refine Tab.tab_repE rfl (Tab.silent_true _) rfl (fun _ _ h => by cases h) rfl (fun _ => Tab.Ext.refl _ _) ?_; apply Exists.intro; refine And.intro (fun l w' _ _ hw => ?_) ?_; focus (go_simp; rfl)) | (refine Tab.tab_repE rfl (Tab.silent_true _) rfl (fun _ _ h => by cases h) rfl (fun _ => Tab.Ext.refl _ _) ?_; apply Exists.intro; refine And.intro (fun l w' hs hc hw => ?_) ?_; focus (go_simp; rfl)))
        intro a_ w_ hw_ hsat_
        refine Tab.fin_of_sat rfl ?_ hsat_
        simp only [Tab.fin, Act.put, List.setIfInBounds_toArray, List.set_cons_succ, List.set_cons_zero]
        have hb8 := hbw.out _ hw_
        have HB8 := Lib.hid (HB.out.trans (hb8.mono HB.out.size))
        have HIA8 := Lib.hid (HIA.out.later hb8)
        have HIB8 := Lib.hid (HIB.out.later hb8)
        have HO8 := Lib.hid (HO.out.later hb8)
        have HRX8 := Lib.hid (HRX.out.later hb8)
        have HRY8 := Lib.hid (HRY.out.later hb8)
        have r0 := p0 _ hw_
        have r1 := p1 _ hw_
        have ha8 : ba < w_.heap.size := Nat.lt_of_lt_of_le ha3 hb8.size
        have hb9 : bb < w_.heap.size := Nat.lt_of_lt_of_le hb3 hb8.size
        clear hsat_ hw_ hb8 p0 p1 hbw pa0 pa1 pa2 pb0 pb1 pb2 ha3 hb3 HIA HIB HO HRX HRY
        go_wp2_with fail
        have p0 := fun w' (h : Tab.Ext (fun _ => False) w_.drew w') => (h.cell (p := ⟨ba, oa, none⟩) ha8 id).trans r0.1
        have p1 := fun w' (h : Tab.Ext (fun _ => False) w_.drew w') => (h.cell (p := ⟨bb, ob, none⟩) hb9 id).trans r1.1
        have hbw := Lib.hid (fun w' (h : Tab.Ext (fun _ => False) w_.drew w') => (show Below w_.heap.size w_ w' from (Below.refl _ _).drew.trans h.below))
        refine Tab.wp_region_tab (Tab.Ext fun _ => False) (by kernel_rfl) (by kernel_rfl) (fun _ => Tab.Ext.refl _ _) (fun _ _ _ h k => h.trans k) ?_
        iterate 8 (first | (refine Tab.tab_moveE _ rfl (Tab.silent_true _) (.inl rfl) rfl rfl (fun _ => Tab.Ext.refl _ _) ?_; apply Exists.intro; refine And.intro ?_ ?_; focus (simp [Tab.Env.ev, Tab.Env.get]; rfl)) | (refine Tab.tab_moveE _ rfl (Tab.silent_true _) (.inr rfl) rfl rfl (fun _ => Tab.Ext.refl _ _) ?_; apply Exists.intro; refine And.intro ?_ ?_; focus (simp [Tab.Env.ev, Tab.Env.get]; rfl)) | refine Tab.tab_skip rfl (Tab.silent_true _) rfl ?_ | (refine Tab.tab_repE rfl (Tab.silent_true _) rfl (fun _ _ h => by cases h) rfl (fun _ => Tab.Ext.refl _ _) ?_; apply Exists.intro; refine And.intro (fun l w' _ _ hw => ?_) ?_; focus (go_simp; rfl)) | (refine Tab.tab_repE rfl (Tab.silent_true _) rfl (fun _ _ h => by cases h) rfl (fun _ => Tab.Ext.refl _ _) ?_; apply Exists.intro; refine And.intro (fun l w' hs hc hw => ?_) ?_; focus ((have q0 := p0 _ hw; have q1 := p1 _ hw; go_simp; rfl))))
        refine Tab.tab_call_is (.int .i64 (cmpL rowx rowy)) rfl rfl rfl cfCompareRowsR rfl (fun l_ w' _ _ _ hw => ?_) ?_
        · show Calls _ _ #[.slice Ax mx cx, .slice Ay my cy] w' _
          refine (compareRowsR_any _ _ _ _ rowx rowy w' (HRX8.out.later (hbw.out _ hw)) (HRY8.out.later (hbw.out _ hw))).mono ?_
          rintro e_ w_ ⟨rfl, hb_⟩
          exact ⟨rfl, Tab.Ext.of_below hb_, trivial⟩
        iterate 1 (first | (refine Tab.tab_moveE _ rfl (Tab.silent_true _) (.inl rfl) rfl rfl (fun _ => Tab.Ext.refl _ _) ?_; apply Exists.intro; refine And.intro ?_ ?_; focus (simp [Tab.Env.ev, Tab.Env.get]; rfl)) | (refine Tab.tab_moveE _ rfl (Tab.silent_true _) (.inr rfl) rfl rfl (fun _ => Tab.Ext.refl _ _) ?_; apply Exists.intro; refine And.intro ?_ ?_; focus (simp [Tab.Env.ev, Tab.Env.get]; rfl)) | refine Tab.tab_skip rfl (Tab.silent_true _) rfl ?_ | (refine Tab.tab_repE rfl (Tab.silent_true _) rfl (fun _ _ h => by cases h) rfl (fun _ => Tab.Ext.refl _ _) ?_; apply Exists.intro; refine And.intro (fun l w' _ _ hw => ?_) ?_; focus (go_simp; rfl)) | (refine Tab.tab_repE rfl (Tab.silent_true _) rfl (fun _ _ h => by cases h) rfl (fun _ => Tab.Ext.refl _ _) ?_; apply Exists.intro; refine And.intro (fun l w' hs hc hw => ?_) ?_; focus (go_simp; rfl)))
        intro a_ w9 hw_ hsat_
        refine Tab.fin_of_sat rfl ?_ hsat_
        simp only [Tab.fin, Act.put, List.setIfInBounds_toArray, List.set_cons_succ, List.set_cons_zero]
        have hb8 := hbw.out _ hw_
        have HB9 := Lib.hid (HB8.out.trans (hb8.mono HB8.out.size))
        have HIA9 := Lib.hid (HIA8.out.later hb8)
        have HIB9 := Lib.hid (HIB8.out.later hb8)
        have HO9 := Lib.hid (HO8.out.later hb8)
        have HRX9 := Lib.hid (HRX8.out.later hb8)
        have HRY9 := Lib.hid (HRY8.out.later hb8)
        have r0' := And.intro ((hb8.cell (p := ⟨ba, oa, none⟩) ha8).trans r0.1) (And.intro ((hb8.cell (p := ⟨ba, oa + 1, none⟩) ha8).trans r0.2.1) ((hb8.cell (p := ⟨ba, oa + 2, none⟩) ha8).trans r0.2.2))
        have r1' := And.intro ((hb8.cell (p := ⟨bb, ob, none⟩) hb9).trans r1.1) (And.intro ((hb8.cell (p := ⟨bb, ob + 1, none⟩) hb9).trans r1.2.1) ((hb8.cell (p := ⟨bb, ob + 2, none⟩) hb9).trans r1.2.2))
        have hzz := HB9.out.size
        clear hsat_ hw_ hb8 p0 p1 hbw r0 r1 ha8 hb9 HIA8 HIB8 HO8 HRX8 HRY8
        obtain ⟨cc, hcc⟩ : ∃ cc, cmpL rowx rowy = cc := ⟨_, rfl⟩
        have HCC := Lib.hid hcc
        rw [hcc]
        clear hcc
        have hol : o.length < 1073741824 := by have := HLEN.out; omega
        by_cases hz : cc = 0
        · as_aux_lemma =>
          subst hz
          go_wp2_with fail
          refine Tab.wp_region_tabC (fun _ _ => True) (fun _ w_' => w_' = w9.drew) (by kernel_rfl) (by kernel_rfl) (fun _ => trivial) (fun _ _ _ _ _ => trivial) rfl ?_
          iterate 10 (first | (refine Tab.tab_moveE _ rfl ((fun _ _ h => h)) (.inl rfl) rfl rfl (fun _ => trivial) ?_; apply Exists.intro; refine And.intro ?_ ?_; focus (simp [Tab.Env.ev, Tab.Env.get]; rfl)) | (refine Tab.tab_moveE _ rfl ((fun _ _ h => h)) (.inr rfl) rfl rfl (fun _ => trivial) ?_; apply Exists.intro; refine And.intro ?_ ?_; focus (simp [Tab.Env.ev, Tab.Env.get]; rfl)) | refine Tab.tab_skip rfl ((fun _ _ h => h)) rfl ?_ | (refine Tab.tab_repE rfl ((fun _ _ h => h)) rfl (fun _ _ h => by cases h) rfl (fun _ => trivial) ?_; apply Exists.intro; refine And.intro (fun l w' _ _ hw => ?_) ?_; focus (go_simp; rfl)) | (refine Tab.tab_repE rfl ((fun _ _ h => h)) rfl (fun _ _ h => by cases h) rfl (fun _ => trivial) ?_; apply Exists.intro; refine And.intro (fun l w' hs hc hw => ?_) ?_; focus ((subst hc; go_simp; rfl))))
          intro l_ a_ w_ hall_ hcl_ _ hsat_
          have hw_ : w_ = w9.drew := hcl_
          subst hw_
          clear hcl_ hall_
          refine Tab.fin_of_sat rfl ?_ hsat_
          simp only [Tab.fin, Act.put, List.setIfInBounds_toArray, List.set_cons_succ, List.set_cons_zero]
          have HO9 := Lib.hid (show OwnI w9.drew w2.heap.size (fun b => F' b ∧ b < w2.heap.size) v o from HO9.out.later (Below.refl _ _).drew)
          have HIA9 := Lib.hid (show IT w9.drew (fun b => b < w2.heap.size) (fun b => F' b ∧ b < w2.heap.size) (Value.slice (some ⟨ba, oa, none⟩) (na + 1) ca) (⟨.slice Ax mx cx, rowx⟩ :: ra) from HIA9.out.later (Below.refl _ _).drew)
          have HIB9 := Lib.hid (show IT w9.drew (fun b => b < w2.heap.size) (fun b => F' b ∧ b < w2.heap.size) (Value.slice (some ⟨bb, ob, none⟩) (nb + 1) cb) (⟨.slice Ay my cy, rowy⟩ :: rb) from HIB9.out.later (Below.refl _ _).drew)
          have HRX9 := Lib.hid (show RI w9.drew (fun b => F' b ∧ b < w2.heap.size) (.slice Ax mx cx) rowx from HRX9.out.later (Below.refl _ _).drew)
          have HB9 := Lib.hid (HB9.out.drew)
          have hzz : w2.heap.size ≤ w9.drew.heap.size := hzz
          have r0' : w9.drew.cell? ⟨ba, oa, none⟩ = some (Value.slice Ax mx cx) ∧ w9.drew.cell? ⟨ba, oa + 1, none⟩ = some (Value.slice none 0 0) ∧ w9.drew.cell? ⟨ba, oa + 2, none⟩ = some (.int .i64 0) := r0'
          go_wp2_with (at_builtin; refine append_own2 w9.drew rfl (.tmp 71) (.tmp 75) 97 rfl w2.heap.size 100 underI6 infoI6 rfl (by decide) _ _ _ [.slice Ax mx cx, .slice none 0 0, .int .i64 0] rfl HO9.out.own rfl rfl (by simp [Value.oneCell']) hol (by decide) hzz ?_)
          intro v' w3 hown' hb3 hkept
          have HB3 := Lib.hid (HB9.out.trans hb3)
          have HIA3 := Lib.hid ((HIA9.out.under hb3).tail ha1 HNA.out)
          have HIB3 := Lib.hid (HIB9.out.under hb3)
          have HO3 := Lib.hid (HO9.out.add (e := RE.mk (.slice Ax mx cx) rowx) hown' hkept (HRX9.out.mono fun b hb _ => ⟨hb, fun e => by
            have := (HO9.out.own.lt b e).1
            have := hb.2
            omega⟩))
          have HM3 := Lib.hid (HM.out.fst (show cmpL rowx rowy ≤ 0 by rw [HCC.out]; omega))
          clear hown' hb3 hkept
          go_wp2_with fail
          go_roundw
          case rel => exact ⟨_, _, _, _, _, _, rfl, rfl, rfl, HIA3.out, HIB3.out, HO3.out, HM3, HB3.out⟩
          case measure => simp [lenS] <;> omega
        · by_cases hle : cc ≤ 0
          · as_aux_lemma =>
            go_wp2_with (at_builtin; refine append_own2 w9 rfl (.tmp 71) (.tmp 75) 97 rfl w2.heap.size 100 underI6 infoI6 rfl (by decide) _ _ _ [.slice Ax mx cx, .slice none 0 0, .int .i64 0] rfl HO9.out.own rfl rfl (by simp [Value.oneCell']) hol (by decide) hzz ?_)
            intro v' w3 hown' hb3 hkept
            have HB3 := Lib.hid (HB9.out.trans hb3)
            have HIA3 := Lib.hid ((HIA9.out.under hb3).tail ha1 HNA.out)
            have HIB3 := Lib.hid (HIB9.out.under hb3)
            have HO3 := Lib.hid (HO9.out.add (e := RE.mk (.slice Ax mx cx) rowx) hown' hkept (HRX9.out.mono fun b hb _ => ⟨hb, fun e => by
              have := (HO9.out.own.lt b e).1
              have := hb.2
              omega⟩))
            have HM3 := Lib.hid (HM.out.fst (show cmpL rowx rowy ≤ 0 by rw [HCC.out]; omega))
            clear hown' hb3 hkept
            go_wp2_with fail
            go_roundw
            case rel => exact ⟨_, _, _, _, _, _, rfl, rfl, rfl, HIA3.out, HIB3.out, HO3.out, HM3, HB3.out⟩
            case measure => simp [lenS] <;> omega
          · as_aux_lemma =>
            go_wp2_with (at_builtin; refine append_own2 w9 rfl (.tmp 79) (.tmp 83) 97 rfl w2.heap.size 100 underI6 infoI6 rfl (by decide) _ _ _ [.slice Ay my cy, .slice none 0 0, .int .i64 0] rfl HO9.out.own rfl rfl (by simp [Value.oneCell']) hol (by decide) hzz ?_)
            intro v' w3 hown' hb3 hkept
            have HB3 := Lib.hid (HB9.out.trans hb3)
            have HIA3 := Lib.hid (HIA9.out.under hb3)
            have HIB3 := Lib.hid ((HIB9.out.under hb3).tail hb1 HNB.out)
            have HO3 := Lib.hid (HO9.out.add (e := RE.mk (.slice Ay my cy) rowy) hown' hkept (HRY9.out.mono fun b hb _ => ⟨hb, fun e => by
              have := (HO9.out.own.lt b e).1
              have := hb.2
              omega⟩))
            have HM3 := Lib.hid (HM.out.snd (leR_of_gt (show 0 < cmpL rowx rowy by rw [HCC.out]; omega)))
            clear hown' hb3 hkept
            go_wp2_with fail
            go_roundw
            case rel => exact ⟨_, _, _, _, _, _, rfl, rfl, rfl, HIA3.out, HIB3.out, HO3.out, HM3, HB3.out⟩
            case measure => simp [lenS] <;> omega
end Go.Proofs.YthejmnmkbldacaaGreatDoor

namespace Go.Proofs.YthejmnmkbldacaaGreatDoor
open Go.RowKit
attribute [local go_sem] Tab.Env.ev Tab.Env.get

set_option maxHeartbeats 2000000 in
set_option maxRecDepth 100000 in
theorem sortRows_any (F F' : Nat → Prop) (v : Value) (l : List RE) (w : World) (hr : RR w F F' v l) (hn : l.length < 2097152) (hsm : SmR l) :
    Calls Tryz.prog 17 #[v] w fun e w' => ∃ v' rs, e = .returned v' ∧ RR w' (fun _ => True) (fun _ => True) v' rs ∧ (rs.map RE.row).Perm (l.map RE.row) ∧ SortedR rs ∧ Below w.heap.size w w' := by
  obtain ⟨hl, A, c, rfl, hc, hm, -⟩ := hr.sl
  unfold maxLen at hm
  have HR := Lib.hid hr
  have HSM := Lib.hid hsm
  clear hr hl hsm
  obtain ⟨n, hln⟩ : ∃ n, l.length = n := ⟨_, rfl⟩
  rw [hln] at hn hc ⊢
  have HN := Lib.hid hln
  clear hln
  go_enter Tryz.func17, Tryz.ntmps17
  go_wp2_with fail
  go_loopw [3, 5, 8] (fun s _ i wr => ∃ (k : Nat) (v : Value) (es : List RE), k ≤ n ∧ v = s ∧ i = .int .i64 k ∧ OwnI wr w.heap.size (fun b => (F' b ∧ b < w.heap.size) ∨ w.heap.size ≤ b) v es ∧ Hid (es.map RE.row = (l.take k).map RE.row) ∧ Below w.heap.size w wr) (fun _ _ i _ => n - (intOf i).toNat)
  case atStart => exact ⟨0, _, [], Nat.zero_le _, rfl, rfl, OwnI.nil _ _ _, Lib.hid rfl, Below.refl _ _⟩
  case round =>
    obtain ⟨k, v, es, hk, rfl, rfl, ho, HE, hbel⟩ := hrel
    have HO := Lib.hid ho
    have HB := Lib.hid hbel
    have helen : es.length = k := by
      have h1 := congrArg List.length HE.out
      rw [List.length_map, List.length_map, List.length_take, HN.out] at h1
      omega
    have HEL := Lib.hid helen
    clear helen
    by_cases hlt : k < n
    · as_aux_lemma =>
      have hkl : k < l.length := by rw [HN.out]; exact hlt
      obtain ⟨b, off, c', A1, m1, c1, row, hv, -, -, hb, -, he, hri, q⟩ := (HR.out.later hbel).at_ (i := k) hkl
      injection hv with e1 _ e2
      subst e1
      subst e2
      have HT := Lib.hid (show (l.take (k + 1)).map RE.row = (l.take k).map RE.row ++ [row] by
        rw [List.take_succ_eq_append_getElem hkl, ← dat_eq hkl, he, List.map_append]
        rfl)
      have hg0 := HR.out.good _ (dat_mem (l := l) (i := k) hkl)
      have hs0 := (HSM.out _ (dat_mem (l := l) (i := k) hkl)).1
      rw [he] at hg0 hs0
      have HCALL := Lib.hid (cloneRow_any _ _ row wr ((show RI w F' (.slice A1 m1 c1) row from hg0).mono (F' := fun b => F' b ∧ b < w.heap.size) (fun b h1 h2 => ⟨h1, h2⟩) |>.later hbel) hs0)
      clear he hri hg0 hs0 ho hbel
      go_wp2_with fail
      refine HCALL.out.mono ?_
      rintro e w1 ⟨rv, rfl, hri, hb1⟩
      obtain ⟨A9, c9, _, _, e9, _⟩ := hri.shape
      subst e9
      have HO1 := Lib.hid (HO.out.later hb1)
      have HB1 := Lib.hid (HB.out.trans (hb1.mono HB.out.size))
      have hz := HB.out.size
      have hz1 := HB1.out.size
      have HRI := Lib.hid (show RI w1 (fun b => ((F' b ∧ b < w.heap.size) ∨ w.heap.size ≤ b) ∧ v.ownBlock ≠ some b) (.slice A9 row.length c9) row from hri.mono fun b hb _ => by
        rcases hb with ⟨hb, _⟩ | hb
        · exact ⟨.inl hb, fun e => by
            have := (HO.out.own.lt b e).1
            have := hb.2
            omega⟩
        · exact ⟨.inr (Nat.le_trans hz hb), fun e => by
            have := (HO.out.own.lt b e).2
            omega⟩)
      have hel : es.length < 1073741824 := by rw [HEL.out]; omega
      clear hri hb1 HCALL
      go_wp2_with (at_builtin; refine append_own2 w1 rfl (.tmp 12) (.tmp 16) 97 rfl w.heap.size 100 underI6 infoI6 rfl (by decide) _ _ _ [.slice A9 row.length c9, .slice none 0 0, .int .i64 0] rfl HO1.out.own rfl rfl (by simp [Value.oneCell']) hel (by decide) hz1 ?_)
      intro v' w2 hown' hb2 hkept
      have HB2 := Lib.hid (HB1.out.trans hb2)
      have O2 := Lib.hid (HO1.out.add (e := RE.mk (.slice A9 row.length c9) row) hown' hkept HRI.out)
      have HE2 := Lib.hid (show (es ++ [RE.mk (.slice A9 row.length c9) row]).map RE.row = (l.take (k + 1)).map RE.row by
        rw [HT.out, List.map_append, HE.out]
        rfl)
      clear hown' hb2 hkept
      go_wp2_with fail
      go_roundw
      case rel => exact ⟨k + 1, _, _, hlt, rfl, by go_num, O2.out, HE2, HB2.out⟩
      case measure => simp [intOf] <;> omega
    · as_aux_lemma =>
      obtain rfl : k = n := by omega
      have HE2 := Lib.hid (show es.map RE.row = l.map RE.row by rw [HE.out, ← HN.out, List.take_length])
      obtain ⟨_, Ae, ce, ee, _, _, _⟩ := ho.it.sl
      subst ee
      have HCALL := Lib.hid (sorted_any k _ _ _ es wr HEL.out hn ho.it)
      rw [HEL.out] at HCALL ⊢
      clear ho hbel
      go_wp2_with fail
      refine HCALL.out.mono ?_
      rintro e w1 ⟨v1, l', rfl, hit, hp, hso, hb1⟩
      have HB1 := Lib.hid (HB.out.trans (hb1.mono HB.out.size))
      have HP := Lib.hid (And.intro hp hso)
      have hll : l'.length < 1073741824 := by rw [hp.length_eq, HEL.out]; omega
      have HCALL2 := Lib.hid (rowsOf_any _ _ v1 l' w1 hit hll)
      clear hit hp hso hb1 HCALL hll
      go_wp2_with fail
      refine HCALL2.out.mono ?_
      rintro e w2 ⟨v2, rfl, ho2, hb2⟩
      have HB2 := Lib.hid (HB1.out.trans (hb2.mono HB1.out.size))
      have HO2 := Lib.hid ho2
      clear hb2 ho2 HCALL2
      go_wp2_with fail
      go_ret
      exact ⟨v2, l', rfl, HO2.out.rr.mono (fun _ _ _ => trivial) (fun _ _ _ => trivial), by rw [← HE2.out]; exact HP.out.1.map _, HP.out.2, HB2.out⟩
end Go.Proofs.YthejmnmkbldacaaGreatDoor
