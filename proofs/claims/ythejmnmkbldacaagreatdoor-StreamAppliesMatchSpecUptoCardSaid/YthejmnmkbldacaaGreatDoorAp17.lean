/-
  What is proved: rows that a call builds; package value's Copy returns an equal value in new memory. Conditions: no list in the value has 2^30 elements or more.
  What is proved: copyRow returns an equal row in new memory; ones makes differences of rows. Conditions: no list has 2^30 elements or more.
  What is proved: reading and swapping in a row of differences; the comparison that a canonical list is sorted by. Conditions: none.
  What is proved: the steps of a walk by the table where a region holds two stores, one behind the other. Conditions: none.
-/
import Derived.Test.YthejmnmkbldacaaGreatDoorAp13
import Derived.Maps.AppendAt
import Derived.Test.YthejmnmkbldacaaGreatDoorAp12
import Derived.Test.YthejmnmkbldacaaGreatDoorAp09
import Derived.Test.YthejmnmkbldacaaGreatDoorAp02
set_option linter.all false
namespace Go.Proofs.YthejmnmkbldacaaGreatDoor
open Go.RowKit
attribute [local go_sem] Tab.Env.ev Tab.Env.get

/-- what an append onto a row of the call's own leaves alone -/
structure Kept (wr w' : World) (v v' : Value) : Prop where
  size : wr.heap.size ≤ w'.heap.size
  block : ∀ b, b < wr.heap.size → v.ownBlock ≠ some b → w'.heap[b]? = wr.heap[b]? ∧ v'.ownBlock ≠ some b
theorem Kept.ri {wr w' : World} {v v' s : Value} {F : Nat → Prop} {l : List VD} (h : Kept wr w' v v') (hr : RI wr (fun b => F b ∧ v.ownBlock ≠ some b) s l) : RI w' (fun b => F b ∧ v'.ownBlock ≠ some b) s l :=
  hr.keep h.size fun b hF hlt => ⟨(h.block b hlt hF.2).1, hF.1, (h.block b hlt hF.2).2⟩
/-- append of one element that lies in a new block -/
theorem append_own2 {P : Program} (wr : World) {ops : Array Oper} {rest : List Oper} {o : Oper} {a : Act} {Q : Exit → Act → World → Prop} (hgd : o.guard = none) (s x : Operand) (t : TypeId)
    (ho : o.op = .call { callee := .builtin .append, args := #[s, x], argTypes := #[t, t] }) (base : Nat) (e : TypeId) {z : Value} {size bytes : Nat} (ht : P.underlying t = some (.slice e))
    (hinfo : (P.info? e).map (fun i => (i.zero, i.size, i.bytes)) = some (some z, size, bytes)) (hzs : z.cells.size = size) (hsz : 0 < size) (v : Value) (n : Nat) (xs us : List Value) (hs : a.eval s = v) (hown : wr.ownsRow base e size v n xs)
    (hx : a.eval x = .slice (some ⟨wr.heap.size, 0, none⟩) 1 1) (hl : us.length = size) (h1 : ∀ u ∈ us, u.oneCell' = true) (hn : n < 1073741824) (hby : bytes ≤ 65536) (hbase : base ≤ wr.heap.size)
    (h : ∀ v' w', w'.ownsRow base e size v' (n + 1) (xs ++ us) → Below base wr w' → Kept wr w' v v' → wpList P ops Q rest (a.put o.dst v') w') : wpList P ops Q (o :: rest) a (wr.alloc (.cells us.toArray e)) := by
  obtain ⟨i, hi, hz, hsize, hbytes⟩ := info_parts hinfo
  refine wpList_append_own_at _ hgd s x t ho base e i z size bytes ht hi hz hsize hbytes hzs hsz v n xs hs (hown.alloc _) ⟨wr.heap.size, 0, none⟩ 1 1 us hx (by omega) (fun j u hj => ?_) h1 (by unfold maxLen; omega) ?_ (by simp; omega) ?_
  · rw [show (⟨wr.heap.size, 0, none⟩ : Addr).add j = ⟨wr.heap.size, j, none⟩ by simp [Addr.add]; rintro rfl; rfl]
    rw [cell_of_row _ wr.heap.size j us.toArray e (0, 0) (heap_alloc_new wr _)]
    simpa using hj
  · have := Nat.mul_le_mul (show n + 1 ≤ 1073741824 by omega) hby
    omega
  · intro v' w' ho' hg _ hat
    have hlt : ∀ b, v.ownBlock = some b → b < wr.heap.size := fun b hb => (hown.lt b hb).2
    refine h v' w' ho' (((Below.refl base wr).alloc hbase _).trans (below_grown (hown.alloc _) hg (by simp; omega))) ⟨?_, fun b hb hne => ⟨?_, ?_⟩⟩
    · have := hg.size
      simp at this
      omega
    · rw [hg.block b (by simp; omega) (fun e => hne e.symm)]
      exact Below.heap_alloc wr _ b hb
    · rcases hat with e1 | e1
      · rw [e1]; exact hne
      · rw [e1]
        intro h2
        injection h2 with h2
        simp at h2
        omega

/-- append of elements that lie somewhere -/
theorem append_own3 {P : Program} (w : World) {ops : Array Oper} {rest : List Oper} {o : Oper} {a : Act} {Q : Exit → Act → World → Prop} (hgd : o.guard = none) (s x : Operand) (t : TypeId)
    (ho : o.op = .call { callee := .builtin .append, args := #[s, x], argTypes := #[t, t] }) (base : Nat) (e : TypeId) {z : Value} {size bytes : Nat} (ht : P.underlying t = some (.slice e))
    (hinfo : (P.info? e).map (fun i => (i.zero, i.size, i.bytes)) = some (some z, size, bytes)) (hzs : z.cells.size = size) (hsz : 0 < size) (v : Value) (n : Nat) (xs us : List Value) (hs : a.eval s = v) (hown : w.ownsRow base e size v n xs)
    (b off m c : Nat) (hx : a.eval x = .slice (some ⟨b, off, none⟩) m c) (hl : us.length = m * size) (hc : ∀ j u, us[j]? = some u → w.cell? ⟨b, off + j, none⟩ = some u) (h1 : ∀ u ∈ us, u.oneCell' = true) (hn : n + m < 1073741824) (hby : bytes ≤ 65536) (hbase : base ≤ w.heap.size)
    (h : ∀ v' w', w'.ownsRow base e size v' (n + m) (xs ++ us) → Below base w w' → Kept w w' v v' → wpList P ops Q rest (a.put o.dst v') w') : wpList P ops Q (o :: rest) a w := by
  obtain ⟨i, hi, hz, hsize, hbytes⟩ := info_parts hinfo
  refine wpList_append_own_at _ hgd s x t ho base e i z size bytes ht hi hz hsize hbytes hzs hsz v n xs hs hown ⟨b, off, none⟩ m c us hx hl (fun j u hj => ?_) h1 (by unfold maxLen; omega) ?_ hbase ?_
  · rw [show (⟨b, off, none⟩ : Addr).add j = ⟨b, off + j, none⟩ by simp [Addr.add]]
    exact hc j u hj
  · have := Nat.mul_le_mul (show n + m ≤ 1073741824 by omega) hby
    omega
  · intro v' w' ho' hg _ hat
    refine h v' w' ho' (below_grown hown hg hbase) ⟨hg.size, fun b hb hne => ⟨hg.block b hb (fun e => hne e.symm), ?_⟩⟩
    rcases hat with e1 | e1
    · rw [e1]; exact hne
    · rw [e1]
      intro h2
      injection h2 with h2
      omega

/-- a value as it lies in memory -/
structure VE where
  x : VD
  A : Option Addr
  c : Nat
instance : Inhabited VE := ⟨⟨default, none, 0⟩⟩
def VE.cells (e : VE) : List Value := [.int .i64 e.x.k, .int .i64 e.x.n, .int .i64 e.x.sc, .string e.x.s, .slice e.A e.x.items.length e.c]
def vcells (l : List VE) : List Value := l.flatMap VE.cells
theorem vcells_append (l r : List VE) : vcells (l ++ r) = vcells l ++ vcells r := List.flatMap_append
theorem vcells_get (l : List VE) (i j : Nat) (hj : j < 5) : (vcells l)[i * 5 + j]? = (l[i]?).bind fun e => e.cells[j]? := by
  induction l generalizing i with
  | nil => simp [vcells]
  | cons e l ih =>
    have e1 : vcells (e :: l) = e.cells ++ vcells l := rfl
    have e2 : e.cells.length = 5 := rfl
    rw [e1]
    cases i with
    | zero => rw [List.getElem?_append_left (by omega)]; simp
    | succ i => rw [List.getElem?_append_right (by omega), show (i + 1) * 5 + j - e.cells.length = i * 5 + j by omega, ih i]; simp
theorem vcells_one (l : List VE) : ∀ u ∈ vcells l, u.oneCell' = true := by
  intro u hu
  obtain ⟨e, _, h⟩ := List.mem_flatMap.1 hu
  simp [VE.cells] at h
  rcases h with rfl | rfl | rfl | rfl | rfl <;> rfl
/-- a row of values of the call's own, whose lists lie elsewhere in F -/
structure OwnV (w : World) (base : Nat) (F : Nat → Prop) (v : Value) (es : List VE) : Prop where
  own : w.ownsRow base 33 5 v es.length (vcells es)
  good : ∀ e, e ∈ es → e.x.ok ∧ RI w (fun b => F b ∧ v.ownBlock ≠ some b) (.slice e.A e.x.items.length e.c) e.x.items
theorem OwnV.nil (w : World) (base : Nat) (F : Nat → Prop) : OwnV w base F (.slice none 0 0) [] := ⟨World.ownsRow_nil _ _ _ _, fun _ h => by cases h⟩
theorem OwnV.ri {w : World} {base : Nat} {F : Nat → Prop} {v : Value} {es : List VE} (h : OwnV w base F v es) : RI w (fun b => F b ∨ base ≤ b) v (es.map VE.x) := by
  have hsl := SL.of_own h.own
  obtain ⟨hl, A, c, rfl, h1, h2, h3⟩ := hsl
  have hm : ∀ i, i < es.length → es[i]? = some (dat es i) := fun i hi => dat_some hi
  have hx : ∀ i, i < es.length → at_ (es.map VE.x) i = (dat es i).x := fun i hi => by
    unfold at_
    rw [List.getD_eq_getElem?_getD, List.getElem?_map, hm i hi]
    rfl
  have hlen : (es.map VE.x).length = es.length := List.length_map _
  have := RI.mk (w := w) (F := fun b => F b ∨ base ≤ b) A c (es.map VE.x) (fun i => (dat es i).A) (fun i => (dat es i).c) (by omega) h2 (fun hn => by
    obtain ⟨b, off, hA, hb, hlt, hc⟩ := h3 (by omega)
    refine ⟨b, off, hA, .inr hb, hlt, fun i hi => ?_⟩
    rw [hlen] at hi
    rw [hx i hi]
    have q : ∀ j, j < 5 → w.cell? ⟨b, off + i * 5 + j, none⟩ = (dat es i).cells[j]? := fun j hj => by
      have h5 : (vcells es)[i * 5 + j]? = (dat es i).cells[j]? := by rw [vcells_get es i j hj, hm i hi]; rfl
      have h6 : j < (dat es i).cells.length := hj
      rw [List.getElem?_eq_getElem h6] at h5 ⊢
      rw [Nat.add_assoc]
      exact hc _ _ h5
    exact ⟨q 0 (by omega), q 1 (by omega), q 2 (by omega), q 3 (by omega), q 4 (by omega)⟩) (fun i hi => by rw [hx i (by omega)]; exact (h.good _ (dat_mem (by omega))).1) (fun i hi => by
    rw [hx i (by omega)]
    exact (h.good _ (dat_mem (by omega))).2.mono fun b hb _ => .inl hb.1)
  rwa [hlen] at this
/-- one more -/
theorem OwnV.add {wr w' : World} {base : Nat} {F : Nat → Prop} {v v' : Value} {es : List VE} {e : VE} (h : OwnV wr base F v es) (ho : w'.ownsRow base 33 5 v' (es.length + 1) (vcells es ++ e.cells)) (hk : Kept wr w' v v') (hok : e.x.ok)
    (hr : RI wr (fun b => F b ∧ v.ownBlock ≠ some b) (.slice e.A e.x.items.length e.c) e.x.items) : OwnV w' base F v' (es ++ [e]) :=
  ⟨by rw [vcells_append, List.length_append]; simpa [vcells] using ho, fun d hd => by
    rcases List.mem_append.1 hd with hd | hd
    · exact ⟨(h.good d hd).1, hk.ri (h.good d hd).2⟩
    · rw [List.mem_singleton.1 hd]; exact ⟨hok, hk.ri hr⟩⟩
/-- new blocks -/
theorem OwnV.later {w w' : World} {base : Nat} {F : Nat → Prop} {v : Value} {es : List VE} (h : OwnV w base F v es) (hb : Below w.heap.size w w') : OwnV w' base F v es := by
  refine ⟨⟨h.own.1, h.own.2.elim .inl fun ⟨g, cap, cur, h1, h2, h3, h4⟩ => .inr ⟨g, cap, cur, h1, h2, ?_, h4⟩⟩, fun e he => ⟨(h.good e he).1, (h.good e he).2.later hb⟩⟩
  rw [hb.block g (lt_of_block h3)]
  exact h3

mutual
/-- no list in it is long -/
def smV : VD → Prop
  | .mk _ _ _ _ l => l.length < 1073741824 ∧ smL l
def smL : List VD → Prop
  | [] => True
  | a :: l => smV a ∧ smL l
end
theorem smL_mem {l : List VD} (h : smL l) : ∀ x, x ∈ l → smV x := by
  induction l with
  | nil => intro x hx; cases hx
  | cons a l ih =>
    intro x hx
    rcases List.mem_cons.1 hx with rfl | hx
    · exact h.1
    · exact ih h.2 x hx
theorem smV_items {x : VD} (h : smV x) : x.items.length < 1073741824 ∧ ∀ y, y ∈ x.items → smV y := by
  cases x with
  | mk k n sc s l => exact ⟨h.1, smL_mem h.2⟩

/-- Copy's contract at a value -/
def CopyAt (x : VD) : Prop := ∀ (F : Nat → Prop) (va : Value) (w : World), VAgg w F va x → smV x →
  Calls Tryz.prog 123 #[va] w fun e w' => ∃ vb, e = .returned vb ∧ VAgg w' (fun b => w.heap.size ≤ b) vb x ∧ Below w.heap.size w w'

theorem take_at {l : List VD} {k : Nat} (h : k < l.length) : l.take (k + 1) = l.take k ++ [at_ l k] := by
  unfold at_
  rw [List.take_succ_eq_append_getElem h, List.getD_eq_getElem?_getD, List.getElem?_eq_getElem h]
  rfl

set_option maxHeartbeats 2000000 in
theorem copy_step (x : VD) (H : ∀ y, y ∈ x.items → CopyAt y) : CopyAt x := by
  intro F va w hv hsm
  obtain ⟨A, c, rfl, hok, hr⟩ := hv
  obtain ⟨A', c', iA, iC, hv, hc, hm, hs, hw, hri⟩ := hr.shape
  injection hv with e1 _ e2
  subst e1
  subst e2
  obtain ⟨hn, hsi⟩ := smV_items hsm
  have HH := Lib.hid H
  have HSI := Lib.hid hsi
  have HS := Lib.hid hs
  have HW := Lib.hid hw
  have HR := Lib.hid hri
  have HOK := Lib.hid hok
  clear H hsi hs hw hri hr hsm hok
  unfold maxLen at hm
  obtain ⟨n, hln⟩ : ∃ n, x.items.length = n := ⟨_, rfl⟩
  rw [hln] at hn hc ⊢
  have HN := Lib.hid hln
  clear hln
  go_enter Tryz.func123, Tryz.ntmps123
  have B0 : Blk ((w.alloc (.cells #[.int .i64 x.k, .int .i64 x.n, .int .i64 x.sc, .string x.s, .slice A n c] 33)).alloc (.cells #[.int .i64 0, .int .i64 0, .int .i64 0, .string .empty, .slice none 0 0] 33)) w.heap.size 33 [.int .i64 x.k, .int .i64 x.n, .int .i64 x.sc, .string x.s, .slice A n c] := (Blk.new w _ _).alloc _
  have B1 : Blk ((w.alloc (.cells #[.int .i64 x.k, .int .i64 x.n, .int .i64 x.sc, .string x.s, .slice A n c] 33)).alloc (.cells #[.int .i64 0, .int .i64 0, .int .i64 0, .string .empty, .slice none 0 0] 33)) (w.heap.size + 1) 33 [.int .i64 0, .int .i64 0, .int .i64 0, .string .empty, .slice none 0 0] := by
    have h := Blk.new (w.alloc (.cells #[.int .i64 x.k, .int .i64 x.n, .int .i64 x.sc, .string x.s, .slice A n c] 33)) 33 [.int .i64 0, .int .i64 0, .int .i64 0, .string .empty, .slice none 0 0]
    simpa using h
  have hbel : Below w.heap.size w ((w.alloc (.cells #[.int .i64 x.k, .int .i64 x.n, .int .i64 x.sc, .string x.s, .slice A n c] 33)).alloc (.cells #[.int .i64 0, .int .i64 0, .int .i64 0, .string .empty, .slice none 0 0] 33)) := (below_new w _).alloc (by simp) _
  have START := Lib.hid (And.intro B0 (And.intro B1 hbel))
  clear B0 B1 hbel
  go_wp2_with fail
  go_loopw [3, 5, 9] (fun s _ i wr => ∃ (k : Nat) (es : List VE) (v : Value), k ≤ n ∧ v = s ∧ i = .int .i64 k ∧ OwnV wr (w.heap.size + 2) (fun b => w.heap.size + 2 ≤ b) v es ∧ Hid (es.map VE.x = x.items.take k) ∧ Below w.heap.size w wr ∧ w.heap.size + 2 ≤ wr.heap.size ∧
    Blk wr w.heap.size 33 [.int .i64 x.k, .int .i64 x.n, .int .i64 x.sc, .string x.s, .slice A n c] ∧ Blk wr (w.heap.size + 1) 33 [.int .i64 0, .int .i64 0, .int .i64 0, .string .empty, .slice none 0 0]) (fun _ _ i _ => n - (intOf i).toNat)
  case atStart => exact ⟨0, [], _, Nat.zero_le _, rfl, rfl, OwnV.nil _ _ _, Lib.hid (by simp), START.out.2.2, by simp, START.out.1, START.out.2.1⟩
  case round =>
    clear START
    obtain ⟨k, es, v, hk, rfl, rfl, ho, HE, hbel, hsz, b0, b1⟩ := hrel
    have HO := Lib.hid ho
    by_cases hlt : k < n
    · obtain ⟨b, off, rfl, hF, hb, hcells⟩ := HS.out (by rw [HN.out]; omega)
      have q := (hcells k (by rw [HN.out]; exact hlt)).keep (hbel.block b hb)
      obtain ⟨q1, q2, q3, q4, q5⟩ := q
      have hbw : b < wr.heap.size := by have := hbel.size; omega
      have HY := Lib.hid (HR.out k (by rw [HN.out]; exact hlt))
      have HYW := Lib.hid (HW.out k (by rw [HN.out]; exact hlt))
      have hym : at_ x.items k ∈ x.items := at_mem (by rw [HN.out]; exact hlt)
      have HYC := Lib.hid (HH.out _ hym)
      have HYS := Lib.hid (HSI.out _ hym)
      have HT := Lib.hid (take_at (l := x.items) (k := k) (by rw [HN.out]; exact hlt))
      clear hcells hym
      generalize at_ x.items k = y at *
      have hlen : es.length = k := by
        have := congrArg List.length HE.out
        rw [List.length_map, List.length_take, HN.out] at this
        omega
      have HLEN := Lib.hid hlen
      have HC := Lib.hid (fun (W : World) (hW : Below w.heap.size w W) => HYC.out F (.agg #[.int .i64 y.k, .int .i64 y.n, .int .i64 y.sc, .string y.s, .slice (iA k) y.items.length (iC k)]) W ⟨_, _, rfl, HYW.out, HY.out.later hW⟩ HYS.out)
      clear hlen
      go_wp2_with fail
      generalize hW : wr.alloc (.cells #[.int .i64 y.k, .int .i64 y.n, .int .i64 y.sc, .string y.s, .slice (iA k) y.items.length (iC k)] 33) = W
      have hbW : Below wr.heap.size wr W := hW ▸ below_new wr _
      have HBW := Lib.hid hbW
      clear hW
      refine (HC.out W (hbel.trans (hbW.mono hbel.size))).mono ?_
      rintro e w1 ⟨vb, rfl, hvb, hb1⟩
      obtain ⟨A1, c1, rfl, -, hr1⟩ := hvb
      have O1 := Lib.hid ((HO.out.later hbW).later hb1)
      have hs1 : W.heap.size ≤ w1.heap.size := hb1.size
      have hs0 : wr.heap.size ≤ W.heap.size := hbW.size
      have HB1 := Lib.hid hb1
      have HR1 := Lib.hid hr1
      clear hb1 hr1 HC hbW
      go_wp2_with (at_builtin; refine append_own2 w1 rfl (.tmp 13) (.tmp 16) 31 rfl (w.heap.size + 2) 33 underV infoV rfl (by decide) _ _ _ (VE.cells ⟨y, A1, c1⟩) rfl O1.out.own rfl rfl (by simp [VE.cells, Value.oneCell']) (by rw [HLEN.out]; omega) (by decide) (by omega) ?_)
      intro v' w2 hown' hb2 hkept
      have hbel2 := (hbel.trans (HBW.out.mono hbel.size)).trans ((HB1.out.mono (Nat.le_trans hbel.size hs0)).trans (hb2.mono (Nat.le_add_right _ 2)))
      have hnb : ∀ b, W.heap.size ≤ b → v.ownBlock ≠ some b := fun b hb he => by
        have := (HO.out.own.lt b he).2
        omega
      have O2 := Lib.hid (O1.out.add (e := VE.mk y A1 c1) hown' hkept HYW.out (HR1.out.mono fun b hb _ => ⟨by show w.heap.size + 2 ≤ b; omega, hnb b hb⟩))
      have hsz2 : w.heap.size + 2 ≤ w2.heap.size := by have := hkept.size; omega
      have b0' := ((b0.below HBW.out (by omega)).below HB1.out (by omega)).below hb2 (by omega)
      have b1' := ((b1.below HBW.out (by omega)).below HB1.out (by omega)).below hb2 (by omega)
      have HE2 := Lib.hid (show (es ++ [VE.mk y A1 c1]).map VE.x = x.items.take (k + 1) by rw [HT.out, List.map_append, HE.out]; rfl)
      clear hown' hb2 hkept hnb b0 b1 ho hbel
      go_wp2_with fail
      go_roundw
      case rel => exact ⟨k + 1, _, _, hlt, rfl, by go_num, O2.out, HE2, hbel2, hsz2, b0', b1'⟩
      case measure => simp [intOf] <;> omega
    · obtain rfl : k = n := by omega
      have HI := Lib.hid (HO.out.ri)
      have HE2 := Lib.hid (show es.map VE.x = x.items by rw [HE.out, ← HN.out, List.take_length])
      have HOB := Lib.hid (HO.out.own)
      obtain ⟨hl, A1, c1, rfl, g1, g2, g3⟩ := SL.of_own HO.out.own
      have HLEN := Lib.hid (show es.length = k by have := congrArg List.length HE2.out; rw [List.length_map, HN.out] at this; exact this)
      rw [HLEN.out] at g1 g3 ⊢
      have HCL := Lib.hid (fun W => clipV_any A1 k c1 (fun h0 => by
        rcases Nat.eq_zero_or_pos k with h | h
        · exact h
        · obtain ⟨b, off, e, _⟩ := g3 h
          rw [h0] at e; cases e) g1 g2 W)
      clear g3 hl ho
      go_wp2_with fail
      refine (HCL.out _).mono ?_
      rintro e w1 ⟨rfl, rfl⟩
      have q0 := wcell5 b0
      have q1 := wcell5 b1
      have f0 := b0.frozen
      have f1 := b1.frozen
      go_wp2_with fail
      have hfin := wcell5 ((b1.farB (b := w.heap.size) (i := 4) (by omega) (.slice A1 k (clipCap A1 k))).set5 (.int .i64 x.k) (.int .i64 x.n) (.int .i64 x.sc) (.string x.s) (.slice A1 k (clipCap A1 k)))
      have hext : Tab.Ext (fun b => b < w.heap.size + 2 ∧ w.heap.size ≤ b) wr ((((((wr.setCell ⟨w.heap.size, 4, none⟩ (.slice A1 k (clipCap A1 k))).setCell ⟨w.heap.size + 1, 0, none⟩ (.int .i64 x.k)).setCell ⟨w.heap.size + 1, 1, none⟩ (.int .i64 x.n)).setCell ⟨w.heap.size + 1, 2, none⟩ (.int .i64 x.sc)).setCell ⟨w.heap.size + 1, 3, none⟩ (.string x.s)).setCell ⟨w.heap.size + 1, 4, none⟩ (.slice A1 k (clipCap A1 k))) := by
        have f : ∀ {u : World} (b i : Nat) (t : Value), w.heap.size ≤ b → b < w.heap.size + 2 → Tab.Ext (fun b => b < w.heap.size + 2 ∧ w.heap.size ≤ b) wr u → Tab.Ext (fun b => b < w.heap.size + 2 ∧ w.heap.size ≤ b) wr (u.setCell ⟨b, i, none⟩ t) := fun b i t h1 h2 h => h.setCell (p := ⟨b, i, none⟩) (.inl ⟨h2, h1⟩) t
        exact f _ 4 _ (by omega) (by omega) (f _ 3 _ (by omega) (by omega) (f _ 2 _ (by omega) (by omega) (f _ 1 _ (by omega) (by omega) (f _ 0 _ (by omega) (by omega) (f _ 4 _ (by omega) (by omega) (Tab.Ext.refl _ _))))))
      have hbf := below_set5 (hbel.setCell (p := ⟨w.heap.size, 4, none⟩) (Nat.le_refl _) (.slice A1 k (clipCap A1 k))) (b := w.heap.size + 1) (Nat.le_succ _) (.int .i64 x.k) (.int .i64 x.n) (.int .i64 x.sc) (.string x.s) (.slice A1 k (clipCap A1 k))
      have hri := HI.out
      rw [HE2.out, HLEN.out, ← HN.out] at hri
      have hri2 := (hri.clip.ext hext (fun b hb hm => by rcases hb with hb | hb <;> omega)).mono (F' := fun b => w.heap.size ≤ b) (fun b hb _ => by rcases hb with hb | hb <;> omega)
      rw [HN.out] at hri2
      exact bodyPost_ret (v := .agg #[.int .i64 x.k, .int .i64 x.n, .int .i64 x.sc, .string x.s, .slice A1 k (clipCap A1 k)]) (by simp [results, Tryz.results123, go_sem, hfin]) rfl ⟨_, rfl, ⟨A1, _, by rw [HN.out], HOK.out, by rw [HN.out]; exact hri2⟩, hbf⟩

theorem copyAt (x : VD) : CopyAt x := copy_step x fun y _ => copyAt y
termination_by SizeOf.sizeOf x
decreasing_by
  rename_i hy
  have := List.sizeOf_lt_of_mem hy
  cases x
  simp only [VD.items] at this
  simp
  omega
end Go.Proofs.YthejmnmkbldacaaGreatDoor

namespace Go.Proofs.YthejmnmkbldacaaGreatDoor
open Go.RowKit
attribute [local go_sem] Tab.Env.ev Tab.Env.get

set_option maxHeartbeats 2000000 in
theorem copyRow_any (F : Nat → Prop) (v : Value) (l : List VD) (w : World) (hr : RI w F v l) (hn : l.length < 1073741824) (hsm : ∀ x, x ∈ l → smV x) :
    Calls Tryz.prog 73 #[v] w fun e w' => ∃ v', e = .returned v' ∧ RI w' (fun b => w.heap.size ≤ b) v' l ∧ Below w.heap.size w w' := by
  obtain ⟨A, c, iA, iC, rfl, hc, hm, hs, hw, hri⟩ := hr.shape
  have HSI := Lib.hid hsm
  have HS := Lib.hid hs
  have HW := Lib.hid hw
  have HR := Lib.hid hri
  clear hsm hs hw hri hr
  unfold maxLen at hm
  obtain ⟨n, hln⟩ : ∃ n, l.length = n := ⟨_, rfl⟩
  rw [hln] at hn hc ⊢
  have HN := Lib.hid hln
  clear hln
  go_enter Tryz.func73, Tryz.ntmps73
  go_wp2_with fail
  go_loopw [3, 5, 8] (fun s _ i wr => ∃ (k : Nat) (es : List VE) (v : Value), k ≤ n ∧ v = s ∧ i = .int .i64 k ∧ OwnV wr w.heap.size (fun b => w.heap.size ≤ b) v es ∧ Hid (es.map VE.x = l.take k) ∧ Below w.heap.size w wr) (fun _ _ i _ => n - (intOf i).toNat)
  case atStart => exact ⟨0, [], _, Nat.zero_le _, rfl, rfl, OwnV.nil _ _ _, Lib.hid (by simp), Below.refl _ _⟩
  case round =>
    obtain ⟨k, es, v, hk, rfl, rfl, ho, HE, hbel⟩ := hrel
    have HO := Lib.hid ho
    by_cases hlt : k < n
    · obtain ⟨b, off, rfl, hF, hb, hcells⟩ := HS.out (by rw [HN.out]; omega)
      have q := (hcells k (by rw [HN.out]; exact hlt)).keep (hbel.block b hb)
      obtain ⟨q1, q2, q3, q4, q5⟩ := q
      have hbw : b < wr.heap.size := by have := hbel.size; omega
      have HY := Lib.hid (HR.out k (by rw [HN.out]; exact hlt))
      have HYW := Lib.hid (HW.out k (by rw [HN.out]; exact hlt))
      have hym : at_ l k ∈ l := at_mem (by rw [HN.out]; exact hlt)
      have HYS := Lib.hid (HSI.out _ hym)
      have HT := Lib.hid (take_at (l := l) (k := k) (by rw [HN.out]; exact hlt))
      clear hcells hym
      generalize at_ l k = y at *
      have hlen : es.length = k := by
        have := congrArg List.length HE.out
        rw [List.length_map, List.length_take, HN.out] at this
        omega
      have HLEN := Lib.hid hlen
      have HC := Lib.hid (fun (W : World) (hW : Below w.heap.size w W) => copyAt y F (.agg #[.int .i64 y.k, .int .i64 y.n, .int .i64 y.sc, .string y.s, .slice (iA k) y.items.length (iC k)]) W ⟨_, _, rfl, HYW.out, HY.out.later hW⟩ HYS.out)
      clear hlen
      go_wp2_with fail
      generalize hW : wr.alloc (.cells #[.int .i64 y.k, .int .i64 y.n, .int .i64 y.sc, .string y.s, .slice (iA k) y.items.length (iC k)] 33) = W
      have hbW : Below wr.heap.size wr W := hW ▸ below_new wr _
      have HBW := Lib.hid hbW
      clear hW
      refine (HC.out W (hbel.trans (hbW.mono hbel.size))).mono ?_
      rintro e w1 ⟨vb, rfl, hvb, hb1⟩
      obtain ⟨A1, c1, rfl, -, hr1⟩ := hvb
      have O1 := Lib.hid ((HO.out.later hbW).later hb1)
      have hs1 : W.heap.size ≤ w1.heap.size := hb1.size
      have hs0 : wr.heap.size ≤ W.heap.size := hbW.size
      have hs2 : w.heap.size ≤ wr.heap.size := hbel.size
      have HB1 := Lib.hid hb1
      have HR1 := Lib.hid hr1
      clear hb1 hr1 HC hbW
      go_wp2_with (at_builtin; refine append_own2 w1 rfl (.tmp 12) (.tmp 15) 31 rfl w.heap.size 33 underV infoV rfl (by decide) _ _ _ (VE.cells ⟨y, A1, c1⟩) rfl O1.out.own rfl rfl (by simp [VE.cells, Value.oneCell']) (by rw [HLEN.out]; omega) (by decide) (by omega) ?_)
      intro v' w2 hown' hb2 hkept
      have hbel2 := (hbel.trans (HBW.out.mono hbel.size)).trans ((HB1.out.mono (Nat.le_trans hbel.size hs0)).trans hb2)
      have hnb : ∀ b, W.heap.size ≤ b → v.ownBlock ≠ some b := fun b hb he => by
        have := (HO.out.own.lt b he).2
        omega
      have O2 := Lib.hid (O1.out.add (e := VE.mk y A1 c1) hown' hkept HYW.out (HR1.out.mono fun b hb _ => ⟨by show w.heap.size ≤ b; omega, hnb b hb⟩))
      have HE2 := Lib.hid (show (es ++ [VE.mk y A1 c1]).map VE.x = l.take (k + 1) by rw [HT.out, List.map_append, HE.out]; rfl)
      clear hown' hb2 hkept hnb ho hbel
      go_wp2_with fail
      go_roundw
      case rel => exact ⟨k + 1, _, _, hlt, rfl, by go_num, O2.out, HE2, hbel2⟩
      case measure => simp [intOf] <;> omega
    · obtain rfl : k = n := by omega
      have HI := Lib.hid (HO.out.ri)
      have HE2 := Lib.hid (show es.map VE.x = l by rw [HE.out, ← HN.out, List.take_length])
      obtain ⟨hl, A1, c1, rfl, g1, g2, g3⟩ := SL.of_own HO.out.own
      have HLEN := Lib.hid (show es.length = k by have := congrArg List.length HE2.out; rw [List.length_map, HN.out] at this; exact this)
      rw [HLEN.out] at g1 g3 ⊢
      have HCL := Lib.hid (fun W => clipV_any A1 k c1 (fun h0 => by
        rcases Nat.eq_zero_or_pos k with h | h
        · exact h
        · obtain ⟨b, off, e, _⟩ := g3 h
          rw [h0] at e; cases e) g1 g2 W)
      clear g3 hl ho
      go_wp2_with fail
      refine (HCL.out _).mono ?_
      rintro e w1 ⟨rfl, rfl⟩
      go_wp2_with fail
      have hri := HI.out
      rw [HE2.out, HLEN.out, ← HN.out] at hri
      have hri2 := hri.clip.mono (F' := fun b => w.heap.size ≤ b) (fun b hb _ => by rcases hb with hb | hb <;> exact hb)
      rw [HN.out] at hri2
      go_ret
      exact ⟨_, rfl, hri2, hbel⟩

/-- a row as it lies in memory -/
structure RE where
  rv : Value
  row : List VD
instance : Inhabited RE := ⟨⟨undef, []⟩⟩
/-- a slice that reads as a list of rows; its own memory in F, its rows' in F' -/
structure RR (w : World) (F F' : Nat → Prop) (v : Value) (l : List RE) : Prop where
  sl : SL w F 1 v l.length (l.map RE.rv)
  good : ∀ e, e ∈ l → RI w F' e.rv e.row
section
variable {w w' : World} {F F' F2 F2' : Nat → Prop} {v : Value} {l : List RE}
theorem RR.ext {M : Nat → Prop} (h : RR w F F' v l) (hb : Tab.Ext M w w') (hM : ∀ b, F b → ¬ M b) (hM' : ∀ b, F' b → ¬ M b) : RR w' F F' v l := ⟨h.sl.ext hb hM, fun d hd => (h.good d hd).ext hb hM'⟩
theorem RR.later (h : RR w F F' v l) (hb : Below w.heap.size w w') : RR w' F F' v l := ⟨h.sl.later hb, fun d hd => (h.good d hd).later hb⟩
theorem RR.mono (h : RR w F F' v l) (h1 : ∀ b, F b → b < w.heap.size → F2 b) (h2 : ∀ b, F' b → b < w.heap.size → F2' b) : RR w F2 F2' v l := ⟨h.sl.mono h1, fun d hd => (h.good d hd).mono h2⟩
theorem RR.nil (w : World) (F F' : Nat → Prop) : RR w F F' (.slice none 0 0) [] := ⟨SL.nil w F 1, fun _ h => by cases h⟩
/-- what lies at i -/
theorem RR.at_ (h : RR w F F' v l) {i : Nat} (hi : i < l.length) : ∃ (b off c : Nat) (A : Option Addr) (m c' : Nat) (row : List VD), v = .slice (some ⟨b, off, none⟩) l.length c ∧ l.length ≤ c ∧ c ≤ maxLen ∧ b < w.heap.size ∧ F b ∧ dat l i = ⟨.slice A m c', row⟩ ∧ RI w F' (.slice A m c') row ∧
    w.cell? ⟨b, off + i, none⟩ = some (.slice A m c') := by
  obtain ⟨b, off, c, hv, h1, h2, hF, hlt, hc⟩ := h.sl.at_ hi
  have hg := h.good (dat l i) (dat_mem hi)
  obtain ⟨u0, e0, c0⟩ := hc 0 (by omega)
  rw [Nat.add_zero, Nat.mul_one, List.getElem?_map, dat_some hi] at e0
  simp only [Option.map_some, Option.some.injEq] at e0
  subst e0
  generalize dat l i = d at hg c0
  obtain ⟨rv, row⟩ := d
  obtain ⟨A, c', _, _, e, _⟩ := hg.shape
  simp only at e c0
  subst e
  exact ⟨b, off, c, A, _, c', row, hv, h1, h2, hlt, hF, rfl, hg, by simpa using c0⟩
end

/-- a row of differences of the call's own, whose rows lie elsewhere in F -/
structure OwnDs (w : World) (base : Nat) (F : Nat → Prop) (v : Value) (es : List DE) : Prop where
  own : w.ownsRow base 86 2 v es.length (dcells es)
  good : ∀ e, e ∈ es → e.good w (fun b => F b ∧ v.ownBlock ≠ some b)
theorem OwnDs.nil (w : World) (base : Nat) (F : Nat → Prop) : OwnDs w base F (.slice none 0 0) [] := ⟨World.ownsRow_nil _ _ _ _, fun _ h => by cases h⟩
theorem OwnDs.rd {w : World} {base : Nat} {F : Nat → Prop} {v : Value} {es : List DE} (h : OwnDs w base F v es) : RD w (fun b => base ≤ b) F v es := ⟨SL.of_own h.own, fun d hd => ⟨(h.good d hd).row.mono fun b hb _ => hb.1, (h.good d hd).n⟩⟩
theorem OwnDs.add {wr w' : World} {base : Nat} {F : Nat → Prop} {v v' : Value} {es : List DE} {e : DE} (h : OwnDs wr base F v es) (ho : w'.ownsRow base 86 2 v' (es.length + 1) (dcells es ++ e.cells)) (hk : Kept wr w' v v')
    (hr : e.good wr (fun b => F b ∧ v.ownBlock ≠ some b)) : OwnDs w' base F v' (es ++ [e]) :=
  ⟨by rw [dcells_append, List.length_append]; simpa [dcells] using ho, fun d hd => by
    rcases List.mem_append.1 hd with hd | hd
    · exact ⟨hk.ri (h.good d hd).row, (h.good d hd).n⟩
    · rw [List.mem_singleton.1 hd]; exact ⟨hk.ri hr.row, hr.n⟩⟩
theorem OwnDs.later {w w' : World} {base : Nat} {F : Nat → Prop} {v : Value} {es : List DE} (h : OwnDs w base F v es) (hb : Below w.heap.size w w') : OwnDs w' base F v es := by
  refine ⟨⟨h.own.1, h.own.2.elim .inl fun ⟨g, cap, cur, h1, h2, h3, h4⟩ => .inr ⟨g, cap, cur, h1, h2, ?_, h4⟩⟩, fun e he => ⟨(h.good e he).row.later hb, (h.good e he).n⟩⟩
  rw [hb.block g (lt_of_block h3)]
  exact h3
def onesOf (l : List RE) : List DE := l.map fun e => ⟨e.rv, e.row, 1⟩

set_option maxHeartbeats 2000000 in
theorem ones_any (F F' : Nat → Prop) (v : Value) (l : List RE) (w : World) (hr : RR w F F' v l) (hn : l.length < 1073741824) :
    Calls Tryz.prog 48 #[v] w fun e w' => ∃ v', e = .returned v' ∧ OwnDs w' w.heap.size (fun b => F' b ∧ b < w.heap.size) v' (onesOf l) ∧ Below w.heap.size w w' := by
  obtain ⟨hl, A, c, rfl, hc, hm, -⟩ := hr.sl
  unfold maxLen at hm
  have HR := Lib.hid hr
  clear hr hl
  obtain ⟨n, hln⟩ : ∃ n, l.length = n := ⟨_, rfl⟩
  rw [hln] at hn hc ⊢
  have HN := Lib.hid hln
  clear hln
  go_enter Tryz.func48, Tryz.ntmps48
  go_wp2_with fail
  go_loopw [3, 5, 8] (fun s _ i wr => ∃ (k : Nat) (v : Value), k ≤ n ∧ v = s ∧ i = .int .i64 k ∧ OwnDs wr w.heap.size (fun b => F' b ∧ b < w.heap.size) v (onesOf (l.take k)) ∧ Below w.heap.size w wr) (fun _ _ i _ => n - (intOf i).toNat)
  case atStart => exact ⟨0, _, Nat.zero_le _, rfl, rfl, OwnDs.nil _ _ _, Below.refl _ _⟩
  case round =>
    obtain ⟨k, v, hk, rfl, rfl, ho, hbel⟩ := hrel
    have HO := Lib.hid ho
    by_cases hlt : k < n
    · have hrr := HR.out.later hbel
      obtain ⟨b, off, c', A1, m1, c1, row, hv, -, -, hb, -, he, hri, q⟩ := hrr.at_ (i := k) (by rw [HN.out]; exact hlt)
      injection hv with e1 _ e2
      subst e1
      subst e2
      have HT := Lib.hid (show l.take (k + 1) = l.take k ++ [⟨.slice A1 m1 c1, row⟩] by
        rw [List.take_succ_eq_append_getElem (by rw [HN.out]; exact hlt), ← dat_eq, he])
      have HLEN := Lib.hid (show (onesOf (l.take k)).length = k by unfold onesOf; rw [List.length_map, List.length_take, HN.out]; omega)
      have HRI := Lib.hid hri
      have HO0 := Lib.hid (show RI w F' (.slice A1 m1 c1) row by have := HR.out.good _ (dat_mem (l := l) (i := k) (by rw [HN.out]; exact hlt)); rw [he] at this; exact this)
      clear hrr he hri ho
      have hs2 : w.heap.size ≤ wr.heap.size := hbel.size
      go_wp2_with (at_builtin; refine append_own2 wr rfl (.tmp 12) (.tmp 15) 23 rfl w.heap.size 86 underD infoD rfl (by decide) _ _ _ (DE.cells ⟨.slice A1 m1 c1, row, 1⟩) rfl HO.out.own rfl rfl (by simp [DE.cells, Value.oneCell']) (by rw [HLEN.out]; omega) (by decide) (by omega) ?_)
      intro v' w2 hown' hb2 hkept
      have hgood : (DE.mk (.slice A1 m1 c1) row 1).good wr (fun b => (F' b ∧ b < w.heap.size) ∧ v.ownBlock ≠ some b) := by
        refine ⟨((HO0.out.mono (F' := fun b => F' b ∧ b < w.heap.size) (fun b hb h => ⟨hb, h⟩)).later hbel).mono (fun b hb _ => ⟨hb, fun he => ?_⟩), show I64 1 by unfold I64; decide⟩
        have := (HO.out.own.lt b he).1
        have := hb.2
        omega
      have O2 := Lib.hid (HO.out.add (e := DE.mk (.slice A1 m1 c1) row 1) hown' hkept hgood)
      have hbel2 := hbel.trans hb2
      have HE2 := Lib.hid (show onesOf (l.take k) ++ [DE.mk (.slice A1 m1 c1) row 1] = onesOf (l.take (k + 1)) by rw [HT.out]; unfold onesOf; rw [List.map_append]; rfl)
      clear hown' hb2 hkept hgood hbel
      go_wp2_with fail
      go_roundw
      case rel => exact ⟨k + 1, _, hlt, rfl, by go_num, HE2.out ▸ O2.out, hbel2⟩
      case measure => simp [intOf] <;> omega
    · obtain rfl : k = n := by omega
      go_wp2_with fail
      go_ret
      refine ⟨_, rfl, ?_, hbel⟩
      have := HO.out
      rw [← HN.out, List.take_length] at this
      exact this
end Go.Proofs.YthejmnmkbldacaaGreatDoor

namespace Go.Proofs.YthejmnmkbldacaaGreatDoor
open Go.RowKit
attribute [local go_sem] Tab.Env.ev Tab.Env.get

theorem OwnD.lt {w : World} {g cap : Nat} {l : List DE} (h : OwnD w g cap l) : g < w.heap.size := let ⟨_, h1, _⟩ := h; h1.lt
theorem OwnD.cells {w : World} {g cap : Nat} {l : List DE} (h : OwnD w g cap l) {i : Nat} (hi : i < l.length) :
    w.cell? ⟨g, i * 2, none⟩ = some (dat l i).rv ∧ w.cell? ⟨g, i * 2 + 1, none⟩ = some (.int .i64 (dat l i).n) := by
  obtain ⟨tl, h1, _⟩ := h
  have hl := dcells_length l
  have hg := dcells_get l i
  rw [dat_some hi] at hg
  rw [h1.cell, h1.cell, List.getElem?_append_left (by omega), List.getElem?_append_left (by omega)]
  exact hg
theorem OwnD.frozen {w : World} {g cap : Nat} {l : List DE} (h : OwnD w g cap l) (i : Nat) : w.frozen? ⟨g, i, none⟩ = false := let ⟨_, h1, _⟩ := h; h1.frozen i
theorem OwnD.set {w : World} {g cap : Nat} {l : List DE} (h : OwnD w g cap l) {i : Nat} (hi : i < l.length) (d : DE) : OwnD ((w.setCell ⟨g, i * 2, none⟩ d.rv).setCell ⟨g, i * 2 + 1, none⟩ (.int .i64 d.n)) g cap (l.set i d) := by
  obtain ⟨tl, h1, h2, h3⟩ := h
  have hl := dcells_length l
  refine ⟨tl, ?_, by simpa using h2, h3⟩
  have := (h1.set_ (i * 2) d.rv).set_ (i * 2 + 1) (.int .i64 d.n)
  rw [List.set_append_left _ _ (by omega), List.set_append_left _ _ (by simp; omega)] at this
  rw [dcells_set]
  exact this
theorem OwnD.keep {w w' : World} {g cap : Nat} {l : List DE} (h : OwnD w g cap l) (hb : w'.heap[g]? = w.heap[g]?) : OwnD w' g cap l := let ⟨tl, h1, h2⟩ := h; ⟨tl, hb.trans h1, h2⟩
theorem OwnD.ext {M : Nat → Prop} {w w' : World} {g cap : Nat} {l : List DE} (h : OwnD w g cap l) (hb : Tab.Ext M w w') (hM : ¬ M g) : OwnD w' g cap l := h.keep (hb.block g h.lt hM)
theorem DE.good.ext {M : Nat → Prop} {w w' : World} {F : Nat → Prop} {d : DE} (h : d.good w F) (hb : Tab.Ext M w w') (hM : ∀ b, F b → ¬ M b) : d.good w' F := ⟨h.row.ext hb hM, h.n⟩
/-- how two differences compare -/
def cmpD (a b : DE) : Int := cmpL a.row b.row
theorem cmpD_ord : CmpOrd cmpD where
  anti a b := cmpL_anti _ _
  trans {a b d} h1 h2 := by
    obtain ⟨t1, t2, t3⟩ := cmpL_tr a.row b.row d.row
    show cmpL a.row d.row ≤ 0
    change cmpL a.row b.row ≤ 0 at h1
    change cmpL b.row d.row ≤ 0 at h2
    by_cases h : cmpL a.row b.row = 0
    · by_cases h' : cmpL b.row d.row = 0
      · exact Int.le_of_eq (t3 h h')
      · have := t2 h1 (by omega); omega
    · have := t1 (by omega) h2; omega

set_option maxHeartbeats 400000 in
theorem canonical1_any (F F' : Nat → Prop) (d e : DE) (w : World) (h1 : d.good w F) (h2 : e.good w F') :
    Calls Tryz.prog 113 #[d.val, e.val] w fun r w' => r = .returned (.int .i64 (cmpD d e)) ∧ Below w.heap.size w w' := by
  unfold DE.val
  obtain ⟨A1, c1, _, _, e1, _⟩ := h1.row.shape
  obtain ⟨A2, c2, _, _, e2, _⟩ := h2.row.shape
  have HC := Lib.hid (fun w' (h : Below w.heap.size w w') => compareRows_any F F' d.rv e.rv d.row e.row w' (h1.row.later h) (h2.row.later h))
  rw [e1, e2] at HC ⊢
  clear e1 e2 h1 h2
  go_enter Tryz.func113, Tryz.ntmps113
  have hbel : Below w.heap.size w ((w.alloc (.cells #[.slice A1 d.row.length c1, .int .i64 d.n] 86)).alloc (.cells #[.slice A2 e.row.length c2, .int .i64 e.n] 86)) := (below_new w _).alloc (by simp) _
  go_wp2_with fail
  refine (HC.out _ hbel).mono ?_
  rintro r w1 ⟨rfl, hb⟩
  go_wp2_with fail
  go_ret
  exact ⟨rfl, hbel.trans (hb.mono hbel.size)⟩
end Go.Proofs.YthejmnmkbldacaaGreatDoor

namespace Go.Proofs.YthejmnmkbldacaaGreatDoor.Tab
open Go Go.RowKit

def stage2C (s1 s2 : Nat) (D : Bool → Bool → World → Prop) : Array Bool → World → Prop := fun l w => D (l.getD s1 false) (l.getD s2 false) w
theorem silent_at2 {D : Bool → Bool → World → Prop} {s1 s2 i : Nat} (h : i ≠ s1 ∧ i ≠ s2) : Silent (stage2C s1 s2 D) i := fun listed w hd => by
  show D ((listed.setIfInBounds i true).getD s1 false) ((listed.setIfInBounds i true).getD s2 false) w
  rw [getD_set_ne false h.1, getD_set_ne false h.2]
  exact hd
theorem stage2C_start {s1 s2 n : Nat} {D : Bool → Bool → World → Prop} {w : World} (h : D false false w) : stage2C s1 s2 D (Array.replicate n false) w := by
  show D ((Array.replicate n false).getD s1 false) ((Array.replicate n false).getD s2 false) w
  rw [getD_replicate_false, getD_replicate_false]
  exact h
theorem stage2C_before {ops : Array Oper} {s1 s2 i : Nat} {D : Bool → Bool → World → Prop} {w : World} {listed : Array Bool} (h : stage2C s1 s2 D listed w) (hs : Stage ops i listed) (ha : anc ops ops.size s1 i = true ∧ anc ops ops.size s2 i = true) : D false false w := by
  have h1 := (hs.2 s1).2 ha.1
  have h2 := (hs.2 s2).2 ha.2
  unfold stage2C at h
  rwa [h1, h2] at h
theorem stage2C_first {ops : Array Oper} {s1 s2 : Nat} {D : Bool → Bool → World → Prop} {w : World} {listed : Array Bool} (h : stage2C s1 s2 D listed w) (hs : Stage ops s1 listed) (ha : anc ops ops.size s2 s1 = true) : listed.getD s2 false = false ∧ D false false w := by
  have h2 := (hs.2 s2).2 ha
  unfold stage2C at h
  rw [hs.1, h2] at h
  exact ⟨h2, h⟩
theorem stage2C_done1 {s1 s2 : Nat} {D : Bool → Bool → World → Prop} {w : World} {listed : Array Bool} (h : D true false w) (h2 : listed.getD s2 false = false) (hs : s1 < listed.size) (hne : s1 ≠ s2) : stage2C s1 s2 D (listed.setIfInBounds s1 true) w := by
  unfold stage2C
  rw [set_at hs, getD_set_ne false hne, h2]
  exact h
theorem stage2C_second {ops : Array Oper} {s1 s2 : Nat} {D : Bool → Bool → World → Prop} {w : World} {listed : Array Bool} (h : stage2C s1 s2 D listed w) (hs : Stage ops s2 listed) (ha : anc ops ops.size s2 s1 = true) : listed.getD s1 false = true ∧ D true false w := by
  have h1 := (hs.2 s1).1 ha
  unfold stage2C at h
  rw [hs.1, h1] at h
  exact ⟨h1, h⟩
theorem stage2C_done2 {s1 s2 : Nat} {D : Bool → Bool → World → Prop} {w : World} {listed : Array Bool} (h : D true true w) (h1 : listed.getD s1 false = true) (hs : s2 < listed.size) (hne : s2 ≠ s1) : stage2C s1 s2 D (listed.setIfInBounds s2 true) w := by
  unfold stage2C
  rw [set_at hs, getD_set_ne false hne, h1]
  exact h
theorem stage2C_end {s1 s2 n : Nat} {D : Bool → Bool → World → Prop} {w : World} {listed : Array Bool} (h : stage2C s1 s2 D listed w) (hall : ∀ i, i < n → listed.getD i false = true) (hs : s1 < n ∧ s2 < n) : D true true w := by
  unfold stage2C at h
  rwa [hall s1 hs.1, hall s2 hs.2] at h
end Go.Proofs.YthejmnmkbldacaaGreatDoor.Tab
