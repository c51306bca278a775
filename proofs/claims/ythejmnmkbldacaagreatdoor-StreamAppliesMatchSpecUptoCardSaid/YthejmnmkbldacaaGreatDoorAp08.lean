/-
  What is proved: what the reference's numbers of decimal digits compute. Conditions: none.
-/
import Derived.Test.YthejmnmkbldacaaGreatDoorAp07
import Derived.OwnWalk
set_option linter.all false
namespace Go.Proofs.YthejmnmkbldacaaGreatDoor
open Go.RowKit
attribute [local go_sem] Tab.Env.ev Tab.Env.get

/-- a slice that reads as a list of numbers -/
def DS (w : World) (A : Option Addr) (l : List Int) (c : Nat) : Prop :=
  l.length ≤ c ∧ c ≤ maxLen ∧ (0 < l.length → ∃ b off, A = some ⟨b, off, none⟩ ∧ b < w.heap.size ∧ ∀ i, i < l.length → w.cell? ⟨b, off + i, none⟩ = some (.int .i64 (l.getD i 0)))
theorem DS.keep {w w' : World} {A : Option Addr} {l : List Int} {c : Nat} (h : DS w A l c) (hz : w.heap.size ≤ w'.heap.size) (hk : ∀ b off, A = some ⟨b, off, none⟩ → b < w.heap.size → w'.heap[b]? = w.heap[b]?) : DS w' A l c :=
  ⟨h.1, h.2.1, fun hn => let ⟨b, off, hA, hlt, hc⟩ := h.2.2 hn; ⟨b, off, hA, Nat.lt_of_lt_of_le hlt hz, fun i hi => (World.cell?_of_block (w := w) (a := ⟨b, off + i, none⟩) (hk b off hA hlt)).trans (hc i hi)⟩⟩
theorem DS.keepn {w w' : World} {A : Option Addr} {l : List Int} {c : Nat} (h : DS w A l c) (hz : w.heap.size ≤ w'.heap.size) (hk : 0 < l.length → ∀ b off, A = some ⟨b, off, none⟩ → b < w.heap.size → w'.heap[b]? = w.heap[b]?) : DS w' A l c := by
  rcases Nat.eq_zero_or_pos l.length with h0 | hn
  · exact ⟨h.1, h.2.1, fun hn => by omega⟩
  · exact h.keep hz (hk hn)
theorem DS.later {w w' : World} {A : Option Addr} {l : List Int} {c : Nat} (h : DS w A l c) (hb : Below w.heap.size w w') : DS w' A l c :=
  ⟨h.1, h.2.1, fun hn => let ⟨b, off, hA, hlt, hc⟩ := h.2.2 hn; ⟨b, off, hA, Nat.lt_of_lt_of_le hlt hb.size, fun i hi => (hb.cell (p := ⟨b, off + i, none⟩) hlt).trans (hc i hi)⟩⟩
theorem DS.of_own {w : World} {base : Nat} {v : Value} {l : List Int} {e : TypeId} (h : w.ownsRow base e 1 v l.length (l.map (Value.int .i64))) : ∃ A c, v = .slice A l.length c ∧ DS w A l c ∧ ∀ b off, A = some ⟨b, off, none⟩ → base ≤ b := by
  rcases h.2 with ⟨rfl, hn⟩ | ⟨g, cap, cur, rfl, hg, hblk, hle, hm, hsz, htk⟩
  · exact ⟨none, 0, by rw [hn], ⟨by rw [hn]; exact Nat.le_refl _, Nat.zero_le _, (fun h => by omega)⟩, fun _ _ h => by cases h⟩
  · refine ⟨_, _, rfl, ⟨hle, hm, fun hn => ⟨g, 0, rfl, lt_of_block hblk, fun i hi => ?_⟩⟩, fun b off h => by cases h; exact hg⟩
    rw [cell_of_row w g (0 + i) cur e (0, 0) hblk]
    have h1 : (cur.toList.take (l.length * 1))[i]? = (l.map (Value.int .i64))[i]? := by rw [htk]
    rw [List.getElem?_take, if_pos (by omega), List.getElem?_map, List.getElem?_eq_getElem hi] at h1
    rw [Nat.zero_add, List.getD_eq_getElem?_getD, List.getElem?_eq_getElem hi]
    simpa using h1

def dval : List Int → Int
  | [] => 0
  | d :: l => d + 10 * dval l
theorem dval_append (l r : List Int) : dval (l ++ r) = dval l + 10 ^ l.length * dval r := by
  induction l with
  | nil => simp [dval]
  | cons d l ih =>
    simp only [List.cons_append, dval, ih, List.length_cons, Int.pow_succ]
    rw [Int.mul_add, Int.mul_comm (10 ^ l.length) 10, Int.mul_assoc]
    omega
def digit (d : Int) : Prop := 0 ≤ d ∧ d ≤ 9
def Digits (l : List Int) : Prop := ∀ d ∈ l, digit d
/-- no leading zeros -/
def NoZero (l : List Int) : Prop := ∀ d ∈ l.getLast?, d ≠ 0

theorem own_block_ge {w : World} {base e size n : Nat} {v : Value} {xs : List Value} (h : w.ownsRow base e size v n xs) {k : Nat} (hk : v.ownBlock = some k) : base ≤ k := by
  rcases h.2 with ⟨rfl, _⟩ | ⟨g, cap, cur, rfl, hg, _⟩
  · cases hk
  · cases hk; exact hg
theorem below_grown {w w' : World} {base e size n : Nat} {v : Value} {xs : List Value} (h : w.ownsRow base e size v n xs) (hg : w.grownBy w' v.ownBlock) (hb : base ≤ w.heap.size) : Below base w w' :=
  ⟨hg.os, hg.tape, hg.output, hg.size, fun k hk => hg.block k (Nat.lt_of_lt_of_le hk hb) fun he => by
    have := own_block_ge h he.symm
    omega⟩
/-- append of one element that lies in a new block -/
theorem append_one {P : Program} (wr : World) {ops : Array Oper} {rest : List Oper} {o : Oper} {a : Act} {Q : Exit → Act → World → Prop} (hgd : o.guard = none) (s x : Operand) (t : TypeId)
    (ho : o.op = .call { callee := .builtin .append, args := #[s, x], argTypes := #[t, t] }) (base : Nat) (e : TypeId) {z : Value} {size bytes : Nat} (ht : P.underlying t = some (.slice e))
    (hinfo : (P.info? e).map (fun i => (i.zero, i.size, i.bytes)) = some (some z, size, bytes)) (hzs : z.cells.size = size) (hsz : 0 < size) (v : Value) (n : Nat) (xs us : List Value) (hs : a.eval s = v) (hown : wr.ownsRow base e size v n xs)
    (hx : a.eval x = .slice (some ⟨wr.heap.size, 0, none⟩) 1 1) (hl : us.length = size) (h1 : ∀ u ∈ us, u.oneCell' = true) (hn : n < 1073741824) (hby : bytes ≤ 65536) (hbase : base ≤ wr.heap.size)
    (h : ∀ v' w', w'.ownsRow base e size v' (n + 1) (xs ++ us) → Below base wr w' → v' ≠ .slice none 0 0 → wpList P ops Q rest (a.put o.dst v') w') : wpList P ops Q (o :: rest) a (wr.alloc (.cells us.toArray e)) := by
  obtain ⟨i, hi, hz, hsize, hbytes⟩ := info_parts hinfo
  refine wpList_append_own _ hgd s x t ho base e i z size bytes ht hi hz hsize hbytes hzs hsz v n xs hs (hown.alloc _) ⟨wr.heap.size, 0, none⟩ 1 1 us hx (by omega) (fun j u hj => ?_) h1 (by unfold maxLen; omega) ?_ (by simp; omega) ?_
  · rw [show (⟨wr.heap.size, 0, none⟩ : Addr).add j = ⟨wr.heap.size, j, none⟩ by simp [Addr.add]; rintro rfl; rfl]
    rw [cell_of_row _ wr.heap.size j us.toArray e (0, 0) (heap_alloc_new wr _)]
    simpa using hj
  · have := Nat.mul_le_mul (show n + 1 ≤ 1073741824 by omega) hby
    omega
  · intro v' w' ho' hg hne
    exact h v' w' ho' (((Below.refl base wr).alloc hbase _).trans (below_grown (hown.alloc _) hg (by simp; omega))) fun e => by
      have := hne.1 e
      omega

/-- append of what lies somewhere -/
theorem append_from {P : Program} (w : World) {ops : Array Oper} {rest : List Oper} {o : Oper} {a : Act} {Q : Exit → Act → World → Prop} (hgd : o.guard = none) (s x : Operand) (t : TypeId)
    (ho : o.op = .call { callee := .builtin .append, args := #[s, x], argTypes := #[t, t] }) (base : Nat) (e : TypeId) {z : Value} {size bytes : Nat} (ht : P.underlying t = some (.slice e))
    (hinfo : (P.info? e).map (fun i => (i.zero, i.size, i.bytes)) = some (some z, size, bytes)) (hzs : z.cells.size = size) (hsz : 0 < size) (v : Value) (n : Nat) (xs us : List Value) (hs : a.eval s = v) (hown : w.ownsRow base e size v n xs)
    (b off m c : Nat) (hx : a.eval x = .slice (some ⟨b, off, none⟩) m c) (hl : us.length = m * size) (hc : ∀ j u, us[j]? = some u → w.cell? ⟨b, off + j, none⟩ = some u) (h1 : ∀ u ∈ us, u.oneCell' = true) (hn : n + m < 1073741824) (hby : bytes ≤ 65536) (hbase : base ≤ w.heap.size)
    (h : ∀ v' w', w'.ownsRow base e size v' (n + m) (xs ++ us) → Below base w w' → wpList P ops Q rest (a.put o.dst v') w') : wpList P ops Q (o :: rest) a w := by
  obtain ⟨i, hi, hz, hsize, hbytes⟩ := info_parts hinfo
  refine wpList_append_own _ hgd s x t ho base e i z size bytes ht hi hz hsize hbytes hzs hsz v n xs hs hown ⟨b, off, none⟩ m c us hx hl (fun j u hj => ?_) h1 (by unfold maxLen; omega) ?_ hbase ?_
  · rw [show (⟨b, off, none⟩ : Addr).add j = ⟨b, off + j, none⟩ by simp [Addr.add]]
    exact hc j u hj
  · have := Nat.mul_le_mul (show n + m ≤ 1073741824 by omega) hby
    omega
  · intro v' w' ho' hg _
    exact h v' w' ho' (below_grown hown hg hbase)
theorem wcell2 {w : World} {g : Nat} {t : TypeId} {x0 x1 : Value} (h : Blk w g t [x0, x1]) : w.cell? ⟨g, 0, none⟩ = some x0 ∧ w.cell? ⟨g, 1, none⟩ = some x1 := ⟨h.cell 0, h.cell 1⟩
theorem ownsRow_ext {w w' : World} {base e size n : Nat} {v : Value} {xs : List Value} (h : w.ownsRow base e size v n xs) (hb : Tab.Ext (fun _ => False) w w') : w'.ownsRow base e size v n xs := by
  refine ⟨h.1, h.2.elim .inl fun ⟨g, cap, cur, h1, h2, h3, h4⟩ => .inr ⟨g, cap, cur, h1, h2, ?_, h4⟩⟩
  rw [hb.block g (lt_of_block h3) id]
  exact h3
/-- a row that was just made -/
def Fresh (w : World) (v : Value) (n : Nat) (e : TypeId) (cs : List Value) : Prop := ∃ g, v = .slice (some ⟨g, 0, none⟩) n n ∧ Blk w g e cs
open Tab in
/-- make in a region that draws -/
theorem Tab.tab_make {P : Program} {ops : Array Oper} {Q : Exit → Act → World → Prop} {w0 : World} {a0 : Act} {G : Env} {o : Oper} {i : Nat} {rest : List Oper} {K : Env → Prop} {t : TypeId} {l c : Operand} {d : Tmp} (e : TypeId) {z : Value} {size bytes : Nat} (n : Nat) {kl kc : IntKind}
    (hd : o.dst = some d) (ho : o.op = .makeSlice t l c) (hg : guardB ops G a0 o = some true) (hkl : G.isKnown l = true) (hkc : G.isKnown c = true) (hl : G.ev a0 l = .int kl n) (hc : G.ev a0 c = .int kc n)
    (ht : P.underlying t = some (.slice e)) (hinfo : (P.info? e).map (fun i => (i.zero, i.size, i.bytes)) = some (some z, size, bytes)) (hn : n < 1073741824) (hby : bytes ≤ 65536)
    (h : wpTab P ops Q (Ext fun _ => False) (fun _ _ => True) w0 a0 K (i + 1) rest ((d, .ty fun v w => Fresh w v n e (madeCells z.cells (n * size)).toList) :: G)) : wpTab P ops Q (Ext fun _ => False) (fun _ _ => True) w0 a0 K i (o :: rest) G := by
  obtain ⟨inf, hi, hz, hsize, hbytes⟩ := info_parts hinfo
  refine tab_ty (.ty fun v w => Fresh w v n e (madeCells z.cells (n * size)).toList) hd (fun v w w' hE ⟨g, hv, hb⟩ => ⟨g, hv, hb.ext hE id⟩) hg (fun listed a w _ _ _ hw hx => ?_) h
  have e1 := (ev_of hkl (hx l (by rw [ho]; simp [Op.operands]))).trans hl
  have e2 := (ev_of hkc (hx c (by rw [ho]; simp [Op.operands]))).trans hc
  have hb1 : (inf.bytes : Int) * (n : Int) ≤ 281474976710656 := by
    have := Nat.mul_le_mul (show inf.bytes ≤ 65536 by omega) (show n ≤ 1073741824 by omega)
    have h2 : ((inf.bytes * n : Nat) : Int) ≤ 281474976710656 := by omega
    rwa [Int.natCast_mul] at h2
  have hrun := run_make (P := P) (w := w) t e inf z ht hi hz kl kc n n (by omega) (by omega) hb1 (by omega)
  unfold Oper.wp
  simp [execOp, ho, e1, e2, hrun, Result.andThen]
  rw [hsize]
  exact ⟨_, rfl, ⟨_, rfl, by have := Blk.new w e (madeCells z.cells (n * size)).toList; simpa using this⟩, Ext.of_below (below_new w _)⟩
open Tab in
/-- append onto a row that was just made, in a region that draws: the row moves -/
theorem Tab.tab_append {P : Program} {ops : Array Oper} {Q : Exit → Act → World → Prop} {w0 : World} {a0 : Act} {G : Env} {o : Oper} {i : Nat} {rest : List Oper} {K : Env → Prop} {t : TypeId} {s : Tmp} {x : Operand} {d : Tmp} (base : Nat) (e : TypeId) {z : Value} {size bytes : Nat} (n : Nat) (cs : List Value) (b off m c : Nat) (us : List Value)
    (hd : o.dst = some d) (ho : o.op = .call { callee := .builtin .append, args := #[.tmp s, x], argTypes := #[t, t] }) (hg : guardB ops G a0 o = some true) (hs : G.get s = some (.ty fun v w => Fresh w v n e cs)) (hkx : G.isKnown x = true) (hx : G.ev a0 x = .slice (some ⟨b, off, none⟩) m c)
    (ht : P.underlying t = some (.slice e)) (hinfo : (P.info? e).map (fun i => (i.zero, i.size, i.bytes)) = some (some z, size, bytes)) (hzs : z.cells.size = size) (hsz : 0 < size) (hcs : cs.length = n * size) (hus : us.length = m * size) (hm : 0 < m)
    (hcells : ∀ w, Ext (fun _ => False) w0 w → ∀ j u, us[j]? = some u → w.cell? ⟨b, off + j, none⟩ = some u) (hn : n + m < 1073741824) (hby : bytes ≤ 65536) (hbase : base ≤ w0.heap.size)
    (h : wpTab P ops Q (Ext fun _ => False) (fun _ _ => True) w0 a0 K (i + 1) rest ((d, .ty fun v w => w.ownsRow base e size v (n + m) (cs ++ us)) :: G)) : wpTab P ops Q (Ext fun _ => False) (fun _ _ => True) w0 a0 K i (o :: rest) G := by
  obtain ⟨inf, hi, hz, hsize, hbytes⟩ := info_parts hinfo
  refine tab_ty (.ty fun v w => w.ownsRow base e size v (n + m) (cs ++ us)) hd (fun v w w' hE hv => ownsRow_ext hv hE) hg (fun listed a w _ _ _ hw hxs => ?_) h
  have e1 := hxs (.tmp s) (by rw [ho]; simp [Op.operands, Call.operands])
  simp only [Env.tyd, Env.knows, hs, Ty.holds] at e1
  obtain ⟨g, e1, hblk⟩ := e1
  have e2 := (ev_of hkx (hxs x (by rw [ho]; simp [Op.operands, Call.operands]))).trans hx
  obtain ⟨v', w', hrun, r1, r2⟩ := run_append_arg_grows (P := P) w t o.type e inf z size bytes ht hi hz hsize hbytes hzs hsz ⟨g, 0, none⟩ n n cs hcs (fun j u hj => by
    rw [show (⟨g, 0, none⟩ : Addr).add j = ⟨g, j, none⟩ by simp [Addr.add]; rintro rfl; rfl]
    rw [hblk.cell]
    exact hj) ⟨b, off, none⟩ m c us hus (fun j u hj => by
    rw [show (⟨b, off, none⟩ : Addr).add j = ⟨b, off + j, none⟩ by simp [Addr.add]]
    exact hcells w hw j u hj) (by omega) (by unfold maxLen; omega) (by have := Nat.mul_le_mul (show n + m ≤ 1073741824 by omega) hby; omega)
  unfold Oper.wp
  simp [execOp, ho, resolve, invoke, builtin, e1, e2, hrun, Result.andThen]
  refine ⟨_, rfl, ⟨r1.1, r1.2.elim .inl fun ⟨g, cap, cur, h1, h2, h3⟩ => .inr ⟨g, cap, cur, h1, by have := hw.size; omega, h3⟩⟩, Ext.of_grown r2 (fun _ _ h => by cases h)⟩

/-- where wideOf's loop stands -/
structure Digs (n m : Int) (l : List Int) : Prop where
  neg : n < 0 → m ≤ 0
  pos : 0 ≤ n → 0 ≤ m
  digits : Digits l
  sum : dval l + 10 ^ l.length * (m.natAbs : Int) = n.natAbs
  last : m = 0 → NoZero l
theorem Digs.start (n : Int) : Digs n n [] := ⟨fun h => Int.le_of_lt h, fun h => h, fun _ h => (by cases h), (by simp [dval]), fun _ d hd => (by simp at hd)⟩
theorem dval_nonneg {l : List Int} (h : Digits l) : 0 ≤ dval l := by
  induction l with
  | nil => simp [dval]
  | cons d l ih =>
    have := ih (fun x hx => h x (List.mem_cons_of_mem _ hx))
    have := (h d List.mem_cons_self).1
    simp only [dval]
    omega
theorem tdiv10 (m : Int) : (0 ≤ m → m.tdiv 10 = m / 10) ∧ (m ≤ 0 → m.tdiv 10 = -((-m) / 10)) := by
  refine ⟨fun h => Int.tdiv_eq_ediv_of_nonneg h, fun h => ?_⟩
  have := Int.tdiv_eq_ediv_of_nonneg (a := -m) (b := 10) (by omega)
  rw [Int.neg_tdiv] at this
  omega
theorem tmod10 (m : Int) : (0 ≤ m → m.tmod 10 = m % 10) ∧ (m ≤ 0 → m.tmod 10 = -((-m) % 10)) := by
  refine ⟨fun h => Int.tmod_eq_emod_of_nonneg h, fun h => ?_⟩
  have := Int.tmod_eq_emod_of_nonneg (a := -m) (b := 10) (by omega)
  rw [Int.neg_tmod] at this
  omega
theorem Digs.step {n m : Int} {l : List Int} (h : Digs n m l) (hm : m ≠ 0) : Digs n (m.tdiv 10) (l ++ [((m.natAbs % 10 : Nat) : Int)]) where
  neg hn := by have := h.neg hn; have := tdiv10 m; omega
  pos hn := by have := h.pos hn; have := tdiv10 m; omega
  digits d hd := by
    rcases List.mem_append.1 hd with h1 | h1
    · exact h.digits d h1
    · simp at h1
      subst h1
      unfold digit
      omega
  sum := by
    rw [dval_append, List.length_append, ← h.sum]
    simp only [dval, List.length_singleton, Int.pow_succ]
    have e : ((m.natAbs : Nat) : Int) = 10 * ((m.tdiv 10).natAbs : Int) + ((m.natAbs % 10 : Nat) : Int) := by have := tdiv10 m; omega
    rw [e, Int.mul_zero, Int.add_zero, Int.mul_assoc, Int.mul_add]
    omega
  last h0 d hd := by
    rw [List.getLast?_append] at hd
    simp at hd
    have := tdiv10 m
    omega
theorem Digs.small {n m : Int} {l : List Int} (h : Digs n m l) (hn : I64 n) (hm : m ≠ 0) : l.length ≤ 18 := by
  have h1 := h.sum
  have h2 := dval_nonneg h.digits
  rcases Nat.lt_or_ge 18 l.length with hlt | hge
  · exfalso
    have h3 : (10 : Int) ^ 19 ≤ 10 ^ l.length := by exact_mod_cast Nat.pow_le_pow_right (by omega) hlt
    have h4 := Int.mul_le_mul h3 (show (1 : Int) ≤ m.natAbs by omega) (by omega) (by omega)
    unfold I64 at hn
    omega
  · exact hge

theorem Tryz.info3' : (Tryz.prog.info? 3).map (fun i => (i.zero, i.size, i.bytes)) = some (some (.int .i64 0), 1, 8) := by kernel_rfl
theorem Tryz.under57 : Tryz.prog.underlying 57 = some (.slice 3) := by kernel_rfl

/-- a number of decimal digits -/
def IsRW (base : Nat) (w : World) (v : Value) (neg : Bool) (ds : List Int) : Prop := ∃ A c, v = .agg #[.bool neg, .slice A ds.length c] ∧ DS w A ds c ∧ (0 < ds.length → ∀ b off, A = some ⟨b, off, none⟩ → base ≤ b)

set_option maxHeartbeats 1000000 in
theorem wideOf_any (n : Int) (hn : I64 n) (w : World) :
    Calls Tryz.prog 223 #[.int .i64 n] w fun e w' => ∃ v ds, e = .returned v ∧ IsRW w.heap.size w' v (decide (n < 0)) ds ∧ Digs n 0 ds ∧ Below w.heap.size w w' := by
  obtain ⟨i0, hi, hz0, hz1, hz2⟩ := info_parts Tryz.info3'
  go_enter Tryz.func223, Tryz.ntmps223
  go_wp2
  go_loopw [3, 4, 5] (fun d m _ wr => ∃ (mm : Int) (ds : List Int), m = .int .i64 mm ∧ I64 mm ∧ wr.ownsRow (w.heap.size + 1) 3 1 d ds.length (ds.map (Value.int .i64)) ∧ Digs n mm ds ∧ Below w.heap.size w wr ∧ w.heap.size + 1 ≤ wr.heap.size ∧ Blk wr w.heap.size 232 [.bool false, .slice none 0 0]) (fun _ m _ _ => (intOf m).natAbs)
  case atStart => exact ⟨n, [], rfl, hn, World.ownsRow_nil _ _ _ _, Digs.start n, below_new w _, by simp, Blk.new w _ _⟩
  case round =>
    obtain ⟨mm, ds, rfl, him, hown, hd, hbel, hsz, hblk⟩ := hrel
    unfold I64 at him
    by_cases hm : mm = 0
    · subst hm
      have HD := Lib.hid hd
      obtain ⟨A, c, rfl, hds, hfar⟩ := DS.of_own hown
      have q0 := hblk.cell 0
      have q1 := hblk.cell 1
      have f0 := hblk.frozen 0
      have f1 := hblk.frozen 1
      simp at q0 q1
      have HDS := Lib.hid hds
      have HF := Lib.hid hfar
      clear hown hd hds hfar
      go_wp2_with fail
      have hfin := (hblk.set_ 0 (.bool (decide (n < 0)))).set_ 1 (.slice A ds.length c)
      have r0 := hfin.cell 0
      have r1 := hfin.cell 1
      simp only [List.set_cons_zero, List.set_cons_succ, List.getElem?_cons_zero, List.getElem?_cons_succ] at r0 r1
      refine bodyPost_ret (v := .agg #[.bool (decide (n < 0)), .slice A ds.length c]) (by simp [results, Tryz.results223, go_sem, r0, r1]) rfl ⟨_, ds, rfl, ⟨A, c, rfl, HDS.out.keep (by simp) (fun b off hA hb => ?_), fun _ b off hA => Nat.le_of_succ_le (HF.out b off hA)⟩, HD.out, (hbel.setCell (p := ⟨w.heap.size, 0, none⟩) (Nat.le_refl _) _).setCell (p := ⟨w.heap.size, 1, none⟩) (Nat.le_refl _) _⟩
      have hne := HF.out b off hA
      rw [Below.heap_setCell _ _ _ _ (by show b ≠ w.heap.size; omega), Below.heap_setCell _ _ _ _ (by show b ≠ w.heap.size; omega)]
    · have e1 : (mm != 0) = true := by simp [hm]
      have HD := Lib.hid (hd.step hm)
      have hsmall := hd.small hn hm
      have hq := tdiv10 mm
      have hr := tmod10 mm
      obtain ⟨r, e2⟩ : ∃ r, mm.tmod 10 = r := ⟨_, rfl⟩
      obtain ⟨q, e3⟩ : ∃ q, mm.tdiv 10 = q := ⟨_, rfl⟩
      rw [e2] at hr
      rw [e3] at hq HD
      have hrb : -9 ≤ r ∧ r ≤ 9 := by omega
      have hqb : -9223372036854775808 ≤ q ∧ q ≤ 9223372036854775807 := by omega
      have hqm : q.natAbs < mm.natAbs := by omega
      clear hd hq
      by_cases hx : r < 0
      · have hr' : ((mm.natAbs % 10 : Nat) : Int) = -r := by omega
        rw [hr'] at HD
        clear hr hr'
        go_wp2_with (at_builtin; refine append_one wr rfl (.tmp 17) (.tmp 19) 57 rfl (w.heap.size + 1) 3 Tryz.under57 Tryz.info3' rfl (by decide) _ _ _ [.int .i64 (-r)] rfl hown rfl rfl (by simp [Value.oneCell']) (by omega) (by decide) hsz ?_)
        intro v' w1 hown' hb1 _
        have hbel1 := hbel.trans (hb1.mono (Nat.le_succ _))
        have hsz1 := Nat.le_trans hsz hb1.size
        have hblk1 := hblk.below hb1 (Nat.lt_succ_self _)
        clear hown hb1 hbel hblk
        go_wp2_with fail
        go_roundw
        case rel => exact ⟨q, ds ++ [(-r)], rfl, hqb, by simpa using hown', HD.out, hbel1, hsz1, hblk1⟩
        case measure => simp [intOf]; omega
      · have hr' : ((mm.natAbs % 10 : Nat) : Int) = r := by omega
        rw [hr'] at HD
        clear hr hr'
        go_wp2_with (at_builtin; refine append_one wr rfl (.tmp 17) (.tmp 19) 57 rfl (w.heap.size + 1) 3 Tryz.under57 Tryz.info3' rfl (by decide) _ _ _ [.int .i64 r] rfl hown rfl rfl (by simp [Value.oneCell']) (by omega) (by decide) hsz ?_)
        intro v' w1 hown' hb1 _
        have hbel1 := hbel.trans (hb1.mono (Nat.le_succ _))
        have hsz1 := Nat.le_trans hsz hb1.size
        have hblk1 := hblk.below hb1 (Nat.lt_succ_self _)
        clear hown hb1 hbel hblk
        go_wp2_with fail
        go_roundw
        case rel => exact ⟨q, ds ++ [r], rfl, hqb, by simpa using hown', HD.out, hbel1, hsz1, hblk1⟩
        case measure => simp [intOf]; omega

/-- ten times so often -/
def shiftD (ds : List Int) (k : Nat) : List Int := if ds = [] then [] else List.replicate k 0 ++ ds

set_option maxHeartbeats 1000000 in
theorem tens_any (v : Value) (neg : Bool) (ds : List Int) (k : Nat) (hk : k ≤ 12) (w : World) (base : Nat) (hv : IsRW base w v neg ds) (hs : ds.length ≤ 100) :
    Calls Tryz.prog 222 #[v, .int .i64 k] w fun e w' => ∃ r, e = .returned r ∧ IsRW w.heap.size w' r neg (shiftD ds k) ∧ Below w.heap.size w w' := by
  obtain ⟨A, c, rfl, hds, -⟩ := hv
  by_cases h0 : ds = []
  · subst h0
    have HDS := Lib.hid hds
    clear hds
    go_enter Tryz.func222, Tryz.ntmps222
    go_wp2_with fail
    have hb := Blk.new (w.alloc (.cells #[.bool neg, .slice A 0 c] 232)) 232 [.bool neg, .slice A 0 c]
    rw [show (w.alloc (.cells #[.bool neg, .slice A 0 c] 232)).heap.size = w.heap.size + 1 by simp] at hb
    have r0 := hb.cell 0
    have r1 := hb.cell 1
    simp only [List.getElem?_cons_zero, List.getElem?_cons_succ] at r0 r1
    have hbel : Below w.heap.size w ((w.alloc (.cells #[.bool neg, .slice A 0 c] 232)).alloc (.cells #[.bool neg, .slice A 0 c] 232)) := (below_new w _).alloc (by simp) _
    exact bodyPost_ret (v := .agg #[.bool neg, .slice A 0 c]) (by simp [results, Tryz.results222, go_sem, r0, r1]) rfl ⟨_, rfl, ⟨A, c, rfl, HDS.out.later hbel, fun h => absurd h (Nat.lt_irrefl 0)⟩, hbel⟩
  · have hn : 0 < ds.length := by cases ds with | nil => exact absurd rfl h0 | cons a b => simp
    have HSH := Lib.hid (show shiftD ds k = List.replicate k 0 ++ ds by unfold shiftD; rw [if_neg h0])
    have e0 : ((ds.length : Int) == 0) = false := by simp; omega
    obtain ⟨b, off, rfl, hlt, hcells⟩ := hds.2.2 hn
    have HC := Lib.hid hcells
    have hcap := hds.1
    have hmax := hds.2.1
    clear hds hcells h0
    go_enter Tryz.func222, Tryz.ntmps222
    go_wp2_with fail
    generalize hW : (w.alloc (.cells #[.bool neg, .slice (some ⟨b, off, none⟩) ds.length c] 232)).alloc (.cells #[.bool false, .slice none 0 0] 232) = W
    have B0 : Blk W w.heap.size 232 [.bool neg, .slice (some ⟨b, off, none⟩) ds.length c] := hW ▸ (Blk.new w _ _).alloc _
    have B1 : Blk W (w.heap.size + 1) 232 [.bool false, .slice none 0 0] := by
      have h := Blk.new (w.alloc (.cells #[.bool neg, .slice (some ⟨b, off, none⟩) ds.length c] 232)) 232 [.bool false, .slice none 0 0]
      rw [← hW]
      simpa using h
    have hbel : Below w.heap.size w W := hW ▸ (below_new w _).alloc (by simp) _
    have hsz : W.heap.size = w.heap.size + 1 + 1 := by rw [← hW]; simp
    clear hW
    have q0 := fun w' (h : Tab.Ext (fun _ => False) W.drew w') => wcell2 (B0.drew.ext h id)
    refine Tab.wp_region_tab_tail 7 (Tab.Ext fun _ => False) (by kernel_rfl) (by kernel_rfl) (by kernel_rfl) (fun _ => Tab.Ext.refl _ _) (fun _ _ _ h k => h.trans k) ?_
    iterate 3 (first | (refine Tab.tab_moveE _ rfl (Tab.silent_true _) (.inl rfl) rfl rfl (fun _ => Tab.Ext.refl _ _) ?_; apply Exists.intro; refine And.intro ?_ ?_; focus (simp [Tab.Env.ev, Tab.Env.get]; rfl)) | (refine Tab.tab_moveE _ rfl (Tab.silent_true _) (.inr rfl) rfl rfl (fun _ => Tab.Ext.refl _ _) ?_; apply Exists.intro; refine And.intro ?_ ?_; focus (simp [Tab.Env.ev, Tab.Env.get]; rfl)) | refine Tab.tab_skip rfl (Tab.silent_true _) rfl ?_ | (refine Tab.tab_repE rfl (Tab.silent_true _) rfl (fun _ _ h => by cases h) rfl (fun _ => Tab.Ext.refl _ _) ?_; apply Exists.intro; refine And.intro (fun l w' _ _ hw => ?_) ?_; focus (go_simp; rfl)) | (refine Tab.tab_repE rfl (Tab.silent_true _) rfl (fun _ _ h => by cases h) rfl (fun _ => Tab.Ext.refl _ _) ?_; apply Exists.intro; refine And.intro (fun l w' hs hc hw => ?_) ?_; focus (go_simp; rfl)))
    refine Tab.tab_make 3 k rfl rfl rfl rfl rfl rfl rfl Tryz.under57 Tryz.info3' (by omega) (by decide) ?_
    iterate 2 (first | (refine Tab.tab_moveE _ rfl (Tab.silent_true _) (.inl rfl) rfl rfl (fun _ => Tab.Ext.refl _ _) ?_; apply Exists.intro; refine And.intro ?_ ?_; focus (simp [Tab.Env.ev, Tab.Env.get]; rfl)) | (refine Tab.tab_moveE _ rfl (Tab.silent_true _) (.inr rfl) rfl rfl (fun _ => Tab.Ext.refl _ _) ?_; apply Exists.intro; refine And.intro ?_ ?_; focus (simp [Tab.Env.ev, Tab.Env.get]; rfl)) | refine Tab.tab_skip rfl (Tab.silent_true _) rfl ?_ | (refine Tab.tab_repE rfl (Tab.silent_true _) rfl (fun _ _ h => by cases h) rfl (fun _ => Tab.Ext.refl _ _) ?_; apply Exists.intro; refine And.intro (fun l w' _ _ hw => ?_) ?_; focus (go_simp; rfl)) | (refine Tab.tab_repE rfl (Tab.silent_true _) rfl (fun _ _ h => by cases h) rfl (fun _ => Tab.Ext.refl _ _) ?_; apply Exists.intro; refine And.intro (fun l w' hs hc hw => ?_) ?_; focus (go_simp; rfl)))
    refine Tab.tab_append (w.heap.size + 1 + 1) 3 k _ b off ds.length c (ds.map (.int .i64)) rfl rfl rfl rfl rfl rfl Tryz.under57 Tryz.info3' rfl (by decide) (by simp [madeCells]) (by simp) hn ?_ (by omega) (by decide) (by show _ ≤ W.heap.size; omega) ?_
    · intro w' h j u hj
      rw [List.getElem?_map] at hj
      obtain ⟨x, hx, rfl⟩ := Option.map_eq_some_iff.1 hj
      have hjl : j < ds.length := (List.getElem?_eq_some_iff.1 hx).1
      have h1 : w'.cell? ⟨b, off + j, none⟩ = W.cell? ⟨b, off + j, none⟩ := h.cell (p := ⟨b, off + j, none⟩) (by show b < W.heap.size; omega) id
      rw [h1, hbel.cell (p := ⟨b, off + j, none⟩) hlt, HC.out j hjl, List.getD_eq_getElem?_getD, hx]
      rfl
    intro a_ w_ hw_ hsat_
    refine Tab.fin_of_sat rfl ?_ hsat_
    simp only [Tab.fin, Act.put, List.setIfInBounds_toArray, List.set_cons_succ, List.set_cons_zero, List.drop_succ_cons, List.drop_zero]
    intro v13 _ v16 hown
    have B1' := B1.drew.ext hw_ id
    have hbel' : Below w.heap.size w w_ := hbel.drew.trans (hw_.below.mono hbel.size)
    rw [show (madeCells (Value.int .i64 0).cells (k * 1)).toList ++ ds.map (Value.int .i64) = (List.replicate k 0 ++ ds).map (Value.int .i64) by
      rw [List.map_append]
      congr 1
      refine List.ext_getElem? fun j => ?_
      simp [madeCells, Value.cells, List.getElem?_replicate, List.getElem?_range]
      by_cases hj : j < k
      · simp [hj, Nat.mod_one]
      · simp [hj], show k + ds.length = (List.replicate k 0 ++ ds).length by simp, ← HSH.out] at hown
    obtain ⟨A, c', rfl, hds, hfar⟩ := DS.of_own hown
    have HDS := Lib.hid hds
    have HF := Lib.hid hfar
    have f1 := B1'.frozen
    have q1 := wcell2 B1'
    clear hown hds hfar hsat_ hw_ q0 B0 B1 hbel
    go_wp2_with fail
    have r := wcell2 ((B1'.set_ 0 (.bool neg)).set_ 1 (.slice A (shiftD ds k).length c'))
    refine bodyPost_ret (v := .agg #[.bool neg, .slice A (shiftD ds k).length c']) (by simp [results, Tryz.results222, go_sem, r]) rfl ⟨_, rfl, ⟨A, c', rfl, HDS.out.keep (by simp) (fun b' off' hA hb => ?_), fun _ b off hA => by have := HF.out b off hA; omega⟩, (hbel'.setCell (p := ⟨w.heap.size + 1, 0, none⟩) (Nat.le_succ _) _).setCell (p := ⟨w.heap.size + 1, 1, none⟩) (Nat.le_succ _) _⟩
    have hne := HF.out b' off' hA
    rw [Below.heap_setCell _ _ _ _ (by show b' ≠ w.heap.size + 1; omega), Below.heap_setCell _ _ _ _ (by show b' ≠ w.heap.size + 1; omega)]

/-- a number of decimal digits that says s -/
def RV (base : Nat) (w : World) (v : Value) (s : Int) : Prop := ∃ ds, IsRW base w v (decide (s < 0)) ds ∧ Digits ds ∧ NoZero ds ∧ dval ds = s.natAbs ∧ ds.length ≤ 40

theorem IsRW.ext {base : Nat} {w w' : World} {v : Value} {neg : Bool} {ds : List Int} (h : IsRW base w v neg ds) (hb : Tab.Ext (fun _ => False) w w') : IsRW base w' v neg ds := let ⟨A, c, h1, h2, h3⟩ := h; ⟨A, c, h1, h2.later hb.below, h3⟩
theorem IsRW.base {base base' : Nat} {w : World} {v : Value} {neg : Bool} {ds : List Int} (h : IsRW base w v neg ds) (hb : base' ≤ base) : IsRW base' w v neg ds := let ⟨A, c, h1, h2, h3⟩ := h; ⟨A, c, h1, h2, fun hn b off hA => Nat.le_trans hb (h3 hn b off hA)⟩
theorem RV.ext {base : Nat} {w w' : World} {v : Value} {s : Int} (h : RV base w v s) (hb : Tab.Ext (fun _ => False) w w') : RV base w' v s := let ⟨ds, h1, h2⟩ := h; ⟨ds, h1.ext hb, h2⟩

theorem dval_zeros (k : Nat) (ds : List Int) : dval (List.replicate k 0 ++ ds) = 10 ^ k * dval ds := by
  induction k with
  | zero => simp
  | succ k ih =>
    rw [List.replicate_succ, List.cons_append, dval, ih, Int.pow_succ, Int.mul_comm (10 ^ k) 10, Int.mul_assoc]
    omega
theorem Digs.length {n : Int} {ds : List Int} (h : Digs n 0 ds) (hn : I64 n) : ds.length ≤ 19 := by
  rcases Nat.lt_or_ge 19 ds.length with hlt | hge
  · exfalso
    have h1 := h.sum
    have hz := h.last rfl
    obtain ⟨l, d, rfl⟩ : ∃ l d, ds = l ++ [d] := ⟨ds.dropLast, ds.getLast (by intro e; simp [e] at hlt), (List.dropLast_concat_getLast _).symm⟩
    have hd0 : d ≠ 0 := hz d (by simp)
    have hd := h.digits d (by simp)
    have hl := dval_nonneg (l := l) (fun x hx => h.digits x (List.mem_append_left _ hx))
    rw [dval_append] at h1
    simp only [dval, List.length_append, List.length_singleton] at h1 hlt
    have h3 : (10 : Int) ^ 19 ≤ 10 ^ l.length := by exact_mod_cast Nat.pow_le_pow_right (by omega) (by omega)
    have h4 := Int.mul_le_mul h3 (show (1 : Int) ≤ d + 10 * 0 by unfold digit at hd; omega) (by omega) (by omega)
    unfold I64 at hn
    simp at h1
    simp at h4
    omega
  · exact hge
theorem Digs.rv {n : Int} {ds : List Int} (h : Digs n 0 ds) (hn : I64 n) {k : Nat} (hk : k ≤ 12) : Digits (shiftD ds k) ∧ NoZero (shiftD ds k) ∧ dval (shiftD ds k) = (n * 10 ^ k).natAbs ∧ (shiftD ds k).length ≤ 40 ∧ decide (n * 10 ^ k < 0) = decide (n < 0) := by
  have hp : (0 : Int) < 10 ^ k := Int.pow_pos (by omega)
  have hv : dval ds = n.natAbs := by have := h.sum; simpa using this
  have hlen := h.length hn
  have e1 : ((n * 10 ^ k).natAbs : Int) = 10 ^ k * n.natAbs := by
    rw [Int.natAbs_mul, Int.natCast_mul, Int.mul_comm]
    congr 1
  have e2 : decide (n * 10 ^ k < 0) = decide (n < 0) := by
    by_cases hn0 : n < 0
    · rw [decide_eq_true hn0, decide_eq_true (Int.mul_neg_of_neg_of_pos hn0 hp)]
    · rw [decide_eq_false hn0, decide_eq_false (Int.not_lt.2 (Int.mul_nonneg (by omega) (by omega)))]
  unfold shiftD
  by_cases h0 : ds = []
  · subst h0
    rw [if_pos rfl]
    refine ⟨fun _ h => (by cases h), fun _ h => (by simp at h), ?_, by simp, e2⟩
    rw [e1, ← hv]
    simp [dval]
  · rw [if_neg h0]
    refine ⟨fun d hd => ?_, fun d hd => ?_, ?_, by simp; omega, e2⟩
    · rcases List.mem_append.1 hd with h1 | h1
      · rw [List.eq_of_mem_replicate h1]
        exact ⟨by omega, by omega⟩
      · exact h.digits d h1
    · rw [List.getLast?_append] at hd
      cases hl : ds.getLast? with
      | none => rw [List.getLast?_eq_none_iff] at hl; exact absurd hl h0
      | some x =>
        rw [hl] at hd
        simp at hd
        subst hd
        exact h.last rfl x hl
    · rw [dval_zeros, hv, e1]
theorem cfWideOf : ∀ (args : Array Value) (w : World), (callFunc 223 args).run Tryz.prog w = .ok (.enter 223 args) w := fun _ _ => by simp [go_sem]
theorem cfTens : ∀ (args : Array Value) (w : World), (callFunc 222 args).run Tryz.prog w = .ok (.enter 222 args) w := fun _ _ => by simp [go_sem]

set_option maxHeartbeats 1000000 in
theorem twelve_any (x : VD) (ho : x.ok) (A : Option Addr) (c d : Nat) (hd : d ≤ 12) (hsc : x.sc = 12 - d) (w : World) :
    Calls Tryz.prog 190 #[tx x A c] w fun e w' => ∃ r, e = .returned r ∧ RV w.heap.size w' r (x.n * 10 ^ d) ∧ Below w.heap.size w w' := by
  unfold tx
  have HSC := Lib.hid hsc
  have HO := Lib.hid ho
  clear hsc ho
  go_enter Tryz.func190, Tryz.ntmps190
  go_wp2_with fail
  generalize hW : (w.alloc (.cells #[.int .i64 x.k, .int .i64 x.n, .int .i64 x.sc, .string x.s, .slice A x.items.length c] 33)).alloc (.cells #[.bool false, .slice none 0 0] 232) = W
  have B0 : Blk W w.heap.size 33 [.int .i64 x.k, .int .i64 x.n, .int .i64 x.sc, .string x.s, .slice A x.items.length c] := hW ▸ (Blk.new w _ _).alloc _
  have B1 : Blk W (w.heap.size + 1) 232 [.bool false, .slice none 0 0] := by
    have h := Blk.new (w.alloc (.cells #[.int .i64 x.k, .int .i64 x.n, .int .i64 x.sc, .string x.s, .slice A x.items.length c] 33)) 232 [.bool false, .slice none 0 0]
    rw [← hW]
    simpa using h
  have hbel : Below w.heap.size w W := hW ▸ (below_new w _).alloc (by simp) _
  have hsz : W.heap.size = w.heap.size + 1 + 1 := by rw [← hW]; simp
  clear hW
  have q0 := fun w' (h : Tab.Ext (fun _ => False) W.drew w') => wcell5 (B0.drew.ext h id)
  refine Tab.wp_region_tab_tail 7 (Tab.Ext fun _ => False) (by kernel_rfl) (by kernel_rfl) (by kernel_rfl) (fun _ => Tab.Ext.refl _ _) (fun _ _ _ h k => h.trans k) ?_
  iterate 2 (first | (refine Tab.tab_moveE _ rfl (Tab.silent_true _) (.inl rfl) rfl rfl (fun _ => Tab.Ext.refl _ _) ?_; apply Exists.intro; refine And.intro ?_ ?_; focus (simp [Tab.Env.ev, Tab.Env.get]; rfl)) | (refine Tab.tab_moveE _ rfl (Tab.silent_true _) (.inr rfl) rfl rfl (fun _ => Tab.Ext.refl _ _) ?_; apply Exists.intro; refine And.intro ?_ ?_; focus (simp [Tab.Env.ev, Tab.Env.get]; rfl)) | refine Tab.tab_skip rfl (Tab.silent_true _) rfl ?_ | (refine Tab.tab_repE rfl (Tab.silent_true _) rfl (fun _ _ h => by cases h) rfl (fun _ => Tab.Ext.refl _ _) ?_; apply Exists.intro; refine And.intro (fun l w' _ _ hw => ?_) ?_; focus (go_simp; rfl)) | (refine Tab.tab_repE rfl (Tab.silent_true _) rfl (fun _ _ h => by cases h) rfl (fun _ => Tab.Ext.refl _ _) ?_; apply Exists.intro; refine And.intro (fun l w' hs hc hw => ?_) ?_; focus (go_simp; rfl)))
  refine Tab.tab_callk (.ty fun v w => ∃ ds, IsRW 0 w v (decide (x.n < 0)) ds ∧ Digs x.n 0 ds) rfl (fun v w w' hE ⟨ds, h1, h2⟩ => ⟨ds, h1.ext hE, h2⟩) rfl rfl cfWideOf rfl (fun l w' _ _ _ hw => ?_) ?_
  · show Calls _ _ #[.int .i64 x.n] w' _
    refine (wideOf_any x.n HO.out.n w').mono ?_
    rintro e w2 ⟨v, ds, rfl, hv, hds, hb⟩
    exact ⟨v, rfl, ⟨ds, hv.base (Nat.zero_le _), hds⟩, Tab.Ext.of_below hb, trivial⟩
  iterate 2 (first | (refine Tab.tab_moveE _ rfl (Tab.silent_true _) (.inl rfl) rfl rfl (fun _ => Tab.Ext.refl _ _) ?_; apply Exists.intro; refine And.intro ?_ ?_; focus (simp [Tab.Env.ev, Tab.Env.get]; rfl)) | (refine Tab.tab_moveE _ rfl (Tab.silent_true _) (.inr rfl) rfl rfl (fun _ => Tab.Ext.refl _ _) ?_; apply Exists.intro; refine And.intro ?_ ?_; focus (simp [Tab.Env.ev, Tab.Env.get]; rfl)) | refine Tab.tab_skip rfl (Tab.silent_true _) rfl ?_ | (refine Tab.tab_repE rfl (Tab.silent_true _) rfl (fun _ _ h => by cases h) rfl (fun _ => Tab.Ext.refl _ _) ?_; apply Exists.intro; refine And.intro (fun l w' _ _ hw => ?_) ?_; focus (go_simp; rfl)) | (refine Tab.tab_repE rfl (Tab.silent_true _) rfl (fun _ _ h => by cases h) rfl (fun _ => Tab.Ext.refl _ _) ?_; apply Exists.intro; refine And.intro (fun l w' hs hc hw => ?_) ?_; focus (go_simp; rfl)))
  refine Tab.tab_rep (v := .int .i64 d) rfl (Tab.silent_true _) rfl (fun _ _ h => by cases h) rfl (fun _ => Tab.Ext.refl _ _) (fun l w' _ _ hw => ?_) ?_
  · rw [HSC.out]
    go_simp
    exact wrap_sc hd
  refine Tab.tab_call (.ty fun v w' => RV (w.heap.size + 1 + 1) w' v (x.n * 10 ^ d)) rfl (fun v w w' hE h => h.ext hE) rfl rfl cfTens (fun l ρ w' _ _ _ hw hx => ?_) ?_
  · have e4 := hx (.tmp 5) (by simp)
    simp only [Tab.Env.tyd, Tab.Env.knows, Tab.Env.get, Nat.reduceEqDiff, if_true, if_false, Tab.Ty.holds] at e4
    have e5 := hx (.tmp 8) (by simp)
    simp only [Tab.Env.tyd, Tab.Env.knows, Tab.Env.get, Nat.reduceEqDiff, if_true, if_false, Tab.Ty.holds] at e5
    simp only [List.map_toArray, List.map_cons, List.map_nil]
    obtain ⟨ds, h1, h2⟩ := e4
    rw [e5]
    refine (tens_any _ _ ds d hd w' 0 h1 (by have := h2.length HO.out.n; omega)).mono ?_
    rintro e w2 ⟨r, rfl, hr, hb⟩
    have h3 := h2.rv HO.out.n hd
    have hbase : w.heap.size + 1 + 1 ≤ w'.heap.size := Nat.le_trans (Nat.le_of_eq hsz.symm) hw.size
    exact ⟨r, rfl, ⟨_, by rw [h3.2.2.2.2]; exact hr.base hbase, h3.1, h3.2.1, h3.2.2.1, h3.2.2.2.1⟩, Tab.Ext.of_below hb, trivial⟩
  intro a_ w_ hw_ hsat_
  refine Tab.fin_of_sat rfl ?_ hsat_
  simp only [Tab.fin, Act.put, List.setIfInBounds_toArray, List.set_cons_succ, List.set_cons_zero, List.drop_succ_cons, List.drop_zero]
  intro v5 _ v9 hrv
  have B1' := B1.drew.ext hw_ id
  have hbel' : Below w.heap.size w w_ := hbel.drew.trans (hw_.below.mono hbel.size)
  obtain ⟨ds, ⟨A', c', rfl, hds, hfar⟩, hrest⟩ := hrv
  have HDS := Lib.hid hds
  have HF := Lib.hid hfar
  have HR := Lib.hid hrest
  have f1 := B1'.frozen
  have q1 := wcell2 B1'
  clear hds hfar hrest hsat_ hw_ q0 B0 B1 hbel
  generalize hneg : decide (x.n * 10 ^ d < 0) = neg
  go_wp2_with fail
  have r := wcell2 ((B1'.set_ 0 (.bool neg)).set_ 1 (.slice A' ds.length c'))
  refine bodyPost_ret (v := .agg #[.bool neg, .slice A' ds.length c']) (by simp [results, Tryz.results190, go_sem, r]) rfl ⟨_, rfl, ⟨ds, ⟨A', c', by rw [hneg], HDS.out.keepn (by simp) (fun hn b' off' hA hb => ?_), fun hn b off hA => by have := HF.out hn b off hA; omega⟩, HR.out⟩, (hbel'.setCell (p := ⟨w.heap.size + 1, 0, none⟩) (Nat.le_succ _) _).setCell (p := ⟨w.heap.size + 1, 1, none⟩) (Nat.le_succ _) _⟩
  have hne := HF.out hn b' off' hA
  rw [Below.heap_setCell _ _ _ _ (by show b' ≠ w.heap.size + 1; omega), Below.heap_setCell _ _ _ _ (by show b' ≠ w.heap.size + 1; omega)]
end Go.Proofs.YthejmnmkbldacaaGreatDoor
