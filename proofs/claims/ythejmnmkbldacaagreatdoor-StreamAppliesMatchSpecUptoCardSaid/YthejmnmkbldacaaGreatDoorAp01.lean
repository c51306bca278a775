/-
  What is proved: a rule for a region of operations (whether or not it draws its order): each operation is shown once, from what is known of the slots that it looks at, in every later world. Conditions: none. No program in sight.
-/
import Derived.Orders
import Derived.StillTail
import Derived.Laws.World
import Derived.RowKit3
set_option linter.all false
namespace Go.Proofs.YthejmnmkbldacaaGreatDoor.Tab
open Go

/-- w' comes of w by new blocks, and by changes of old blocks that M names -/
structure Ext (M : Nat → Prop) (w w' : World) : Prop where
  os : w'.os = w.os
  tape : w'.tape = w.tape
  output : w'.output = w.output
  size : w.heap.size ≤ w'.heap.size
  block : ∀ k, k < w.heap.size → ¬ M k → w'.heap[k]? = w.heap[k]?

theorem Ext.refl (M : Nat → Prop) (w : World) : Ext M w w := ⟨rfl, rfl, rfl, Nat.le_refl _, fun _ _ _ => rfl⟩
theorem Ext.trans {M : Nat → Prop} {a b c : World} (h : Ext M a b) (k : Ext M b c) : Ext M a c :=
  ⟨k.os.trans h.os, k.tape.trans h.tape, k.output.trans h.output, Nat.le_trans h.size k.size,
    fun i hi hm => (k.block i (Nat.lt_of_lt_of_le hi h.size) hm).trans (h.block i hi hm)⟩

/-- what is known of a slot: its very value, or a relation between value and world -/
inductive Ty where
  | is (v : Value)
  | ty (R : Value → World → Prop)

def Ty.holds : Ty → Value → World → Prop
  | .is v, x, _ => x = v
  | .ty R, x, w => R x w

abbrev Env := List (Tmp × Ty)

def Env.get (G : Env) (t : Tmp) : Option Ty := match G with
  | [] => none
  | (s, T) :: r => if s = t then some T else Env.get r t

/-- what is known of slot t: by the list, else what it held ahead of the region -/
def Env.knows (G : Env) (a0 : Act) (t : Tmp) : Value → World → Prop := match G.get t with
  | some T => T.holds
  | none => fun x _ => x = a0.tmps.getD t undef

/-- j comes ahead of i, by edges that bind -/
def anc (ops : Array Oper) : Nat → Nat → Nat → Bool
  | 0, _, _ => false
  | f + 1, i, j => match ops[i]? with
    | none => false
    | some o => o.after.any fun e => Region.binds .any e && (e.on == j || anc ops f e.on j)

section
variable (P : Program) (ops : Array Oper) (Q : Exit → Act → World → Prop) (E : World → World → Prop) (C : Array Bool → World → Prop) (w0 : World) (a0 : Act)

/-- where operation i stands when it comes up: its forerunners are done, what waits for it is not, nor itself -/
def Stage (i : Nat) (listed : Array Bool) : Prop :=
  listed.getD i false = false ∧ ∀ j, (anc ops ops.size i j = true → listed.getD j false = true) ∧ (anc ops ops.size j i = true → listed.getD j false = false)

/-- operation i: from what is known of the slots that it looks at, in whatever world it may come up in -/
def stepOK (i : Nat) (o : Oper) (G : Env) (T : Ty) : Prop :=
  ∀ (listed : Array Bool) (a : Act) (w : World), listed.size = ops.size → Stage ops i listed → C listed w → E w0 w → (∀ t ∈ o.looksAt ops, G.knows a0 t (a.tmps.getD t undef) w) →
    (if Region.wanted o (yielded ops a.tmps) then o.wp P a w (fun a' w' => ∃ v, a' = a.put o.dst v ∧ T.holds v w' ∧ E w w' ∧ C (listed.setIfInBounds i true) w') Q ∨ (o.asks P a w ∧ LetsOut Q)
     else T.holds undef w ∧ C (listed.setIfInBounds i true) w)

/-- what a frame satisfies behind some operations -/
def sat (G : Env) (a : Act) (w : World) : Prop :=
  a.defers = a0.defers ∧ a.tmps.size = a0.tmps.size ∧ ∀ t, G.knows a0 t (a.tmps.getD t undef) w

def stable (T : Ty) : Prop := ∀ v w w', E w w' → T.holds v w → T.holds v w'

/-- the walk in the order of the text; K: what is asked at its end -/
def wpTab (K : Env → Prop) : Nat → List Oper → Env → Prop
  | _, [], G => K G
  | i, o :: rest, G => ∃ T : Ty, stable E T ∧ stepOK P ops Q E C w0 a0 i o G T ∧ wpTab K (i + 1) rest (match o.dst with | some d => (d, T) :: G | none => G)
end

/-- the check on the first n operations: slots inside the frame; no slot written twice; who reads what another writes is ordered with it; edges lead back -/
def headB (ops : Array Oper) (n sz : Nat) : Bool :=
  (List.range n).all fun i => match ops[i]? with
    | none => false
    | some oi =>
      (match oi.op with | .select .. => false | _ => true) &&
      oi.after.all (fun e => !Region.binds .any e || decide (e.on < i)) &&
      (match oi.dst with | none => true | some d => decide (d < sz)) &&
      (List.range n).all fun j => i == j || match ops[j]? with
        | none => false
        | some oj =>
          (match oi.dst, oj.dst with | some d, some d' => d != d' | _, _ => true) &&
          (match oj.dst with
           | none => true
           | some d => !(oi.looksAt ops).contains d || (if j < i then anc ops ops.size i j else anc ops ops.size j i))

section sound
variable {P : Program} {ops : Array Oper} {Q : Exit → Act → World → Prop} {E : World → World → Prop} {C : Array Bool → World → Prop} {w0 : World} {a0 : Act}

/-- every listed operation's forerunners are listed -/
def Closed (ops : Array Oper) (listed : Array Bool) : Prop :=
  ∀ j oj, ops[j]? = some oj → listed.getD j false = true → ∀ e ∈ oj.after, Region.binds .any e = true → listed.getD e.on false = true

theorem anc_listed {listed : Array Bool} (hc : Closed ops listed) : ∀ (f i j : Nat), anc ops f i j = true →
    (∀ oi, ops[i]? = some oi → ∀ e ∈ oi.after, Region.binds .any e = true → listed.getD e.on false = true) → listed.getD j false = true := by
  intro f
  induction f with
  | zero => intro i j h; simp [anc] at h
  | succ f ih =>
    intro i j h hi
    simp only [anc] at h
    split at h
    · cases h
    · rename_i o ho
      obtain ⟨e, he, hb⟩ := Array.any_eq_true'.1 h
      simp only [Bool.and_eq_true, Bool.or_eq_true, beq_iff_eq] at hb
      obtain ⟨hb1, hb2⟩ := hb
      have hl := hi o ho e he hb1
      rcases hb2 with rfl | hb2
      · exact hl
      · exact ih e.on j hb2 (fun oi hoi e' he' hb' => hc e.on oi hoi hl e' he' hb')

theorem anc_trans_no {listed : Array Bool} (hc : Closed ops listed) {i : Nat} (hi : i ∈ Region.ready .any ops listed) : Stage ops i listed := by
  obtain ⟨hun, oi, hoi, hall⟩ := mem_ready.1 hi
  refine ⟨getD_both hun, fun j => ⟨fun h => anc_listed hc _ i j h (fun ok hok e he hb => ?_), fun h => ?_⟩⟩
  · have : ok = oi := Option.some.inj (hok.symm.trans hoi)
    subst this
    exact hall e he hb
  · cases hl : listed.getD j false with
    | false => rfl
    | true =>
      have := anc_listed hc _ j i h (fun ok hok e he hb => hc j ok hok hl e he hb)
      rw [getD_both hun] at this
      cases this
theorem stage_of {listed : Array Bool} (hc : Closed ops listed) {i : Nat} (hi : i ∈ Region.ready .any ops listed) : Stage ops i listed := anc_trans_no hc hi

theorem Env.get_cons (d : Tmp) (T : Ty) (G : Env) (t : Tmp) : Env.get ((d, T) :: G) t = if d = t then some T else G.get t := rfl

/-- the table that a walk leaves: of operation i, the list ahead of it and what it leaves -/
def Table (P : Program) (ops : Array Oper) (Q : Exit → Act → World → Prop) (E : World → World → Prop) (C : Array Bool → World → Prop) (w0 : World) (a0 : Act) (k : Nat) (l : List Oper) (G0 : Env) (Gs : Nat → Env) (Ts : Nat → Ty) : Prop :=
  Gs k = G0 ∧ ∀ i o, l[i]? = some o → stable E (Ts (k + i)) ∧ stepOK P ops Q E C w0 a0 (k + i) o (Gs (k + i)) (Ts (k + i)) ∧ Gs (k + i + 1) = (match o.dst with | some d => (d, Ts (k + i)) :: Gs (k + i) | none => Gs (k + i))

theorem table_of {K : Env → Prop} : ∀ (l : List Oper) (k : Nat) (G : Env), wpTab P ops Q E C w0 a0 K k l G → ∃ Gs Ts, Table P ops Q E C w0 a0 k l G Gs Ts ∧ K (Gs (k + l.length))
  | [], k, G, h => ⟨fun _ => G, fun _ => .is undef, ⟨rfl, fun i o hi => by simp at hi⟩, h⟩
  | o :: l, k, G, h => by
    obtain ⟨T, hst, hstep, hrest⟩ := h
    obtain ⟨Gs, Ts, ⟨h0, ht⟩, hK⟩ := table_of l (k + 1) _ hrest
    refine ⟨fun i => if i = k then G else Gs i, fun i => if i = k then T else Ts i, ⟨by simp, ?_⟩, ?_⟩
    · intro i o' hi
      cases i with
      | zero =>
        simp at hi
        subst hi
        have e1 : ¬ (k + 0 + 1 = k) := by omega
        simp only [Nat.add_zero, if_true] at e1 ⊢
        simp only [e1, if_false]
        exact ⟨hst, hstep, h0⟩
      | succ i =>
        have := ht i o' (by simpa using hi)
        simp only [show k + 1 + i = k + (i + 1) by omega] at this
        have e1 : ¬ (k + (i + 1) = k) := by omega
        have e2 : ¬ (k + (i + 1) + 1 = k) := by omega
        simp only [e1, e2, if_false]
        exact this
    · have e1 : ¬ (k + (l.length + 1) = k) := by omega
      simp only [List.length_cons, e1, if_false]
      rw [show k + (l.length + 1) = k + 1 + l.length by omega]
      exact hK

structure Inv (ops : Array Oper) (E : World → World → Prop) (C : Array Bool → World → Prop) (w0 : World) (a0 : Act) (n : Nat) (Gs : Nat → Env) (Ts : Nat → Ty) (listed : Array Bool) (a : Act) (w : World) : Prop where
  size : listed.size = ops.size
  closed : Closed ops listed
  ext : E w0 w
  cls : C listed w
  defers : a.defers = a0.defers
  tsize : a.tmps.size = a0.tmps.size
  fact : ∀ i o d, i < n → ops[i]? = some o → o.dst = some d → listed.getD i false = true → (Ts i).holds (a.tmps.getD d undef) w
  old : ∀ t, (∀ i o, i < n → ops[i]? = some o → o.dst = some t → listed.getD i false = false) → a.tmps.getD t undef = a0.tmps.getD t undef
  head : ∀ i, n ≤ i → listed.getD i false = false

theorem get_spec {n : Nat} {Gs : Nat → Env} {Ts : Nat → Ty} (hn : n ≤ ops.size) (h0 : Gs 0 = []) (hG : ∀ i o, i < n → ops[i]? = some o → Gs (i + 1) = (match o.dst with | some d => (d, Ts i) :: Gs i | none => Gs i)) :
    ∀ i, i ≤ n → ∀ t, (∃ j oj, j < i ∧ ops[j]? = some oj ∧ oj.dst = some t ∧ (Gs i).get t = some (Ts j)) ∨ ((Gs i).get t = none ∧ ∀ j oj, j < i → ops[j]? = some oj → oj.dst ≠ some t) := by
  intro i
  induction i with
  | zero => intro _ t; rw [h0]; exact .inr ⟨rfl, fun j _ hj => by omega⟩
  | succ i ih =>
    intro hi t
    have hlt : i < ops.size := by omega
    have ho : ops[i]? = some ops[i] := Array.getElem?_eq_getElem hlt
    rw [hG i _ (by omega) ho]
    have back : ∀ (hne : ops[i].dst ≠ some t), ((∃ j oj, j < i + 1 ∧ ops[j]? = some oj ∧ oj.dst = some t ∧ (Gs i).get t = some (Ts j)) ∨ ((Gs i).get t = none ∧ ∀ j oj, j < i + 1 → ops[j]? = some oj → oj.dst ≠ some t)) := by
      intro hne
      rcases ih (by omega) t with ⟨j, oj, hj, hoj, hd, hg⟩ | ⟨hg, hno⟩
      · exact .inl ⟨j, oj, by omega, hoj, hd, hg⟩
      · refine .inr ⟨hg, fun j oj hj hoj => ?_⟩
        by_cases hji : j = i
        · subst hji; rw [ho] at hoj; cases hoj; exact hne
        · exact hno j oj (by omega) hoj
    cases hd : ops[i].dst with
    | none => exact back (by rw [hd]; simp)
    | some d =>
      simp only [Env.get_cons]
      by_cases hdt : d = t
      · subst hdt
        exact .inl ⟨i, _, by omega, ho, hd, by simp⟩
      · rw [if_neg hdt]
        exact back (by rw [hd]; intro e; injection e with e; exact hdt e)

theorem headB_spec {n sz : Nat} (h : headB ops n sz = true) (i : Nat) (hi : i < n) : ∃ oi, ops[i]? = some oi ∧ (∀ cs b, oi.op ≠ .select cs b) ∧ (∀ e ∈ oi.after, Region.binds .any e = true → e.on < i) ∧ (∀ d, oi.dst = some d → d < sz) ∧
    ∀ j, j < n → j ≠ i → ∃ oj, ops[j]? = some oj ∧ (∀ d, oi.dst = some d → oj.dst ≠ some d) ∧ (∀ d, oj.dst = some d → d ∈ oi.looksAt ops → if j < i then anc ops ops.size i j = true else anc ops ops.size j i = true) := by
  have h1 := List.all_eq_true.1 h i (List.mem_range.2 hi)
  split at h1
  · cases h1
  · rename_i oi hoi
    simp only [Bool.and_eq_true] at h1
    obtain ⟨⟨⟨h2, h3⟩, h4⟩, h5⟩ := h1
    refine ⟨oi, hoi, ?_, ?_, ?_, ?_⟩
    · intro cs b e; rw [e] at h2; cases h2
    · intro e he hb
      have := Array.all_eq_true'.1 h3 e he
      simp only [hb, Bool.not_true, Bool.false_or, decide_eq_true_eq] at this
      exact this
    · intro d hd
      rw [hd] at h4
      simpa using h4
    · intro j hj hji
      have h6 := List.all_eq_true.1 h5 j (List.mem_range.2 hj)
      simp only [Bool.or_eq_true, beq_iff_eq] at h6
      rcases h6 with h6 | h6
      · exact absurd h6.symm hji
      · split at h6
        · cases h6
        · rename_i oj hoj
          simp only [Bool.and_eq_true] at h6
          refine ⟨oj, hoj, ?_, ?_⟩
          · intro d hd hd'
            have := h6.1
            rw [hd, hd'] at this
            simp at this
          · intro d hd hmem
            have := h6.2
            rw [hd] at this
            simp only [Bool.or_eq_true, Bool.not_eq_true'] at this
            rcases this with h7 | h7
            · have : (oi.looksAt ops).contains d = true := by simpa using hmem
              rw [this] at h7; cases h7
            · split <;> rename_i hlt
              · rw [if_pos hlt] at h7; exact h7
              · rw [if_neg hlt] at h7; exact h7

theorem getD_false_of {l : Array Bool} {i : Nat} (h : l.getD i true = false) : l.getD i false = false := getD_both h

theorem put_getD_same {a : Act} {d : Tmp} {v : Value} (h : d < a.tmps.size) : (a.put (some d) v).tmps.getD d undef = v := by
  simp [Act.put, h]
theorem put_getD_ne {a : Act} {d t : Tmp} {v : Value} (h : d ≠ t) : (a.put (some d) v).tmps.getD t undef = a.tmps.getD t undef := by
  simp [Act.put, Array.getElem?_setIfInBounds_ne h]

theorem inv_step {n : Nat} {Gs : Nat → Env} {Ts : Nat → Ty} (hEt : ∀ a b c, E a b → E b c → E a c) (hB : headB ops n a0.tmps.size = true)
    (hst : ∀ i, i < n → stable E (Ts i))
    {listed : Array Bool} {a a' : Act} {w w' : World} {i : Nat} {o : Oper} (hI : Inv ops E C w0 a0 n Gs Ts listed a w) (hi : i ∈ Region.ready .any ops listed) (hin : i < n) (ho : ops[i]? = some o)
    {v : Value} (ha' : a' = a.put o.dst v) (hT : (Ts i).holds v w') (hE : E w w') (hC : C (listed.setIfInBounds i true) w') : Inv ops E C w0 a0 n Gs Ts (listed.setIfInBounds i true) a' w' := by
  obtain ⟨hun, oi, hoi, hall⟩ := mem_ready.1 hi
  have e1 : oi = o := Option.some.inj (hoi.symm.trans ho)
  subst e1
  obtain ⟨oi', hoi', _, _, hsz, hoth⟩ := headB_spec hB i hin
  have e2 : oi' = oi := Option.some.inj (hoi'.symm.trans hoi)
  subst e2
  have his : i < ops.size := (Array.getElem?_eq_some_iff.1 hoi).1
  refine ⟨by simp [hI.size], ?_, hEt _ _ _ hI.ext hE, hC, ?_, ?_, ?_, ?_, ?_⟩
  · intro j oj hj hl e he hb
    by_cases hij : i = j
    · subst hij
      have : oj = oi' := Option.some.inj (hj.symm.trans hoi)
      subst this
      exact getD_set_true (hall e he hb)
    · rw [getD_set_ne false hij] at hl
      exact getD_set_true (hI.closed j oj hj hl e he hb)
  · rw [ha']; cases oi'.dst <;> exact hI.defers
  · rw [ha']; cases h : oi'.dst <;> simp [Act.put, hI.tsize]
  · intro j oj d hj hoj hd hl
    by_cases hij : i = j
    · subst hij
      have : oj = oi' := Option.some.inj (hoj.symm.trans hoi)
      subst this
      rw [ha', hd, put_getD_same (by rw [hI.tsize]; exact hsz d hd)]
      exact hT
    · rw [getD_set_ne false hij] at hl
      have hf := hst j hj _ _ _ hE (hI.fact j oj d hj hoj hd hl)
      obtain ⟨oj', hoj', hdne, _⟩ := hoth j hj (Ne.symm hij)
      have : oj' = oj := Option.some.inj (hoj'.symm.trans hoj)
      subst this
      rw [ha']
      cases hdi : oi'.dst with
      | none => exact hf
      | some di =>
        rw [put_getD_ne (by intro e; subst e; exact hdne di hdi hd)]
        exact hf
  · intro t ht
    have h1 : oi'.dst ≠ some t := fun e => by
      have := ht i oi' hin hoi e
      rw [show (listed.setIfInBounds i true).getD i false = true by simp [hI.size, his]] at this
      cases this
    have h2 := hI.old t (fun j oj hj hoj hd => by
      by_cases hij : i = j
      · subst hij; exact getD_both hun
      · have := ht j oj hj hoj hd
        rwa [getD_set_ne false hij] at this)
    rw [ha']
    cases hdi : oi'.dst with
    | none => exact h2
    | some di => rw [put_getD_ne (by intro e; subst e; exact h1 hdi)]; exact h2
  · intro j hj
    rw [getD_set_ne false (by omega)]
    exact hI.head j hj

/-- what the operation that is ready knows of the slots that it looks at -/
theorem inv_knows {n : Nat} {Gs : Nat → Env} {Ts : Nat → Ty} (hn : n ≤ ops.size) (hB : headB ops n a0.tmps.size = true) (h0 : Gs 0 = [])
    (hG : ∀ i o, i < n → ops[i]? = some o → Gs (i + 1) = (match o.dst with | some d => (d, Ts i) :: Gs i | none => Gs i))
    {listed : Array Bool} {a : Act} {w : World} {i : Nat} {o : Oper} (hI : Inv ops E C w0 a0 n Gs Ts listed a w) (hi : i ∈ Region.ready .any ops listed) (hin : i < n) (ho : ops[i]? = some o) :
    ∀ t ∈ o.looksAt ops, (Gs i).knows a0 t (a.tmps.getD t undef) w := by
  obtain ⟨hun, oi, hoi, hall⟩ := mem_ready.1 hi
  have e1 : oi = o := Option.some.inj (hoi.symm.trans ho)
  subst e1
  obtain ⟨oi', hoi', _, _, _, hoth⟩ := headB_spec hB i hin
  have e2 : oi' = oi := Option.some.inj (hoi'.symm.trans hoi)
  subst e2
  intro t ht
  have hdir : ∀ oj, ops[i]? = some oj → ∀ e ∈ oj.after, Region.binds .any e = true → listed.getD e.on false = true := fun oj hoj e he hb => by
    have : oj = oi' := Option.some.inj (hoj.symm.trans hoi)
    subst this
    exact hall e he hb
  rcases get_spec hn h0 hG i (by omega) t with ⟨j, oj, hj, hoj, hd, hg⟩ | ⟨hg, hno⟩
  · unfold Env.knows
    rw [hg]
    obtain ⟨oj', hoj', _, hlook⟩ := hoth j (by omega) (by omega)
    have : oj' = oj := Option.some.inj (hoj'.symm.trans hoj)
    subst this
    have hanc := hlook t hd ht
    rw [if_pos hj] at hanc
    exact hI.fact j oj' t (by omega) hoj hd (anc_listed hI.closed _ i j hanc hdir)
  · unfold Env.knows
    rw [hg]
    refine hI.old t (fun j oj hj hoj hd => ?_)
    by_cases hji : j = i
    · subst hji; exact getD_both hun
    · rcases Nat.lt_or_ge j i with hlt | hge
      · exact absurd hd (hno j oj hlt hoj)
      · obtain ⟨oj', hoj', _, hlook⟩ := hoth j hj hji
        have : oj' = oj := Option.some.inj (hoj'.symm.trans hoj)
        subst this
        have hanc := hlook t hd ht
        rw [if_neg (by omega)] at hanc
        cases hl : listed.getD j false with
        | false => rfl
        | true =>
          have := anc_listed hI.closed _ j i hanc (fun ok hok e he hb => hI.closed j ok hok hl e he hb)
          rw [getD_both hun] at this
          cases this

theorem wp_imp {o : Oper} {a : Act} {w : World} {K K' : Act → World → Prop} (h : ∀ a w, K a w → K' a w) (hh : o.wp P a w K Q) : o.wp P a w K' Q := Oper.wp_mono h hh

theorem any_of_table {n : Nat} {Gs : Nat → Env} {Ts : Nat → Ty} (hEr : ∀ w, E w w) (hEt : ∀ a b c, E a b → E b c → E a c) (hn : n ≤ ops.size) (hB : headB ops n a0.tmps.size = true) (h0 : Gs 0 = [])
    (hG : ∀ i o, i < n → ops[i]? = some o → Gs (i + 1) = (match o.dst with | some d => (d, Ts i) :: Gs i | none => Gs i))
    (hst : ∀ i, i < n → stable E (Ts i)) (hstep : ∀ i o, i < n → ops[i]? = some o → stepOK P ops Q E C w0 a0 i o (Gs i) (Ts i))
    (g : Nat)
    (hend : ∀ listed a w, Inv ops E C w0 a0 n Gs Ts listed a w → (∀ i, i < n → listed.getD i false = true) → wpAny P .any ops Q g listed a w)
    (htail : ∀ listed, Closed ops listed → ∀ i, n ≤ i → i ∈ Region.ready .any ops listed → ∀ j, j < n → listed.getD j false = true) :
    ∀ (f : Nat) (listed : Array Bool) (a : Act) (w : World), Inv ops E C w0 a0 n Gs Ts listed a w → ((List.range n).filter fun i => !listed.getD i false).length = f → wpAny P .any ops Q (f + g) listed a w := by
  intro f
  induction f with
  | zero =>
    intro listed a w hI hf
    rw [Nat.zero_add]
    refine hend listed a w hI (fun i hi => ?_)
    have := List.eq_nil_of_length_eq_zero hf
    have h1 := List.filter_eq_nil_iff.1 this i (List.mem_range.2 hi)
    simpa using h1
  | succ f ih =>
    intro listed a w hI hf
    rw [show f + 1 + g = (f + g) + 1 by omega]
    refine ⟨fun hr => ?_, fun i hi => ?_⟩
    · -- some operation of the head is ready
      exfalso
      have hne : (List.range n).filter (fun i => !listed.getD i false) ≠ [] := fun e => by rw [e] at hf; cases hf
      -- the least one that is not listed
      have hex : ∃ i, i < n ∧ listed.getD i false = false := by
        obtain ⟨i, hi⟩ := List.exists_mem_of_ne_nil _ hne
        have := List.mem_filter.1 hi
        exact ⟨i, List.mem_range.1 this.1, by simpa using this.2⟩
      have hleast : ∃ i, i < n ∧ listed.getD i false = false ∧ ∀ j, j < i → listed.getD j false = true := by
        obtain ⟨i, hi⟩ := hex
        induction i using Nat.strongRecOn with
        | _ i ih2 =>
          by_cases hall : ∀ j, j < i → listed.getD j false = true
          · exact ⟨i, hi.1, hi.2, hall⟩
          · have : ∃ j, j < i ∧ listed.getD j false = false := by
              refine Classical.byContradiction fun hno => hall fun j hj => ?_
              cases hl : listed.getD j false with
              | true => rfl
              | false => exact absurd ⟨j, hj, hl⟩ hno
            obtain ⟨j, hj, hl⟩ := this
            exact ih2 j hj ⟨by omega, hl⟩
      obtain ⟨i, hin, hl, hlow⟩ := hleast
      obtain ⟨oi, hoi, _, hback, _, _⟩ := headB_spec hB i hin
      have his : i < ops.size := by omega
      have : i ∈ Region.ready .any ops listed := mem_ready.2 ⟨by
        have h2 : i < listed.size := by rw [hI.size]; exact his
        simp [h2] at hl ⊢; exact hl, oi, hoi, fun e he hb => hlow e.on (hback e he hb)⟩
      rw [hr] at this
      cases this
    · by_cases hin : i < n
      · obtain ⟨hun, oi, hoi, hall⟩ := mem_ready.1 hi
        have hk := inv_knows hn hB h0 hG hI hi hin hoi
        have hstage := stage_of hI.closed hi
        have hs := hstep i oi hin hoi listed a w hI.size hstage hI.cls hI.ext hk
        have hcount : ((List.range n).filter fun j => !(listed.setIfInBounds i true).getD j false).length = f := by
          have his : i < listed.size := by rw [hI.size]; exact (Array.getElem?_eq_some_iff.1 hoi).1
          have key : ∀ (m : Nat), i < m → ((List.range m).filter fun j => !(listed.setIfInBounds i true).getD j false).length + 1 = ((List.range m).filter fun j => !listed.getD j false).length := by
            intro m
            induction m with
            | zero => intro h; omega
            | succ m ihm =>
              intro hm
              rw [List.range_succ, List.filter_append, List.filter_append, List.length_append, List.length_append]
              by_cases him : i = m
              · subst him
                have e1 : (List.range i).filter (fun j => !(listed.setIfInBounds i true).getD j false) = (List.range i).filter fun j => !listed.getD j false := by
                  refine List.filter_congr fun j hj => ?_
                  have := List.mem_range.1 hj
                  rw [getD_set_ne false (by omega)]
                rw [e1]
                have e2 : (listed.setIfInBounds i true).getD i false = true := by simp [his]
                rw [List.filter_cons_of_neg (by rw [e2]; simp), List.filter_cons_of_pos (by rw [getD_both hun]; rfl)]
                rfl
              · have := ihm (by omega)
                have e2 : (listed.setIfInBounds i true).getD m false = listed.getD m false := getD_set_ne false (by omega)
                have e3 : [m].filter (fun j => !(listed.setIfInBounds i true).getD j false) = [m].filter (fun j => !listed.getD j false) := List.filter_congr fun j hj => by
                  rw [List.mem_singleton.1 hj, e2]
                rw [e3]
                omega
          have := key n hin
          omega
        unfold wpOp
        simp only [hoi]
        split at hs
        · rename_i hw
          simp only [hw, if_true]
          refine hs.imp (fun h => wp_imp (fun a' w' ⟨v, ha', hT, hE, hC⟩ => ih _ _ _ (inv_step hEt hB hst hI hi hin hoi ha' hT hE hC) hcount) h) id
        · rename_i hw
          simp only [hw, if_false, Bool.false_eq_true]
          exact ih _ _ _ (inv_step hEt hB hst hI hi hin hoi rfl hs.1 (hEr w) hs.2) hcount
      · have hall := htail listed hI.closed i (by omega) hi
        have : (List.range n).filter (fun j => !listed.getD j false) = [] := List.filter_eq_nil_iff.2 fun j hj => by simp [hall j (List.mem_range.1 hj)]
        rw [this] at hf
        cases hf

theorem sat_of_inv {n : Nat} {Gs : Nat → Env} {Ts : Nat → Ty} (hn : n ≤ ops.size) (h0 : Gs 0 = [])
    (hG : ∀ i o, i < n → ops[i]? = some o → Gs (i + 1) = (match o.dst with | some d => (d, Ts i) :: Gs i | none => Gs i))
    {listed : Array Bool} {a : Act} {w : World} (hI : Inv ops E C w0 a0 n Gs Ts listed a w) (hall : ∀ i, i < n → listed.getD i false = true) : sat a0 (Gs n) a w := by
  refine ⟨hI.defers, hI.tsize, fun t => ?_⟩
  unfold Env.knows
  rcases get_spec hn h0 hG n (Nat.le_refl _) t with ⟨j, oj, hj, hoj, hd, hg⟩ | ⟨hg, hno⟩
  · rw [hg]; exact hI.fact j oj t hj hoj hd (hall j hj)
  · rw [hg]; exact hI.old t (fun j oj hj hoj hd => absurd hd (hno j oj hj hoj))

theorem inv_start (n : Nat) (Gs : Nat → Env) (Ts : Nat → Ty) (hEr : ∀ w, E w w) (hC : C (Array.replicate ops.size false) w0) : Inv ops E C w0 a0 n Gs Ts (Array.replicate ops.size false) a0 w0 :=
  ⟨by simp, fun j oj _ hl => (by rw [getD_replicate_false] at hl; cases hl), hEr w0, hC, rfl, rfl, fun i o d _ _ _ hl => (by rw [getD_replicate_false] at hl; cases hl), fun t _ => rfl, fun i _ => getD_replicate_false _ _⟩

end sound

section rules
variable {P : Program} {Q : Exit → Act → World → Prop} {E : World → World → Prop} {a0 : Act} {w : World} {l : List Oper}

theorem wpTab_mono {ops : Array Oper} {C : Array Bool → World → Prop} {w0 : World} {K K' : Env → Prop} (hK : ∀ G, K G → K' G) : ∀ (l : List Oper) (i : Nat) (G : Env), wpTab P ops Q E C w0 a0 K i l G → wpTab P ops Q E C w0 a0 K' i l G
  | [], _, _, h => hK _ h
  | _ :: l, i, _, ⟨T, h1, h2, h3⟩ => ⟨T, h1, h2, wpTab_mono hK l (i + 1) _ h3⟩

/-- A REGION THAT DRAWS, all of it by the table. -/
theorem wp_region_tabC {id : Nat} (E : World → World → Prop) (C : Array Bool → World → Prop) (hm : P.follows .mixedOrders = true) (hB : headB l.toArray l.length a0.tmps.size = true) (hEr : ∀ w, E w w) (hEt : ∀ a b c, E a b → E b c → E a c) (hC : C (Array.replicate l.toArray.size false) w.drew)
    (h : wpTab P l.toArray Q E C w.drew a0 (fun G => ∀ listed a w', (∀ i, i < l.length → listed.getD i false = true) → C listed w' → E w.drew w' → sat a0 G a w' → Q .normal a w') 0 l []) : (Code.region id l.toArray true).wp P Q a0 w := by
  refine wp_region_any hm ?_
  obtain ⟨Gs, Ts, ⟨h0, ht⟩, hK⟩ := table_of l 0 [] h
  simp only [Nat.zero_add] at ht hK
  have hG : ∀ i o, i < l.length → l.toArray[i]? = some o → Gs (i + 1) = (match o.dst with | some d => (d, Ts i) :: Gs i | none => Gs i) := fun i o _ ho => (ht i o (by simpa using ho)).2.2
  have hr := any_of_table (Q := Q) (n := l.length) (Gs := Gs) (Ts := Ts) hEr hEt (by simp) hB h0 hG (fun i hi => (ht i l[i] (by simp [hi])).1)
    (fun i o _ ho => (ht i o (by simpa using ho)).2.1) 0 (fun listed a w' hI hall => ⟨?_, hK listed a w' hall hI.cls hI.ext (sat_of_inv (by simp) h0 hG hI hall)⟩)
    (fun listed _ i hi hr => by
      obtain ⟨_, oi, hoi, _⟩ := mem_ready.1 hr
      have := (Array.getElem?_eq_some_iff.1 hoi).1
      simp only [List.size_toArray] at this
      omega)
    _ (Array.replicate l.toArray.size false) a0 _ (inv_start _ _ _ hEr hC) rfl
  · have e : ((List.range l.length).filter fun i => !(Array.replicate l.toArray.size false).getD i false).length = l.toArray.size := by
      rw [List.filter_eq_self.2 (fun i _ => by rw [getD_replicate_false]; rfl)]
      simp
    rw [e] at hr
    exact hr
  · refine List.eq_nil_iff_forall_not_mem.2 fun i hi => ?_
    obtain ⟨hun, oi, hoi, _⟩ := mem_ready.1 hi
    have := (Array.getElem?_eq_some_iff.1 hoi).1
    have h2 := getD_both hun
    rw [hall i (by simpa using this)] at h2
    cases h2

/-- the check on the tail: its first operation waits for all of the head; then one by one -/
def tailB (ops : Array Oper) (n : Nat) : Bool :=
  decide (n < ops.size) && ((List.range ops.size).all fun i => decide (i < n) || (List.range n).all fun j => anc ops ops.size i j) &&
  Region.seqB .any ops (ops.size - n) n ((List.range ops.size).map fun i => decide (i < n)).toArray

/-- A REGION THAT DRAWS, its first n operations by the table, the others one by one behind them. -/
theorem wp_region_tabC_tail {id : Nat} (n : Nat) (E : World → World → Prop) (C : Array Bool → World → Prop) (hm : P.follows .mixedOrders = true) (hB : headB l.toArray n a0.tmps.size = true) (hT : tailB l.toArray n = true) (hEr : ∀ w, E w w) (hEt : ∀ a b c, E a b → E b c → E a c) (hC : C (Array.replicate l.toArray.size false) w.drew)
    (h : wpTab P l.toArray Q E C w.drew a0 (fun G => ∀ listed a w', (∀ i, i < n → listed.getD i false = true) → C listed w' → E w.drew w' → sat a0 G a w' → wpList P l.toArray Q (l.drop n) a w') 0 (l.take n) []) : (Code.region id l.toArray true).wp P Q a0 w := by
  refine wp_region_any hm ?_
  simp only [tailB, Bool.and_eq_true, decide_eq_true_eq, List.size_toArray] at hT
  obtain ⟨⟨hn, hsink⟩, hseq⟩ := hT
  obtain ⟨Gs, Ts, ⟨h0, ht⟩, hK⟩ := table_of (l.take n) 0 [] h
  simp only [Nat.zero_add] at ht hK
  have hlt : (l.take n).length = n := by simp; omega
  rw [hlt] at hK
  have hget : ∀ i, i < n → (l.take n)[i]? = l[i]? := fun i hi => by simp [hi]
  have hG : ∀ i o, i < n → l.toArray[i]? = some o → Gs (i + 1) = (match o.dst with | some d => (d, Ts i) :: Gs i | none => Gs i) := fun i o hi ho => (ht i o (by rw [hget i hi]; simpa using ho)).2.2
  have hr := any_of_table (Q := Q) (n := n) (Gs := Gs) (Ts := Ts) hEr hEt (by simp; omega) hB h0 hG (fun i hi => (ht i l[i] (by rw [hget i hi]; simp)).1)
    (fun i o hi ho => (ht i o (by rw [hget i hi]; simpa using ho)).2.1) (l.toArray.size - n) (fun listed a w' hI hall => by
      have hl : listed = ((List.range l.length).map fun i => decide (i < n)).toArray := by
        refine Array.ext (by simp [hI.size]) (fun i h1 h2 => ?_)
        simp only [List.getElem_toArray, List.getElem_map, List.getElem_range]
        have e : listed.getD i false = listed[i] := by simp [h1]
        rw [← e]
        by_cases hi : i < n
        · rw [hall i hi]; simp [hi]
        · rw [hI.head i (by omega)]; simp [hi]
      have hs := wpAny_of_seq (md := .any) (Q' := Q) (P := P) (ops := l.toArray) (l.drop n) n listed a w' (fun j => by simp [List.getElem?_drop]) (by
        rw [hl, List.length_drop]
        simpa using hseq) (hK listed a w' hall hI.cls hI.ext (sat_of_inv (by simp; omega) h0 hG hI hall))
      rw [List.length_drop] at hs
      simpa using hs)
    (fun listed hc i hi hr j hj => by
      obtain ⟨_, oi, hoi, hall⟩ := mem_ready.1 hr
      have hsz := (Array.getElem?_eq_some_iff.1 hoi).1
      simp only [List.size_toArray] at hsz
      have h1 := List.all_eq_true.1 hsink i (List.mem_range.2 hsz)
      simp only [Bool.or_eq_true, decide_eq_true_eq] at h1
      rcases h1 with h1 | h1
      · omega
      · have h2 := List.all_eq_true.1 h1 j (List.mem_range.2 hj)
        exact anc_listed hc _ i j h2 (fun ok hok e he hb => by
          have : ok = oi := Option.some.inj (hok.symm.trans hoi)
          subst this
          exact hall e he hb))
    _ (Array.replicate l.toArray.size false) a0 _ (inv_start _ _ _ hEr hC) rfl
  have e : ((List.range n).filter fun i => !(Array.replicate l.toArray.size false).getD i false).length + (l.toArray.size - n) = l.toArray.size := by
    rw [List.filter_eq_self.2 (fun i _ => by rw [getD_replicate_false]; rfl)]
    simp
    omega
  rw [e] at hr
  exact hr

/-- the same where nothing more is asked of the worlds on the way -/
theorem wp_region_tab {id : Nat} (E : World → World → Prop) (hm : P.follows .mixedOrders = true) (hB : headB l.toArray l.length a0.tmps.size = true) (hEr : ∀ w, E w w) (hEt : ∀ a b c, E a b → E b c → E a c)
    (h : wpTab P l.toArray Q E (fun _ _ => True) w.drew a0 (fun G => ∀ a w', E w.drew w' → sat a0 G a w' → Q .normal a w') 0 l []) : (Code.region id l.toArray true).wp P Q a0 w :=
  wp_region_tabC E (fun _ _ => True) hm hB hEr hEt trivial (wpTab_mono (fun _ hK _ a w' _ _ hE hs => hK a w' hE hs) _ _ _ h)
theorem wp_region_tab_tail {id : Nat} (n : Nat) (E : World → World → Prop) (hm : P.follows .mixedOrders = true) (hB : headB l.toArray n a0.tmps.size = true) (hT : tailB l.toArray n = true) (hEr : ∀ w, E w w) (hEt : ∀ a b c, E a b → E b c → E a c)
    (h : wpTab P l.toArray Q E (fun _ _ => True) w.drew a0 (fun G => ∀ a w', E w.drew w' → sat a0 G a w' → wpList P l.toArray Q (l.drop n) a w') 0 (l.take n) []) : (Code.region id l.toArray true).wp P Q a0 w :=
  wp_region_tabC_tail n E (fun _ _ => True) hm hB hT hEr hEt trivial (wpTab_mono (fun _ hK _ a w' _ _ hE hs => hK a w' hE hs) _ _ _ h)
end rules
end Go.Proofs.YthejmnmkbldacaaGreatDoor.Tab
