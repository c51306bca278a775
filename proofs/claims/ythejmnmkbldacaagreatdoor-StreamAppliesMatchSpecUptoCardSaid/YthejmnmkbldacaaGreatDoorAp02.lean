/-
  What is proved: the steps of a walk by the table (Tab): an operation passed over by its guard; one whose operands are known; one whose operands are known by a relation; a call; and what a frame is at the walk's end. Conditions: none.
  What is proved: small laws that every walk of this seat uses. Conditions: none.
  What is proved: how values, rows and lists of rows read in memory, and that they read alike in every later world; the order of values. Conditions: none. No program in sight.
  What is proved: what the small functions on numbers and texts compute. Conditions: none.
-/
import Derived.Test.YthejmnmkbldacaaGreatDoorAp01
import Derived.Laws.World
import Derived.Below
import Derived.Test.YthejmnmkbldacaaGreatDoorProg
import Derived.WalkKit
import Derived.WalkLawsBesides
import Derived.WalkSpells
import Derived.BigQuiet
import Derived.Lib.Hide
import Derived.Deep.Draws
set_option linter.all false
namespace Go.Proofs.YthejmnmkbldacaaGreatDoor.Tab
open Go Go.RowKit

def Env.ev (G : Env) (a0 : Act) : Operand → Value
  | .tmp t => match G.get t with
    | some (.is v) => v
    | some (.ty _) => undef
    | none => a0.tmps.getD t undef
  | .const v => v
  | .global g => .pointer (some ⟨g, 0, none⟩)
  | .func f => .func (.func f) #[] #[]

def Env.isKnown (G : Env) : Operand → Bool
  | .tmp t => match G.get t with
    | some (.ty _) => false
    | _ => true
  | _ => true

/-- what is known of an operand's value -/
def Env.tyd (G : Env) (a0 : Act) : Operand → Value → World → Prop
  | .tmp t => G.knows a0 t
  | x => fun v _ => v = G.ev a0 x

def guardB (ops : Array Oper) (G : Env) (a0 : Act) (o : Oper) : Option Bool := match o.guard with
  | none => some true
  | some (j, want) => match (ops[j]?).bind (·.dst) with
    | none => some false
    | some d => if G.isKnown (.tmp d) then (match G.ev a0 (.tmp d) with | .bool b => some (b == want) | _ => none) else none

section
variable {P : Program} {ops : Array Oper} {Q : Exit → Act → World → Prop} {E : World → World → Prop} {C : Array Bool → World → Prop} {w0 : World} {a0 : Act} {G : Env} {o : Oper} {i : Nat} {rest : List Oper} {K : Env → Prop}

/-- operation i may come up without a word on the world -/
def Silent (C : Array Bool → World → Prop) (i : Nat) : Prop := ∀ listed w, C listed w → C (listed.setIfInBounds i true) w
theorem silent_true (i : Nat) : Silent (fun _ _ => True) i := fun _ _ _ => trivial
/-- the world before and behind operation s -/
def stageC (s : Nat) (D : Bool → World → Prop) : Array Bool → World → Prop := fun l w => D (l.getD s false) w
theorem silent_at {D : Bool → World → Prop} {s i : Nat} (h : i ≠ s) : Silent (stageC s D) i := fun listed w hd => by
  show D ((listed.setIfInBounds i true).getD s false) w
  rw [getD_set_ne false h]
  exact hd
theorem stageC_start {s n : Nat} {D : Bool → World → Prop} {w : World} (h : D false w) : stageC s D (Array.replicate n false) w := by
  show D ((Array.replicate n false).getD s false) w
  rw [getD_replicate_false]
  exact h
/-- an operation for which s waits comes up before s -/
theorem stageC_before {ops : Array Oper} {s i : Nat} {D : Bool → World → Prop} {w : World} {listed : Array Bool} (h : stageC s D listed w) (hs : Stage ops i listed) (ha : anc ops ops.size s i = true) : D false w := by
  have := (hs.2 s).2 ha
  unfold stageC at h
  rwa [this] at h
theorem stageC_at {ops : Array Oper} {s : Nat} {D : Bool → World → Prop} {w : World} {listed : Array Bool} (h : stageC s D listed w) (hs : Stage ops s listed) : D false w := by
  unfold stageC at h
  rwa [hs.1] at h
theorem stageC_behind {ops : Array Oper} {s i : Nat} {D : Bool → World → Prop} {w : World} {listed : Array Bool} (h : stageC s D listed w) (hs : Stage ops i listed) (ha : anc ops ops.size i s = true) : D true w := by
  have := (hs.2 s).1 ha
  unfold stageC at h
  rwa [this] at h
theorem stageC_done {s : Nat} {D : Bool → World → Prop} {w : World} {listed : Array Bool} (h : D true w) (hs : s < listed.size) : stageC s D (listed.setIfInBounds s true) w := by
  unfold stageC
  rw [show (listed.setIfInBounds s true).getD s false = true by simp [hs]]
  exact h
theorem stageC_end {s n : Nat} {D : Bool → World → Prop} {w : World} {listed : Array Bool} (h : stageC s D listed w) (hall : ∀ i, i < n → listed.getD i false = true) (hs : s < n) : D true w := by
  unfold stageC at h
  rwa [hall s hs] at h
theorem set_at {listed : Array Bool} {s : Nat} (h : s < listed.size) : (listed.setIfInBounds s true).getD s false = true := by simp [h]

theorem tyd_of {a : Act} {w : World} (h : ∀ t ∈ o.looksAt ops, G.knows a0 t (a.tmps.getD t undef) w) : ∀ x ∈ o.op.operands, G.tyd a0 x (a.eval x) w := by
  intro x hx
  cases x with
  | tmp t => exact h t (List.mem_append_left _ (List.mem_filterMap.2 ⟨.tmp t, by simpa using hx, rfl⟩))
  | const v => rfl
  | global g => rfl
  | func f => rfl

theorem ev_of {a : Act} {w : World} {x : Operand} (hk : G.isKnown x = true) (h : G.tyd a0 x (a.eval x) w) : a.eval x = G.ev a0 x := by
  cases x with
  | tmp t =>
    simp only [Env.tyd, Env.knows] at h
    simp only [Env.isKnown] at hk
    simp only [Env.ev]
    cases hT : G.get t with
    | none => rw [hT] at h; exact h
    | some T =>
      rw [hT] at h hk
      cases T with
      | is v => exact h
      | ty R => cases hk
  | const v => exact h
  | global g => exact h
  | func f => exact h

theorem guard_spec {a : Act} {w : World} {b : Bool} (h : ∀ t ∈ o.looksAt ops, G.knows a0 t (a.tmps.getD t undef) w) (hg : guardB ops G a0 o = some b) : Region.wanted o (yielded ops a.tmps) = b := by
  unfold guardB at hg
  unfold Region.wanted
  cases hgd : o.guard with
  | none => rw [hgd] at hg; simpa using hg
  | some p =>
    obtain ⟨j, want⟩ := p
    rw [hgd] at hg
    simp only at hg ⊢
    unfold yielded
    cases hd : (ops[j]?).bind (·.dst) with
    | none =>
      rw [hd] at hg
      simp only [Option.bind_none] at hg ⊢
      simp at hg
      rw [hg]
      rfl
    | some d =>
      rw [hd] at hg
      simp only at hg
      split at hg
      · rename_i hk
        have hm : d ∈ o.looksAt ops := by simp [Oper.looksAt, hgd, hd]
        have he := ev_of (a := a) (x := .tmp d) hk (h d hm)
        split at hg
        · rename_i b' hb'
          rw [hb'] at he
          have hget : a.tmps[d]? = some (.bool b') := by
            simp only [Act.eval] at he
            rcases Nat.lt_or_ge d a.tmps.size with hlt | hge
            · simp [hlt] at he ⊢; exact he
            · simp [Array.getElem?_eq_none hge, undef] at he
          simp only [Option.bind_some, hget]
          simp at hg
          rw [← hg]
          cases b' <;> cases want <;> rfl
        · cases hg
      · cases hg

theorem stable_is (v : Value) : stable E (.is v) := fun _ _ _ _ h => h

/-- passed over by its guard -/
theorem tab_skip {d : Tmp} (hd : o.dst = some d) (hC : Silent C i) (hg : guardB ops G a0 o = some false) (h : wpTab P ops Q E C w0 a0 K (i + 1) rest ((d, .is undef) :: G)) : wpTab P ops Q E C w0 a0 K i (o :: rest) G :=
  ⟨.is undef, stable_is _, fun _ a w _ _ hc _ hl => by rw [if_neg (by rw [guard_spec hl hg]; simp)]; exact ⟨rfl, hC _ _ hc⟩, by rw [hd]; exact h⟩

/-- its operands are known -/
theorem tab_rep {v : Value} {d : Tmp} (hd : o.dst = some d) (hC : Silent C i) (hg : guardB ops G a0 o = some true) (hs : ∀ cs b, o.op ≠ .select cs b) (hk : o.op.operands.toList.all G.isKnown = true) (hE : ∀ w, E w w)
    (hrun : ∀ listed w, Stage ops i listed → C listed w → E w0 w → (execOp (G.ev a0) o).run P w = .ok (.value v) w) (h : wpTab P ops Q E C w0 a0 K (i + 1) rest ((d, .is v) :: G)) : wpTab P ops Q E C w0 a0 K i (o :: rest) G :=
  ⟨.is v, stable_is _, fun listed a w _ hst hc hw hl => by
    rw [if_pos (guard_spec hl hg)]
    refine .inl ?_
    unfold Oper.wp
    rw [execOp_congr (ρ' := G.ev a0) o hs fun x hx => ev_of (List.all_eq_true.1 hk x (Array.mem_toList_iff.2 hx)) (tyd_of hl x hx), hrun listed w hst hc hw]
    exact ⟨v, rfl, rfl, hE w, hC _ _ hc⟩, by rw [hd]; exact h⟩

/-- an operation that hands a known operand on -/
theorem tab_move (x : Operand) {v : Value} {d : Tmp} (hd : o.dst = some d) (hC : Silent C i) (ho : o.op = .move x ∨ o.op = .assign x) (hg : guardB ops G a0 o = some true) (hk : G.isKnown x = true) (hE : ∀ w, E w w) (hv : G.ev a0 x = v)
    (h : wpTab P ops Q E C w0 a0 K (i + 1) rest ((d, .is v) :: G)) : wpTab P ops Q E C w0 a0 K i (o :: rest) G := by
  have hops : o.op.operands = #[x] := by rcases ho with e | e <;> rw [e] <;> rfl
  refine tab_rep hd hC hg (fun cs b e => by rcases ho with h | h <;> rw [h] at e <;> cases e) (by rw [hops]; simp [hk]) hE (fun _ w _ _ _ => ?_) h
  unfold execOp
  rcases ho with e | e <;> rw [e] <;> simp only [hv] <;> rfl

/-- an operation that hands on an operand that is known by a relation -/
theorem tab_move_ty (t : Tmp) {R : Value → World → Prop} {d : Tmp} (hd : o.dst = some d) (hC : Silent C i) (ho : o.op = .move (.tmp t) ∨ o.op = .assign (.tmp t)) (hg : guardB ops G a0 o = some true) (hT : G.get t = some (.ty R)) (hst : stable E (.ty R)) (hE : ∀ w, E w w)
    (h : wpTab P ops Q E C w0 a0 K (i + 1) rest ((d, .ty R) :: G)) : wpTab P ops Q E C w0 a0 K i (o :: rest) G := by
  have hops : o.op.operands = #[.tmp t] := by rcases ho with e | e <;> rw [e] <;> rfl
  have hrun : ∀ (a : Act) (w : World), (execOp a.eval o).run P w = .ok (.value (a.eval (.tmp t))) w := fun a w => by
    unfold execOp
    rcases ho with e | e <;> rw [e] <;> rfl
  refine ⟨.ty R, hst, fun listed a w _ _ hc hw hl => ?_, by rw [hd]; exact h⟩
  rw [if_pos (guard_spec hl hg)]
  refine .inl ?_
  unfold Oper.wp
  rw [hrun]
  refine ⟨_, rfl, ?_, hE w, hC _ _ hc⟩
  have ht := tyd_of hl (.tmp t) (by rw [hops]; simp)
  simp only [Env.tyd, Env.knows] at ht
  rw [hT] at ht
  exact ht

/-- any operation -/
theorem tab_ty {d : Tmp} (T : Ty) (hd : o.dst = some d) (hst : stable E T) (hg : guardB ops G a0 o = some true)
    (hstep : ∀ (listed : Array Bool) (a : Act) (w : World), listed.size = ops.size → Stage ops i listed → C listed w → E w0 w → (∀ x ∈ o.op.operands, G.tyd a0 x (a.eval x) w) → o.wp P a w (fun a' w' => ∃ v, a' = a.put o.dst v ∧ T.holds v w' ∧ E w w' ∧ C (listed.setIfInBounds i true) w') Q)
    (h : wpTab P ops Q E C w0 a0 K (i + 1) rest ((d, T) :: G)) : wpTab P ops Q E C w0 a0 K i (o :: rest) G :=
  ⟨T, hst, fun listed a w hsz hs hc hw hl => by rw [if_pos (guard_spec hl hg)]; exact .inl (hstep listed a w hsz hs hc hw (tyd_of hl)), by rw [hd]; exact h⟩

/-- the two, the value to be found -/
theorem tab_repE {d : Tmp} (hd : o.dst = some d) (hC : Silent C i) (hg : guardB ops G a0 o = some true) (hs : ∀ cs b, o.op ≠ .select cs b) (hk : o.op.operands.toList.all G.isKnown = true) (hE : ∀ w, E w w)
    (h : ∃ v, (∀ listed w, Stage ops i listed → C listed w → E w0 w → (execOp (G.ev a0) o).run P w = .ok (.value v) w) ∧ wpTab P ops Q E C w0 a0 K (i + 1) rest ((d, .is v) :: G)) : wpTab P ops Q E C w0 a0 K i (o :: rest) G :=
  let ⟨_, h1, h2⟩ := h
  tab_rep hd hC hg hs hk hE h1 h2
theorem tab_moveE (x : Operand) {d : Tmp} (hd : o.dst = some d) (hC : Silent C i) (ho : o.op = .move x ∨ o.op = .assign x) (hg : guardB ops G a0 o = some true) (hk : G.isKnown x = true) (hE : ∀ w, E w w)
    (h : ∃ v, G.ev a0 x = v ∧ wpTab P ops Q E C w0 a0 K (i + 1) rest ((d, .is v) :: G)) : wpTab P ops Q E C w0 a0 K i (o :: rest) G :=
  let ⟨_, h1, h2⟩ := h
  tab_move x hd hC ho hg hk hE h1 h2

/-- an operation whose operands are known, that changes the world and hands nothing on -/
theorem tab_act (hd : o.dst = none) (hg : guardB ops G a0 o = some true) (hs : ∀ cs b, o.op ≠ .select cs b) (hk : o.op.operands.toList.all G.isKnown = true)
    (hrun : ∀ listed w, listed.size = ops.size → Stage ops i listed → C listed w → E w0 w → ∃ w', (execOp (G.ev a0) o).run P w = .ok .skip w' ∧ E w w' ∧ C (listed.setIfInBounds i true) w')
    (h : wpTab P ops Q E C w0 a0 K (i + 1) rest G) : wpTab P ops Q E C w0 a0 K i (o :: rest) G :=
  ⟨.is undef, stable_is _, fun listed a w hsz hst hc hw hl => by
    rw [if_pos (guard_spec hl hg)]
    refine .inl ?_
    unfold Oper.wp
    obtain ⟨w', hr, hE, hC⟩ := hrun listed w hsz hst hc hw
    rw [execOp_congr (ρ' := G.ev a0) o hs fun x hx => ev_of (List.all_eq_true.1 hk x (Array.mem_toList_iff.2 hx)) (tyd_of hl x hx), hr]
    exact ⟨undef, rfl, rfl, hE, hC⟩, by rw [hd]; exact h⟩

/-- a call of a named function -/
theorem tab_call {f : FuncId} {xs : Array Operand} {ats : Array TypeId} {d : Tmp} (T : Ty) (hd : o.dst = some d) (hst : stable E T) (ho : o.op = .call { callee := .value (.func f), args := xs, argTypes := ats }) (hg : guardB ops G a0 o = some true)
    (hcf : ∀ (args : Array Value) (w : World), (callFunc f args).run P w = .ok (.enter f args) w)
    (hstep : ∀ (listed : Array Bool) (ρ : Operand → Value) (w : World), listed.size = ops.size → Stage ops i listed → C listed w → E w0 w → (∀ x ∈ xs, G.tyd a0 x (ρ x) w) → Calls P f (xs.map ρ) w fun e w' => ∃ v, e = .returned v ∧ T.holds v w' ∧ E w w' ∧ C (listed.setIfInBounds i true) w')
    (h : wpTab P ops Q E C w0 a0 K (i + 1) rest ((d, T) :: G)) : wpTab P ops Q E C w0 a0 K i (o :: rest) G := by
  refine tab_ty T hd hst hg (fun listed a w hsz hs hc hw hx => ?_) h
  obtain ⟨dst, op, type, pos, after, guard⟩ := o
  simp only at ho
  subst ho
  have e : execOp a.eval { dst, op := .call { callee := .value (.func f), args := xs, argTypes := ats }, type, pos, after, guard } = callFunc f (xs.map a.eval) := by
    show callFunc f (#[] ++ xs.map a.eval ++ #[]) = _
    simp
  unfold Oper.wp
  rw [e, hcf]
  simp only [Oper.upon_enter]
  refine (hstep listed a.eval w hsz hs hc hw (fun x hx' => hx x (by simp [Op.operands, Call.operands, hx']))).mono ?_
  rintro e' w' ⟨v, rfl, hT, hE, hC⟩
  exact ⟨v, rfl, hT, hE, hC⟩

/-- a call whose operands are known -/
theorem tab_callk {f : FuncId} {xs : Array Operand} {ats : Array TypeId} {d : Tmp} (T : Ty) (hd : o.dst = some d) (hst : stable E T) (ho : o.op = .call { callee := .value (.func f), args := xs, argTypes := ats }) (hg : guardB ops G a0 o = some true)
    (hcf : ∀ (args : Array Value) (w : World), (callFunc f args).run P w = .ok (.enter f args) w) (hk : xs.toList.all G.isKnown = true)
    (hstep : ∀ (listed : Array Bool) (w : World), listed.size = ops.size → Stage ops i listed → C listed w → E w0 w → Calls P f (xs.toList.map (G.ev a0)).toArray w fun e w' => ∃ v, e = .returned v ∧ T.holds v w' ∧ E w w' ∧ C (listed.setIfInBounds i true) w')
    (h : wpTab P ops Q E C w0 a0 K (i + 1) rest ((d, T) :: G)) : wpTab P ops Q E C w0 a0 K i (o :: rest) G := by
  refine tab_call T hd hst ho hg hcf (fun listed ρ w hsz hs hc hw hx => ?_) h
  have e : xs.map ρ = (xs.toList.map (G.ev a0)).toArray := by
    have e1 : xs.map ρ = xs.map (G.ev a0) := Array.map_congr_left fun x hx' => by
      have h1 := hx x hx'
      cases x with
      | tmp t =>
        have h2 := List.all_eq_true.1 hk _ (Array.mem_toList_iff.2 hx')
        simp only [Env.tyd, Env.knows] at h1
        simp only [Env.isKnown] at h2
        simp only [Env.ev]
        cases hT : G.get t with
        | none => rw [hT] at h1; exact h1
        | some T =>
          rw [hT] at h1 h2
          cases T with
          | is v => exact h1
          | ty R => cases h2
      | const v => exact h1
      | global g => exact h1
      | func f => exact h1
    rw [e1]
    exact Array.ext' (by simp)
  rw [e]
  exact hstep listed w hsz hs hc hw

/-- a call whose operands are known, and whose result is known -/
theorem tab_call_is {f : FuncId} {xs : Array Operand} {ats : Array TypeId} {d : Tmp} (v : Value) (hd : o.dst = some d) (ho : o.op = .call { callee := .value (.func f), args := xs, argTypes := ats }) (hg : guardB ops G a0 o = some true)
    (hcf : ∀ (args : Array Value) (w : World), (callFunc f args).run P w = .ok (.enter f args) w) (hk : xs.toList.all G.isKnown = true)
    (hstep : ∀ (listed : Array Bool) (w : World), listed.size = ops.size → Stage ops i listed → C listed w → E w0 w → Calls P f (xs.toList.map (G.ev a0)).toArray w fun e w' => e = .returned v ∧ E w w' ∧ C (listed.setIfInBounds i true) w')
    (h : wpTab P ops Q E C w0 a0 K (i + 1) rest ((d, .is v) :: G)) : wpTab P ops Q E C w0 a0 K i (o :: rest) G :=
  tab_callk (.is v) hd (stable_is _) ho hg hcf hk (fun listed w hsz hs hc hw => (hstep listed w hsz hs hc hw).mono fun _ _ ⟨he, hE, hC⟩ => ⟨v, he, rfl, hE, hC⟩) h

/-! what the frame is at the end -/
def fin : Env → Act → World → (Act → World → Prop) → Prop
  | [], a0, w, K => K a0 w
  | (t, .is v) :: r, a0, w, K => fin r a0 w (fun a w => K (a.put (some t) v) w)
  | (t, .ty R) :: r, a0, w, K => fin r a0 w (fun a w => ∀ v, R v w → K (a.put (some t) v) w)

/-- the frame that the list says, with the values of a in the slots known by relations -/
def fill (a : Act) : Env → Act → Act
  | [], a0 => a0
  | (t, _) :: r, a0 => (fill a r a0).put (some t) (a.tmps.getD t undef)

theorem fill_defers (a : Act) (G : Env) (a0 : Act) : (fill a G a0).defers = a0.defers := by
  induction G with
  | nil => rfl
  | cons p r ih => exact ih
theorem fill_size (a : Act) (G : Env) (a0 : Act) : (fill a G a0).tmps.size = a0.tmps.size := by
  induction G with
  | nil => rfl
  | cons p r ih => simp [fill, Act.put, ih]
theorem fill_get (a : Act) (a0 : Act) (t : Tmp) (ht : t < a0.tmps.size) : ∀ G : Env, (fill a G a0).tmps.getD t undef = match G.get t with | some _ => a.tmps.getD t undef | none => a0.tmps.getD t undef
  | [] => rfl
  | (s, T) :: r => by
    have ih := fill_get a a0 t ht r
    simp only [fill, Env.get_cons]
    by_cases hst : s = t
    · subst hst
      rw [if_pos rfl]
      exact put_getD_same (by rw [fill_size]; exact ht)
    · rw [if_neg hst, put_getD_ne hst]
      exact ih

theorem act_ext {a b : Act} (hd : a.defers = b.defers) (hs : a.tmps.size = b.tmps.size) (h : ∀ t, t < a.tmps.size → a.tmps.getD t undef = b.tmps.getD t undef) : a = b := by
  obtain ⟨x, p⟩ := a
  obtain ⟨y, q⟩ := b
  simp only at hd hs h
  subst hd
  congr 1
  refine Array.ext hs (fun i h1 h2 => ?_)
  have := h i h1
  simpa [h1, h2] using this

theorem fill_eq {a : Act} {w : World} (h : sat a0 G a w) : fill a G a0 = a := by
  obtain ⟨hd, hs, hk⟩ := h
  refine act_ext ((fill_defers a G a0).trans hd.symm) ((fill_size a G a0).trans hs.symm) (fun t ht => ?_)
  rw [fill_size] at ht
  rw [fill_get a a0 t ht]
  have := hk t
  unfold Env.knows at this
  cases hT : G.get t with
  | none => rw [hT] at this; exact this.symm
  | some T => rfl

theorem fin_spec {a : Act} {w : World} : ∀ (G : Env) (K : Act → World → Prop), fin G a0 w K → (∀ p ∈ G, p.2.holds (a.tmps.getD p.1 undef) w) → K (fill a G a0) w
  | [], K, h, _ => h
  | (t, .is v) :: r, K, h, hall => by
    have h1 := fin_spec r _ h (fun p hp => hall p (List.mem_cons_of_mem _ hp))
    have h2 : a.tmps.getD t undef = v := hall (t, .is v) List.mem_cons_self
    simp only [fill]
    rw [h2]
    exact h1
  | (t, .ty R) :: r, K, h, hall => by
    have h1 := fin_spec r _ h (fun p hp => hall p (List.mem_cons_of_mem _ hp))
    exact h1 _ (hall (t, .ty R) List.mem_cons_self)

/-- no slot twice in the list -/
def Env.nodup : Env → Bool
  | [] => true
  | (t, _) :: r => (Env.get r t).isNone && Env.nodup r

theorem mem_get {G : Env} (h : G.nodup = true) : ∀ p ∈ G, G.get p.1 = some p.2 := by
  induction G with
  | nil => intro p hp; cases hp
  | cons q r ih =>
    obtain ⟨t, T⟩ := q
    simp only [Env.nodup, Bool.and_eq_true, Option.isNone_iff_eq_none] at h
    intro p hp
    rw [Env.get_cons]
    cases List.mem_cons.1 hp with
    | inl e => subst e; simp
    | inr hm =>
      have := ih h.2 p hm
      by_cases e : t = p.1
      · rw [e] at h; rw [h.1] at this; cases this
      · rw [if_neg e]; exact this

theorem fin_of_sat {a : Act} {w : World} {K : Act → World → Prop} (hn : G.nodup = true) (h : fin G a0 w K) (hs : sat a0 G a w) : K a w := by
  have h1 := fin_spec G K h (fun p hp => by
    have := hs.2.2 p.1
    unfold Env.knows at this
    rw [mem_get hn p hp] at this
    exact this)
  rwa [fill_eq hs] at h1
end

/-! the relation between worlds that is used: new blocks; old blocks change where M says -/
theorem Ext.mono {M M' : Nat → Prop} {w w' : World} (h : Ext M w w') (hM : ∀ k, k < w.heap.size → M k → M' k) : Ext M' w w' := ⟨h.os, h.tape, h.output, h.size, fun k hk hn => h.block k hk fun hm => hn (hM k hk hm)⟩
theorem Ext.of_below {M : Nat → Prop} {w w' : World} (h : Below w.heap.size w w') : Ext M w w' := ⟨h.os, h.tape, h.output, h.size, fun k hk _ => h.block k hk⟩
theorem Ext.of_grown {M : Nat → Prop} {w w' : World} {row : Option Nat} (h : w.grownBy w' row) (hM : ∀ k, k < w.heap.size → row = some k → M k) : Ext M w w' := ⟨h.os, h.tape, h.output, h.size, fun k hk hn => h.block k hk fun e => hn (hM k hk e.symm)⟩
theorem Ext.below {w w' : World} (h : Ext (fun _ => False) w w') : Below w.heap.size w w' := ⟨h.os, h.tape, h.output, h.size, fun k hk => h.block k hk id⟩
theorem Ext.cell {M : Nat → Prop} {w w' : World} (h : Ext M w w') {p : Addr} (hp : p.block < w.heap.size) (hm : ¬ M p.block) : w'.cell? p = w.cell? p := World.cell?_of_block (h.block _ hp hm)
theorem Ext.frozen {M : Nat → Prop} {w w' : World} (h : Ext M w w') {p : Addr} (hp : p.block < w.heap.size) (hm : ¬ M p.block) : w'.frozen? p = w.frozen? p := World.frozen?_of_block (h.block _ hp hm)
theorem Ext.alloc {M : Nat → Prop} {w w' : World} (h : Ext M w w') (o : Obj) : Ext M w (w'.alloc o) :=
  ⟨h.os, h.tape, h.output, by have := h.size; simp; omega, fun k hk hn => (Below.heap_alloc _ _ _ (Nat.lt_of_lt_of_le hk h.size)).trans (h.block k hk hn)⟩
theorem Ext.drew {M : Nat → Prop} {w w' : World} (h : Ext M w w') : Ext M w w'.drew := ⟨h.os, h.tape, h.output, h.size, h.block⟩
theorem Ext.setCell {M : Nat → Prop} {w w' : World} (h : Ext M w w') {p : Addr} (hp : M p.block ∨ w.heap.size ≤ p.block) (u : Value) : Ext M w (w'.setCell p u) :=
  ⟨h.os, h.tape, h.output, by simpa using h.size, fun k hk hn => (Below.heap_setCell _ _ _ _ (by
    rintro rfl
    rcases hp with hp | hp
    · exact hn hp
    · omega)).trans (h.block k hk hn)⟩
/-- a relation that hangs on the blocks below n alone, and these unchanged -/
theorem stable_pure (p : Value → Prop) (E : World → World → Prop) : stable E (.ty fun v _ => p v) := fun _ _ _ _ h => h
end Go.Proofs.YthejmnmkbldacaaGreatDoor.Tab

namespace Go.Proofs.YthejmnmkbldacaaGreatDoor
open Go.RowKit

theorem bcell {W w1 : World} (hb : Below W.heap.size W w1) : (∀ b o, b < W.heap.size → w1.cell? ⟨b, o, none⟩ = W.cell? ⟨b, o, none⟩) ∧ (∀ b o, b < W.heap.size → w1.frozen? ⟨b, o, none⟩ = W.frozen? ⟨b, o, none⟩) :=
  ⟨fun b o h => hb.cell (p := ⟨b, o, none⟩) h, fun b o h => hb.frozen (p := ⟨b, o, none⟩) h⟩

theorem below_drewN {B : Nat} {a w : World} (h : Below B a w) (n : Nat) : Below B a (w.drewN n) := ⟨h.os, h.tape, h.output, h.size, h.block⟩

theorem ret_eq {v v' : Value} (h : v = v') : Ending.returned v = .returned v' := by rw [h]
theorem ret_int {k : IntKind} {a b : Int} (h : a = b) : Ending.returned (.int k a) = .returned (.int k b) := by rw [h]
theorem ret_bool {a b : Bool} (h : a = b) : Ending.returned (.bool a) = .returned (.bool b) := by rw [h]

@[go_sem] theorem setCell_drewN (w : World) (n : Nat) (a : Addr) (v : Value) : (w.drewN n).setCell a v = (w.setCell a v).drewN n := rfl

/-- how two numbers compare: -1, 0, 1 -/
def cmpI (a b : Int) : Int := if a < b then -1 else if b < a then 1 else 0
theorem cmpI_lt {a b : Int} (h : a < b) : cmpI a b = -1 := by unfold cmpI; rw [if_pos h]
theorem cmpI_gt {a b : Int} (h : b < a) : cmpI a b = 1 := by unfold cmpI; rw [if_neg (by omega), if_pos h]
theorem cmpI_eq {a b : Int} (h : a = b) : cmpI a b = 0 := by unfold cmpI; rw [if_neg (by omega), if_neg (by omega)]

/-- Below through a new block, a call, a store above -/
theorem below_new (w : World) (o : Obj) : Below w.heap.size w (w.alloc o) := (Below.refl _ _).alloc (Nat.le_refl _) o
theorem below_then {B : Nat} {a b c : World} (h : Below B a b) (hB : B ≤ b.heap.size) (h' : Below b.heap.size b c) : Below B a c := h.trans (h'.mono hB)

/-- a block that is known whole -/
def Blk (w : World) (g : Nat) (t : TypeId) (cs : List Value) : Prop := w.heap[g]? = some (.cells cs.toArray t (0, 0))
section
variable {w w' : World} {g : Nat} {t : TypeId} {cs : List Value}
theorem Blk.lt (h : Blk w g t cs) : g < w.heap.size := lt_of_block h
theorem Blk.cell (h : Blk w g t cs) (i : Nat) : w.cell? ⟨g, i, none⟩ = cs[i]? := by
  have := cell_of_row w g i cs.toArray t (0, 0) h
  simpa using this
theorem Blk.frozen (h : Blk w g t cs) (i : Nat) : w.frozen? ⟨g, i, none⟩ = false := by
  unfold Blk at h
  simp [World.frozen?, h]
theorem Blk.new (w : World) (t : TypeId) (cs : List Value) : Blk (w.alloc (.cells cs.toArray t)) w.heap.size t cs := heap_alloc_new w _
theorem Blk.alloc (h : Blk w g t cs) (o : Obj) : Blk (w.alloc o) g t cs := (Below.heap_alloc w o g h.lt).trans h
theorem Blk.drew (h : Blk w g t cs) : Blk w.drew g t cs := h
theorem Blk.set_ (h : Blk w g t cs) (i : Nat) (u : Value) : Blk (w.setCell ⟨g, i, none⟩ u) g t (cs.set i u) := by
  unfold Blk at h ⊢
  simp [World.setCell, Array.getElem?_modify, h]
theorem Blk.set5 {x0 x1 x2 x3 x4 : Value} (h : Blk w g t [x0, x1, x2, x3, x4]) (v0 v1 v2 v3 v4 : Value) :
    Blk (((((w.setCell ⟨g, 0, none⟩ v0).setCell ⟨g, 1, none⟩ v1).setCell ⟨g, 2, none⟩ v2).setCell ⟨g, 3, none⟩ v3).setCell ⟨g, 4, none⟩ v4) g t [v0, v1, v2, v3, v4] :=
  ((((h.set_ 0 v0).set_ 1 v1).set_ 2 v2).set_ 3 v3).set_ 4 v4
theorem Blk.far (h : Blk w g t cs) {p : Addr} (hp : g ≠ p.block) (u : Value) : Blk (w.setCell p u) g t cs := (Below.heap_setCell w p u g hp).trans h
theorem Blk.farB {b i : Nat} (h : Blk w g t cs) (hne : g ≠ b) (u : Value) : Blk (w.setCell ⟨b, i, none⟩ u) g t cs := h.far (p := ⟨b, i, none⟩) hne u
theorem Blk.far5 {b : Nat} (h : Blk w g t cs) (hne : g ≠ b) (v0 v1 v2 v3 v4 : Value) :
    Blk (((((w.setCell ⟨b, 0, none⟩ v0).setCell ⟨b, 1, none⟩ v1).setCell ⟨b, 2, none⟩ v2).setCell ⟨b, 3, none⟩ v3).setCell ⟨b, 4, none⟩ v4) g t cs := by
  have f : ∀ {u : World} (i : Nat) (v : Value), Blk u g t cs → Blk (u.setCell ⟨b, i, none⟩ v) g t cs := fun i v hu => hu.far (p := ⟨b, i, none⟩) hne v
  exact f 4 v4 (f 3 v3 (f 2 v2 (f 1 v1 (f 0 v0 h))))
theorem below_set5 {B b : Nat} {a : World} (h : Below B a w) (hb : B ≤ b) (v0 v1 v2 v3 v4 : Value) :
    Below B a (((((w.setCell ⟨b, 0, none⟩ v0).setCell ⟨b, 1, none⟩ v1).setCell ⟨b, 2, none⟩ v2).setCell ⟨b, 3, none⟩ v3).setCell ⟨b, 4, none⟩ v4) := by
  have f : ∀ {u : World} (i : Nat) (v : Value), Below B a u → Below B a (u.setCell ⟨b, i, none⟩ v) := fun i v hu => hu.setCell (p := ⟨b, i, none⟩) hb v
  exact f 4 v4 (f 3 v3 (f 2 v2 (f 1 v1 (f 0 v0 h))))
theorem Blk.below {B : Nat} (h : Blk w g t cs) (hb : Below B w w') (hg : g < B) : Blk w' g t cs := (hb.block g hg).trans h
theorem Blk.grown {row : Option Nat} (h : Blk w g t cs) (hb : w.grownBy w' row) (hg : some g ≠ row) : Blk w' g t cs := (hb.block g h.lt hg).trans h
theorem Blk.ext {M : Nat → Prop} (h : Blk w g t cs) (hb : Tab.Ext M w w') (hg : ¬ M g) : Blk w' g t cs := (hb.block g h.lt hg).trans h
end
end Go.Proofs.YthejmnmkbldacaaGreatDoor

namespace Go.Proofs.YthejmnmkbldacaaGreatDoor
open Go.RowKit

/-- a value of the program, as data -/
inductive VD where
  | mk (k n sc : Int) (s : ByteArray) (items : List VD)
namespace VD
def k : VD → Int | .mk k _ _ _ _ => k
def n : VD → Int | .mk _ n _ _ _ => n
def sc : VD → Int | .mk _ _ sc _ _ => sc
def s : VD → ByteArray | .mk _ _ _ s _ => s
def items : VD → List VD | .mk _ _ _ _ l => l
instance : Inhabited VD := ⟨.mk 0 0 0 .empty []⟩
end VD

def I64 (n : Int) : Prop := -9223372036854775808 ≤ n ∧ n ≤ 9223372036854775807
structure VD.ok (x : VD) : Prop where
  k : I64 x.k
  n : I64 x.n
  sc : I64 x.sc
  s : x.s.size ≤ maxLen

/-- the value at place i -/
def at_ (l : List VD) (i : Nat) : VD := l.getD i default
theorem at_mem {l : List VD} {i : Nat} (h : i < l.length) : at_ l i ∈ l := by
  unfold at_
  rw [List.getD_eq_getElem?_getD, List.getElem?_eq_getElem h]
  exact List.getElem_mem h
theorem at_drop {l : List VD} {i : Nat} (h : i < l.length) : l.drop i = at_ l i :: l.drop (i + 1) := by
  unfold at_
  rw [List.getD_eq_getElem?_getD, List.getElem?_eq_getElem h]
  exact List.drop_eq_getElem_cons h

/-- the cells of value x at a place; A, c: where the slice of its items lies, and its capacity -/
def CellsV (w : World) (b o : Nat) (x : VD) (A : Option Addr) (c : Nat) : Prop :=
  w.cell? ⟨b, o, none⟩ = some (.int .i64 x.k) ∧ w.cell? ⟨b, o + 1, none⟩ = some (.int .i64 x.n) ∧ w.cell? ⟨b, o + 2, none⟩ = some (.int .i64 x.sc) ∧ w.cell? ⟨b, o + 3, none⟩ = some (.string x.s) ∧ w.cell? ⟨b, o + 4, none⟩ = some (.slice A x.items.length c)

/-- a slice value that reads as a list of values; all its memory lies in blocks of F -/
inductive RI (w : World) (F : Nat → Prop) : Value → List VD → Prop
  | mk (A : Option Addr) (c : Nat) (l : List VD) (iA : Nat → Option Addr) (iC : Nat → Nat) (hc : l.length ≤ c) (hm : c ≤ maxLen)
      (hs : 0 < l.length → ∃ b off, A = some ⟨b, off, none⟩ ∧ F b ∧ b < w.heap.size ∧ ∀ i, i < l.length → CellsV w b (off + i * 5) (at_ l i) (iA i) (iC i))
      (hw : ∀ i, i < l.length → (at_ l i).ok) (hr : ∀ i, i < l.length → RI w F (.slice (iA i) (at_ l i).items.length (iC i)) (at_ l i).items) : RI w F (.slice A l.length c) l

/-- a value handed over whole -/
def VAgg (w : World) (F : Nat → Prop) (v : Value) (x : VD) : Prop := ∃ A c, v = .agg #[.int .i64 x.k, .int .i64 x.n, .int .i64 x.sc, .string x.s, .slice A x.items.length c] ∧ x.ok ∧ RI w F (.slice A x.items.length c) x.items

theorem CellsV.keep {w w' : World} {b o : Nat} {x : VD} {A : Option Addr} {c : Nat} (h : CellsV w b o x A c) (hb : w'.heap[b]? = w.heap[b]?) : CellsV w' b o x A c := by
  have k : ∀ j, w'.cell? ⟨b, j, none⟩ = w.cell? ⟨b, j, none⟩ := fun j => World.cell?_of_block (w := w) (a := ⟨b, j, none⟩) hb
  exact ⟨(k _).trans h.1, (k _).trans h.2.1, (k _).trans h.2.2.1, (k _).trans h.2.2.2.1, (k _).trans h.2.2.2.2⟩

theorem RI.keep {w w' : World} {F F' : Nat → Prop} (hz : w.heap.size ≤ w'.heap.size) (hF : ∀ b, F b → b < w.heap.size → w'.heap[b]? = w.heap[b]? ∧ F' b) {v : Value} {l : List VD} (h : RI w F v l) : RI w' F' v l := by
  induction h with
  | mk A c l iA iC hc hm hs hw hr ih =>
    refine .mk A c l iA iC hc hm (fun hn => ?_) hw ih
    obtain ⟨b, off, hA, hFb, hb, hcells⟩ := hs hn
    obtain ⟨h1, h2⟩ := hF b hFb hb
    exact ⟨b, off, hA, h2, by omega, fun i hi => (hcells i hi).keep h1⟩
theorem RI.later {w w' : World} {F : Nat → Prop} {v : Value} {l : List VD} (h : RI w F v l) (hb : Below w.heap.size w w') : RI w' F v l := h.keep hb.size fun b hF hlt => ⟨hb.block b hlt, hF⟩
theorem RI.ext {M : Nat → Prop} {w w' : World} {F : Nat → Prop} {v : Value} {l : List VD} (h : RI w F v l) (hb : Tab.Ext M w w') (hM : ∀ b, F b → ¬ M b) : RI w' F v l := h.keep hb.size fun b hF hlt => ⟨hb.block b hlt (hM b hF), hF⟩
theorem RI.mono {w : World} {F F' : Nat → Prop} {v : Value} {l : List VD} (h : RI w F v l) (hF : ∀ b, F b → b < w.heap.size → F' b) : RI w F' v l := h.keep (Nat.le_refl _) fun b hb hlt => ⟨rfl, hF b hb hlt⟩
theorem RI.nil (w : World) (F : Nat → Prop) : RI w F (.slice none 0 0) [] :=   .mk none 0 [] (fun _ => none) (fun _ => 0) (Nat.le_refl _) (Nat.zero_le _) (fun h => absurd h (Nat.lt_irrefl 0)) (fun i h => absurd h (Nat.not_lt_zero i)) (fun i h => absurd h (Nat.not_lt_zero i))
theorem RI.shape {w : World} {F : Nat → Prop} {v : Value} {l : List VD} (h : RI w F v l) : ∃ (A : Option Addr) (c : Nat) (iA : Nat → Option Addr) (iC : Nat → Nat), v = .slice A l.length c ∧ l.length ≤ c ∧ c ≤ maxLen ∧
    (0 < l.length → ∃ b off, A = some ⟨b, off, none⟩ ∧ F b ∧ b < w.heap.size ∧ ∀ i, i < l.length → CellsV w b (off + i * 5) (at_ l i) (iA i) (iC i)) ∧ (∀ i, i < l.length → (at_ l i).ok) ∧ ∀ i, i < l.length → RI w F (.slice (iA i) (at_ l i).items.length (iC i)) (at_ l i).items := by
  cases h with
  | mk A c l iA iC hc hm hs hw hr => exact ⟨A, c, iA, iC, rfl, hc, hm, hs, hw, hr⟩
/-- the value at a place of a slice, handed over whole -/
theorem VAgg.of_at {w : World} {F : Nat → Prop} {x : VD} {A : Option Addr} {c : Nat} (ho : x.ok) (h : RI w F (.slice A x.items.length c) x.items) : VAgg w F (.agg #[.int .i64 x.k, .int .i64 x.n, .int .i64 x.sc, .string x.s, .slice A x.items.length c]) x := ⟨A, c, rfl, ho, h⟩
theorem VAgg.later {w w' : World} {F : Nat → Prop} {v : Value} {x : VD} (h : VAgg w F v x) (hb : Below w.heap.size w w') : VAgg w' F v x := let ⟨A, c, h1, h2, h3⟩ := h; ⟨A, c, h1, h2, h3.later hb⟩
theorem VAgg.ext {M : Nat → Prop} {w w' : World} {F : Nat → Prop} {v : Value} {x : VD} (h : VAgg w F v x) (hb : Tab.Ext M w w') (hM : ∀ b, F b → ¬ M b) : VAgg w' F v x := let ⟨A, c, h1, h2, h3⟩ := h; ⟨A, c, h1, h2, h3.ext hb hM⟩
theorem VAgg.mono {w : World} {F F' : Nat → Prop} {v : Value} {x : VD} (h : VAgg w F v x) (hF : ∀ b, F b → b < w.heap.size → F' b) : VAgg w F' v x := let ⟨A, c, h1, h2, h3⟩ := h; ⟨A, c, h1, h2, h3.mono hF⟩

/-! the order of values -/
/-- texts compare byte by byte -/
def cmpBytes : List UInt8 → List UInt8 → Int
  | [], [] => 0
  | [], _ :: _ => -1
  | _ :: _, [] => 1
  | a :: l, b :: r => if a < b then -1 else if b < a then 1 else cmpBytes l r
def cmpS (a b : ByteArray) : Int := cmpBytes a.data.toList b.data.toList
/-- the first that is not 0 -/
def orI (a b : Int) : Int := if a ≠ 0 then a else b
def scaleOk (sc : Int) : Bool := decide (0 ≤ sc ∧ sc ≤ 12)
mutual
def cmpV : VD → VD → Int
  | .mk k n sc s l, .mk k' n' sc' s' l' =>
    if k ≠ k' then (if k = 0 then 1 else if k' = 0 then -1 else cmpI k k')
    else if k = 0 then 0
    else
      let rest := orI (cmpI sc sc') (orI (cmpS s s') (cmpL l l'))
      if k = 3 then
        (if scaleOk sc && scaleOk sc' then orI (cmpI (n * 10 ^ (12 - sc).toNat) (n' * 10 ^ (12 - sc').toNat)) rest
         else if scaleOk sc then -1 else if scaleOk sc' then 1 else orI (cmpI n n') rest)
      else orI (cmpI n n') rest
def cmpL : List VD → List VD → Int
  | [], [] => 0
  | [], _ :: _ => -1
  | _ :: _, [] => 1
  | a :: l, b :: r => if cmpV a b ≠ 0 then cmpV a b else cmpL l r
end
end Go.Proofs.YthejmnmkbldacaaGreatDoor

namespace Go.Proofs.YthejmnmkbldacaaGreatDoor
open Go.RowKit
attribute [local go_sem] Tab.Env.ev Tab.Env.get

set_option maxHeartbeats 400000 in
theorem isNaN_any (a : Int) (w : World) : Calls Tryz.prog 216 #[.int .i64 a] w fun e w' => e = .returned (.bool false) ∧ w = w' := by
  go_enter Tryz.func216, Tryz.ntmps216
  go_wp2
  go_ret
  exact ⟨by simp, rfl⟩

set_option maxHeartbeats 400000 in
theorem cmpInt_any (a b : Int) (w : World) : Calls Tryz.prog 182 #[.int .i64 a, .int .i64 b] w fun e w' => e = .returned (.int .i64 (cmpI a b)) ∧ w = w' := by
  go_enter Tryz.func182, Tryz.ntmps182
  go_wp2_with (go_at_call 216; refine (isNaN_any _ _).mono ?_; rintro e w' ⟨rfl, rfl⟩)
  · have h : a < b := by assumption
    go_ret
    exact ⟨ret_int (cmpI_lt h).symm, rfl⟩
  · have h : b < a := by assumption
    go_ret
    exact ⟨ret_int (cmpI_gt h).symm, rfl⟩
  · have h : b ≤ a := by assumption
    have h' : a ≤ b := by assumption
    go_ret
    exact ⟨ret_int (cmpI_eq (by omega)).symm, rfl⟩

set_option maxHeartbeats 400000 in
theorem within_any (n low high : Int) (w : World) : Calls Tryz.prog 183 #[.int .i64 n, .int .i64 low, .int .i64 high] w fun e w' => e = .returned (.bool (decide (low ≤ n ∧ n ≤ high))) ∧ w = w' := by
  by_cases h : low ≤ n
  · by_cases h2 : n ≤ high
    · rw [decide_eq_true (And.intro h h2)]
      go_enter Tryz.func183, Tryz.ntmps183
      go_wp2
      go_ret
      exact ⟨rfl, rfl⟩
    · rw [decide_eq_false (fun h' => h2 h'.2)]
      have h3 : high < n := by omega
      clear h2
      go_enter Tryz.func183, Tryz.ntmps183
      go_wp2
      go_ret
      exact ⟨ret_bool (decide_eq_false (by omega)), rfl⟩
  · rw [decide_eq_false (fun h' => h h'.1)]
    have h3 : n < low := by omega
    clear h
    go_enter Tryz.func183, Tryz.ntmps183
    go_wp2
    go_ret
    exact ⟨rfl, rfl⟩

theorem bytesLess_cmp : ∀ a b : List UInt8, (Op.bytesLess a b = true ↔ cmpBytes a b = -1) ∧ (cmpBytes a b = 0 ↔ a = b) ∧ (cmpBytes a b = -1 ∨ cmpBytes a b = 0 ∨ cmpBytes a b = 1)
  | [], [] => by simp [Op.bytesLess, cmpBytes]
  | [], _ :: _ => by simp [Op.bytesLess, cmpBytes]
  | _ :: _, [] => by simp [Op.bytesLess, cmpBytes]
  | x :: l, y :: r => by
    have ih := bytesLess_cmp l r
    have n1 : ¬ ((1 : Int) = -1) := by decide
    have n0 : ¬ ((1 : Int) = 0) := by decide
    have m0 : ¬ ((-1 : Int) = 0) := by decide
    simp only [Op.bytesLess, cmpBytes]
    by_cases h : x < y
    · have hne : x ≠ y := fun e => by subst e; exact absurd h (UInt8.lt_irrefl x)
      simp [h, hne]
    · by_cases h2 : y < x
      · have hne : x ≠ y := fun e => by subst e; exact absurd h2 (UInt8.lt_irrefl x)
        simp [h, h2, hne]
      · have he : x = y := UInt8.le_antisymm (UInt8.not_lt.1 h2) (UInt8.not_lt.1 h)
        subst he
        simp only [h, if_false, decide_false, Bool.false_or, beq_self_eq_true, Bool.true_and, List.cons.injEq, true_and]
        exact ih

set_option maxHeartbeats 400000 in
theorem cmpStr_any (a b : ByteArray) (w : World) : Calls Tryz.prog 219 #[.string a, .string b] w fun e w' => e = .returned (.int .i64 (cmpS a b)) ∧ w = w' := by
  go_enter Tryz.func219, Tryz.ntmps219
  have hl := bytesLess_cmp a.toList b.toList
  have es : cmpS a b = cmpBytes a.toList b.toList := by unfold cmpS; rw [ByteArray.toList_eq, ByteArray.toList_eq]
  have HL := Lib.hid hl
  have ES := Lib.hid es
  clear hl es
  go_wp2
  · have h : Op.bytesLess a.toList b.toList = true := by assumption
    go_ret
    exact ⟨ret_int (by rw [ES.out, HL.out.1.1 h]), rfl⟩
  · rename_i h1 h2
    go_ret
    refine ⟨ret_int ?_, rfl⟩
    rw [ES.out]
    have h3 := HL.out
    have h4 : ¬ (cmpBytes a.toList b.toList = -1) := fun e => by have := h3.1.2 e; simp_all
    have h5 : ¬ (cmpBytes a.toList b.toList = 0) := fun e => by have := h3.2.1.1 e; simp_all
    rcases h3.2.2 with h | h | h
    · exact absurd h h4
    · exact absurd h h5
    · exact h.symm
  · rename_i h1 h2
    go_ret
    refine ⟨ret_int ?_, rfl⟩
    rw [ES.out]
    exact (HL.out.2.1.2 (by simp_all)).symm

/-- the first of m numbers from place k on that is not 0 -/
def orFrom (f : Nat → Int) : Nat → Nat → Int
  | _, 0 => 0
  | k, m + 1 => orI (f k) (orFrom f (k + 1) m)

set_option maxHeartbeats 1000000 in
theorem or_any (b off c n : Nat) (f : Nat → Int) (w : World) (hn : n ≤ 3) (hc : ∀ i, i < n → w.cell? ⟨b, off + i, none⟩ = some (.int .i64 (f i))) :
    Calls Tryz.prog 184 #[.slice (some ⟨b, off, none⟩) n c] w fun e w' => e = .returned (.int .i64 (orFrom f 0 n)) ∧ w = w' := by
  go_enter Tryz.func184, Tryz.ntmps184
  go_wp2
  go_loop [5, 8] (fun _ i => ∃ k : Nat, k ≤ n ∧ i = .int .i64 k ∧ orFrom f 0 n = orFrom f k (n - k)) (fun _ i => n - (intOf i).toNat)
  case atStart => exact ⟨0, Nat.zero_le _, rfl, rfl⟩
  case round =>
    obtain ⟨k, hk, rfl, he⟩ := hrel
    have HE := Lib.hid he
    clear he
    by_cases hlt : k < n
    · have h1 := hc k hlt
      have HS := Lib.hid (show orFrom f k (n - k) = orI (f k) (orFrom f (k + 1) (n - (k + 1))) by rw [show n - k = (n - (k + 1)) + 1 by omega]; rfl)
      by_cases hz : f k = 0
      · have e1 : (f k != 0) = false := by simp [hz]
        have HZ := Lib.hid hz
        clear hz
        go_wp2
        go_round
        case rel => exact ⟨k + 1, hlt, by go_num, by rw [HE.out, HS.out, HZ.out]; rfl⟩
        case measure => simp [intOf]; omega
      · have e1 : (f k != 0) = true := by simp [hz]
        have HZ := Lib.hid hz
        clear hz
        go_wp2
        go_ret
        exact ⟨ret_int (by rw [HE.out, HS.out, orI, if_pos HZ.out]), rfl⟩
    · have HS := Lib.hid (show orFrom f k (n - k) = 0 by rw [show n - k = 0 by omega]; rfl)
      go_wp2
      go_ret
      exact ⟨ret_int (by rw [HE.out, HS.out]), rfl⟩
theorem orI_zero (a : Int) : orI a 0 = a := by
  unfold orI
  by_cases h : a = 0
  · rw [if_neg (by simp [h]), h]
  · rw [if_pos h]
theorem or2_any (a b : Int) (w : World) (g : Nat) (hg : g = w.heap.size) :
    Calls Tryz.prog 184 #[.slice (some ⟨g, 0, none⟩) 2 2] (w.alloc (.cells #[.int .i64 a, .int .i64 b] 3)) fun e w' => e = .returned (.int .i64 (orI a b)) ∧ w.alloc (.cells #[.int .i64 a, .int .i64 b] 3) = w' := by
  subst hg
  have h := or_any w.heap.size 0 2 2 (fun i => if i = 0 then a else b) (w.alloc (.cells #[.int .i64 a, .int .i64 b] 3)) (by omega) (fun i hi => by
    rcases (by omega : i = 0 ∨ i = 1) with rfl | rfl <;> simp)
  have e : orFrom (fun i => if i = 0 then a else b) 0 2 = orI a b := by
    show orI _ (orI _ 0) = _
    rw [orI_zero]
    rfl
  rw [e] at h
  exact h
theorem or3_any (a b c : Int) (w : World) (g : Nat) (hg : g = w.heap.size) :
    Calls Tryz.prog 184 #[.slice (some ⟨g, 0, none⟩) 3 3] (w.alloc (.cells #[.int .i64 a, .int .i64 b, .int .i64 c] 3)) fun e w' => e = .returned (.int .i64 (orI a (orI b c))) ∧ w.alloc (.cells #[.int .i64 a, .int .i64 b, .int .i64 c] 3) = w' := by
  subst hg
  have h := or_any w.heap.size 0 3 3 (fun i => if i = 0 then a else if i = 1 then b else c) (w.alloc (.cells #[.int .i64 a, .int .i64 b, .int .i64 c] 3)) (by omega) (fun i hi => by
    rcases (by omega : i = 0 ∨ i = 1 ∨ i = 2) with rfl | rfl | rfl <;> simp)
  have e : orFrom (fun i => if i = 0 then a else if i = 1 then b else c) 0 3 = orI a (orI b c) := by
    show orI _ (orI _ (orI _ 0)) = _
    rw [orI_zero]
    rfl
  rw [e] at h
  exact h
end Go.Proofs.YthejmnmkbldacaaGreatDoor
