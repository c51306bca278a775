/-
  What is proved: multiset. Conditions: fewer than 2^22 differences, at most 100000 rows, small rows.
  What is proved: Apply of the program. Conditions: fewer than 2^21 rows and differences each, small rows; the tables of unicode/utf8 lie as they are laid.
  What is proved: the reference's canonical lists. Conditions: fewer than 2^22 differences.
  What is proved: (no program in sight) the two ways to apply differences to rows answer alike, and what lies between rows leads from one to the other. Conditions: none.
-/
import Derived.Test.YthejmnmkbldacaaGreatDoorAp19
import Derived.Test.YthejmnmkbldacaaGreatDoorAp24
import Derived.Test.YthejmnmkbldacaaGreatDoorAp23
set_option linter.all false
namespace Go.Proofs.YthejmnmkbldacaaGreatDoor
open Go.RowKit
attribute [local go_sem] Tab.Env.ev Tab.Env.get

def msum (l : List DE) : Int := l.foldr (fun d s => d.n + s) 0
theorem msum_append (a b : List DE) : msum (a ++ b) = msum a + msum b := by
  induction a with
  | nil => simp [msum]
  | cons d a ih =>
    simp only [msum, List.cons_append, List.foldr_cons] at ih ⊢
    omega
theorem msum_snoc (l : List DE) (d : DE) : msum (l ++ [d]) = msum l + d.n := by rw [msum_append]; simp [msum]
theorem msum_nonneg (l : List DE) (h : ∀ d, d ∈ l → 0 ≤ d.n) : 0 ≤ msum l := by
  induction l with
  | nil => simp [msum]
  | cons d l ih =>
    have := ih fun d hd => h d (List.mem_cons_of_mem _ hd)
    have := h d (List.mem_cons_self ..)
    simp only [msum, List.foldr_cons] at *
    omega
/-- the numbers are those of a multiset of at most so many rows -/
def MOk (most : Int) (l : List DE) : Prop := (∀ d, d ∈ l → 0 ≤ d.n) ∧ msum l ≤ most
theorem MOk.take {most : Int} {l : List DE} (h : MOk most l) (k : Nat) : MOk most (l.take k) := by
  have hs := msum_append (l.take k) (l.drop k)
  rw [List.take_append_drop] at hs
  have hd := msum_nonneg (l.drop k) fun d hd => h.1 d (List.mem_of_mem_drop hd)
  exact ⟨fun d hd => h.1 d (List.mem_of_mem_take hd), by have := h.2; omega⟩
theorem MOk.snoc {most : Int} {l : List DE} {d : DE} (h : MOk most l) : MOk most (l ++ [d]) ↔ 0 ≤ d.n ∧ d.n ≤ most - msum l := by
  unfold MOk
  rw [msum_snoc]
  constructor
  · rintro ⟨h1, h2⟩
    exact ⟨h1 d (List.mem_append_right _ (List.mem_singleton.2 rfl)), by omega⟩
  · rintro ⟨h1, h2⟩
    refine ⟨fun e he => ?_, by omega⟩
    rcases List.mem_append.1 he with he | he
    · exact h.1 e he
    · rw [List.mem_singleton.1 he]
      exact h1
theorem MOk.nonneg {most : Int} {l : List DE} (h : MOk most l) : 0 ≤ msum l := msum_nonneg l h.1
/-- each row as often as its number says -/
def expandD (l : List DE) : List (List VD) := l.flatMap fun d => List.replicate d.n.toNat d.row
theorem expandD_append (a b : List DE) : expandD (a ++ b) = expandD a ++ expandD b := List.flatMap_append
theorem expandD_snoc (l : List DE) (d : DE) : expandD (l ++ [d]) = expandD l ++ List.replicate d.n.toNat d.row := by
  rw [expandD_append]; simp [expandD]
theorem expandD_len (l : List DE) (h : ∀ d, d ∈ l → 0 ≤ d.n) : ((expandD l).length : Int) = msum l := by
  induction l with
  | nil => rfl
  | cons d l ih =>
    have := ih fun d hd => h d (List.mem_cons_of_mem _ hd)
    have := h d (List.mem_cons_self ..)
    simp only [expandD, msum, List.flatMap_cons, List.length_append, List.length_replicate, List.foldr_cons] at *
    omega
theorem OwnRs.add {wr w' : World} {base : Nat} {F : Nat → Prop} {v v' : Value} {es : List RE} {e : RE} (h : OwnRs wr base F v es) (ho : w'.ownsRow base 31 1 v' (es.length + 1) (es.map RE.rv ++ [e.rv])) (hk : Kept wr w' v v')
    (hr : RI wr (fun b => F b ∧ v.ownBlock ≠ some b) e.rv e.row) : OwnRs w' base F v' (es ++ [e]) :=
  ⟨by rw [List.length_append, List.map_append]; exact ho, fun d hd => by
    rcases List.mem_append.1 hd with hd | hd
    · exact hk.ri (h.good d hd)
    · rw [List.mem_singleton.1 hd]; exact hk.ri hr⟩
def MultiPost (most : Int) (l : List DE) (w : World) (e : Ending) (w' : World) : Prop :=
  Below w.heap.size w w' ∧
    ((¬ MOk most l ∧ e = .returned (.tuple #[.slice none 0 0, .bool false])) ∨
     (MOk most l ∧ ∃ v' rs, e = .returned (.tuple #[v', .bool true]) ∧ RR w' (fun b => w.heap.size ≤ b) (fun b => w.heap.size ≤ b) v' rs ∧ rs.map RE.row = expandD l))

set_option maxHeartbeats 2000000 in
set_option maxRecDepth 100000 in
theorem multiset_any (most : Int) (hmost : 0 ≤ most ∧ most ≤ 100000) (F F' : Nat → Prop) (v : Value) (l : List DE) (w : World) (h : RD w F F' v l) (hn : l.length < 1073741824) (hsm : SmD l) :
    Calls Tryz.prog 51 #[v, .int .i64 most] w (MultiPost most l w) := by
  obtain ⟨A, c, rfl, hc, hm⟩ := rd_shape h
  have HR := Lib.hid h
  have HSM := Lib.hid hsm
  clear h hsm
  unfold maxLen at hm
  obtain ⟨n, hln⟩ : ∃ n, l.length = n := ⟨_, rfl⟩
  rw [hln] at hc hn ⊢
  have HN := Lib.hid hln
  clear hln
  go_enter Tryz.func51, Tryz.ntmps51
  go_wp2_with fail
  go_loopw [4, 5, 6, 8, 14] (fun _ _ s _ i wr => ∃ (k : Nat) (m : Int), k ≤ n ∧ s = .int .i64 m ∧ i = .int .i64 k ∧ Hid (m = msum (l.take k) ∧ MOk most (l.take k)) ∧ 0 ≤ m ∧ m ≤ most ∧ Below w.heap.size w wr) (fun _ _ _ _ i _ => n - (intOf i).toNat)
  case atStart => exact ⟨0, 0, Nat.zero_le _, rfl, rfl, Lib.hid ⟨rfl, fun d hd => by simp at hd, hmost.1⟩, Int.le_refl _, hmost.1, Below.refl _ _⟩
  case round =>
    obtain ⟨k, m, hk, rfl, rfl, HM, hm0, hm1, hbel⟩ := hrel
    have HB := Lib.hid hbel
    by_cases hlt : k < n
    · as_aux_lemma =>
      have hkl : k < l.length := by rw [HN.out]; exact hlt
      obtain ⟨b, off, c', A1, m1, c1, row, nk, hv, -, -, hb, he, hg, x0, x1⟩ := (HR.out.later hbel).at_ (i := k) hkl
      injection hv with e1 e0 e2
      subst e1
      subst e2
      have HT := Lib.hid (show l.take (k + 1) = l.take k ++ [⟨.slice A1 m1 c1, row, nk⟩] by
        rw [List.take_succ_eq_append_getElem hkl, ← dat_eq hkl, he])
      have HOK := Lib.hid (show MOk most (l.take (k + 1)) ↔ 0 ≤ nk ∧ nk ≤ most - m by
        rw [HT.out, HM.out.2.snoc, ← HM.out.1])
      have hI : I64 nk := hg.n
      unfold I64 at hI
      have HS2 := Lib.hid (show msum (l.take (k + 1)) = m + nk by rw [HT.out, msum_snoc, ← HM.out.1])
      have hw1 := IntWalk.i64_in (most - m) (by omega)
      clear e0 he hg hbel
      have HB2 := Lib.hid (HB.out.trans ((below_new wr (.cells #[.slice A1 m1 c1, .int .i64 nk] 86)).mono HB.out.size))
      by_cases h1 : nk < 0
      · have HX := Lib.hid (show ¬ MOk most l from fun h => by have := HOK.out.1 (h.take (k + 1)); omega)
        go_wp2_with fail
        go_ret2
        exact ⟨HB2.out, .inl ⟨HX.out, rfl⟩⟩
      · by_cases h2 : most - m < nk
        · have HX := Lib.hid (show ¬ MOk most l from fun h => by have := HOK.out.1 (h.take (k + 1)); omega)
          go_wp2_with fail
          go_ret2
          exact ⟨HB2.out, .inl ⟨HX.out, rfl⟩⟩
        · have HOK2 := Lib.hid (HOK.out.2 ⟨by omega, by omega⟩)
          have hw2 := IntWalk.i64_in (m + nk) (by omega)
          go_wp2_with fail
          go_roundw
          case rel => exact ⟨k + 1, m + nk, hlt, rfl, by go_num, Lib.hid ⟨HS2.out.symm, HOK2.out⟩, by omega, by omega, HB2.out⟩
          case measure => simp [intOf] <;> omega
    · as_aux_lemma =>
      obtain rfl : k = n := by omega
      have HMK := Lib.hid (show MOk most l by have := HM.out.2; rw [← HN.out, List.take_length] at this; exact this)
      have hz0 := HB.out.size
      clear HM hbel
      go_wp2_with fail
      go_loopw [9, 11, 36] (fun s _ i wr => ∃ (q : Nat) (v : Value) (rs : List RE), q ≤ k ∧ v = s ∧ i = .int .i64 q ∧ OwnRs wr w.heap.size (fun b => w.heap.size ≤ b) v rs ∧ Hid (rs.map RE.row = expandD (l.take q)) ∧ Below w.heap.size w wr) (fun _ _ i _ => k - (intOf i).toNat)
      case atStart => exact ⟨0, _, [], Nat.zero_le _, rfl, rfl, OwnRs.nil _ _ _, Lib.hid rfl, HB.out⟩
      case round =>
        obtain ⟨q, v, rs, hq, rfl, rfl, ho, HE, hbel⟩ := hrel
        have HO := Lib.hid ho
        have HB1 := Lib.hid hbel
        clear ho
        by_cases hlt : q < k
        · as_aux_lemma =>
          have hkl : q < l.length := by rw [HN.out]; exact hlt
          obtain ⟨b, off, c', A1, m1, c1, row, nk, hv, -, -, hb, he, hg, x0, x1⟩ := (HR.out.later hbel).at_ (i := q) hkl
          injection hv with e1 e0 e2
          subst e1
          subst e2
          have HT := Lib.hid (show l.take (q + 1) = l.take q ++ [⟨.slice A1 m1 c1, row, nk⟩] by
            rw [List.take_succ_eq_append_getElem hkl, ← dat_eq hkl, he])
          have hsmd := HSM.out _ (dat_mem (l := l) (i := q) hkl)
          rw [he] at hsmd
          have HSMD := Lib.hid hsmd
          have hnk : 0 ≤ nk := by
            have := HMK.out.1 _ (dat_mem (l := l) (i := q) hkl)
            rw [he] at this
            exact this
          have hnk2 : nk ≤ most := by
            have h1 := (HMK.out.take (q + 1)).2
            rw [HT.out, msum_snoc] at h1
            have h2 := (HMK.out.take q).nonneg
            have : (DE.mk (.slice A1 m1 c1) row nk).n = nk := rfl
            omega
          have HGD := Lib.hid ((HR.out.good _ (dat_mem (l := l) (i := q) hkl)).row)
          rw [he] at HGD
          have HLT := Lib.hid (show (expandD (l.take (q + 1))).length ≤ 100000 by
            have h1 := expandD_len (l.take (q + 1)) (HMK.out.take (q + 1)).1
            have h2 := (HMK.out.take (q + 1)).2
            omega)
          have HEX := Lib.hid (show expandD (l.take (q + 1)) = expandD (l.take q) ++ List.replicate nk.toNat row by rw [HT.out, expandD_snoc])
          obtain ⟨t, rfl⟩ : ∃ t : Nat, nk = t := ⟨nk.toNat, by omega⟩
          have ht : t ≤ 100000 := by omega
          have HX2 := Lib.hid (show (expandD (l.take q)).length + t ≤ 100000 by
            have h1 := HLT.out
            rw [HEX.out, List.length_append, List.length_replicate] at h1
            simpa using h1)
          rw [Int.toNat_natCast] at HEX
          clear e0 he hg hbel hnk hnk2 hsmd
          have hz1 := HB1.out.size
          go_wp2_with fail
          have hWb : Below wr.heap.size wr (wr.alloc (.cells #[.slice A1 m1 c1, .int .i64 t] 86)) := below_new wr _
          have hWn : Blk (wr.alloc (.cells #[.slice A1 m1 c1, .int .i64 t] 86)) wr.heap.size 86 [.slice A1 m1 c1, .int .i64 t] := Blk.new wr 86 [.slice A1 m1 c1, .int .i64 t]
          generalize hWdef : wr.alloc (.cells #[.slice A1 m1 c1, .int .i64 t] 86) = W at *
          have HBW := Lib.hid (HB1.out.trans (hWb.mono hz1))
          have HOW := Lib.hid (HO.out.later hWb)
          obtain ⟨z, hz⟩ : ∃ z, wr.heap.size = z := ⟨_, rfl⟩
          rw [hz] at hWn ⊢
          have HWN := Lib.hid hWn
          have HZ := Lib.hid hz
          have HLS := Lib.hid (HR.out.later HBW.out)
          clear hWb hWn x0 x1 hb hz hz1 hWdef HB1
          go_loopw [9, 42] (fun s i wi => ∃ (j : Nat) (v : Value) (rs : List RE), j ≤ t ∧ v = s ∧ i = .int .i64 j ∧ OwnRs wi w.heap.size (fun b => w.heap.size ≤ b) v rs ∧ Hid (rs.map RE.row = expandD (l.take q) ++ List.replicate j row) ∧ Blk wi z 86 [.slice A1 m1 c1, .int .i64 t] ∧ Below w.heap.size w wi) (fun _ i _ => t - (intOf i).toNat)
          case atStart => exact ⟨0, _, rs, Nat.zero_le _, rfl, rfl, HOW.out, Lib.hid (by rw [HE.out]; simp), HWN.out, HBW.out⟩
          case round =>
            obtain ⟨j, v, rs, hj, rfl, rfl, ho, HEI, hblk, hbel⟩ := hrel
            have HOI := Lib.hid ho
            have HBI := Lib.hid hbel
            have HBL := Lib.hid hblk
            have q0 := wcell2 hblk
            have HLEN := Lib.hid (show rs.length ≤ 100000 by
              have h1 := congrArg List.length HEI.out
              rw [List.length_map, List.length_append, List.length_replicate] at h1
              have := HX2.out
              omega)
            clear ho hblk hbel HOW
            by_cases hlt2 : j < t
            · as_aux_lemma =>
              go_wp2_with fail
              refine (copyRow_any F' _ row wr (HGD.out.later HBI.out) HSMD.out.1 HSMD.out.2).mono ?_
              rintro e w1 ⟨rv, rfl, hri, hb1⟩
              obtain ⟨A9, c9, _, _, e9, _⟩ := hri.shape
              subst e9
              have HOL := Lib.hid (HOI.out.later hb1)
              have HB1 := Lib.hid (HBI.out.trans (hb1.mono HBI.out.size))
              have hzi := HBI.out.size
              have hz4 := HB1.out.size
              have HBL1 := Lib.hid (HBL.out.below hb1 HBL.out.lt)
              have hne := own_blk_ne HOI.out.own HBL.out (by decide)
              have HRI := Lib.hid (show RI w1 (fun b => (w.heap.size ≤ b) ∧ v.ownBlock ≠ some b) (.slice A9 row.length c9) row from hri.mono fun b hb _ => ⟨by omega, fun e => by have := (HOI.out.own.lt b e).2; omega⟩)
              have hrl : rs.length < 1073741824 := by have := HLEN.out; omega
              clear hri hb1 q0
              go_wp2_with (at_builtin; refine append_own2 w1 rfl (.tmp 44) (.tmp 48) 22 rfl w.heap.size 31 underR infoR rfl (by decide) _ _ _ [.slice A9 row.length c9] rfl HOL.out.own rfl rfl (by simp [Value.oneCell']) hrl (by decide) hz4 ?_)
              intro v' w2 hown' hb2 hkept
              have O2 := Lib.hid (HOL.out.add (e := RE.mk (.slice A9 row.length c9) row) hown' hkept HRI.out)
              have BL2 := Lib.hid ((hkept.block z HBL1.out.lt hne).1.trans HBL1.out)
              have HB2 := Lib.hid (HB1.out.trans hb2)
              have HE2 := Lib.hid (show (rs ++ [RE.mk (.slice A9 row.length c9) row]).map RE.row = expandD (l.take q) ++ List.replicate (j + 1) row by
                rw [List.map_append, HEI.out, List.replicate_succ', List.append_assoc]
                rfl)
              clear hown' hb2 hkept
              go_wp2_with fail
              go_roundw
              case rel => exact ⟨j + 1, _, _, hlt2, rfl, by go_num, O2.out, HE2, BL2.out, HB2.out⟩
              case measure => simp [intOf] <;> omega
            · as_aux_lemma =>
              obtain rfl : j = t := by omega
              have HE2 := Lib.hid (HEI.out.trans HEX.out.symm)
              go_wp2_with fail
              go_roundw
              case rel => exact ⟨q + 1, _, _, hlt, rfl, by go_num, HOI.out, HE2, HBI.out⟩
              case measure => simp [intOf] <;> omega
        · as_aux_lemma =>
          obtain rfl : q = k := by omega
          obtain ⟨hl, Al, cl, rfl, g1, g2, g3⟩ := SL.of_own HO.out.own
          have hz5 := HB1.out.size
          have HLEN := Lib.hid (show rs.length ≤ 100000 by
            have h1 := congrArg List.length HE.out
            rw [List.length_map] at h1
            have h3 := expandD_len (l.take q) (HMK.out.take q).1
            have h2 := (HMK.out.take q).2
            omega)
          have HCL := Lib.hid (fun W => clipR_any Al rs.length cl (SL.of_own HO.out.own).none_zero g1 g2 W)
          have hri := Lib.hid (show rs.map RE.row = expandD l by rw [HE.out, ← HN.out, List.take_length])
          go_wp2_with fail
          refine (HCL.out _).mono ?_
          rintro e w1 ⟨rfl, rfl⟩
          go_wp2_with fail
          go_ret2
          refine ⟨HB1.out, .inr ⟨HMK.out, _, rs, rfl, ⟨?_, fun e he => (HO.out.good e he).mono fun b hb _ => hb.1⟩, hri.out⟩⟩
          have := (SL.of_own HO.out.own).clip
          rw [List.length_map] at *
          exact this
end Go.Proofs.YthejmnmkbldacaaGreatDoor

namespace Go.Proofs.YthejmnmkbldacaaGreatDoor
open Go.RowKit
attribute [local go_sem] Tab.Env.ev Tab.Env.get

def rowsSound (l : List RE) : Bool := l.all fun e => rowSound e.row
theorem allSound_ones (l : List RE) : allSound (onesOf l) = rowsSound l := by
  unfold allSound onesOf rowsSound
  rw [List.all_map]
  rfl
/-- no row in it is long -/
def SmR (l : List RE) : Prop := ∀ d, d ∈ l → d.row.length < 1073741824 ∧ ∀ x, x ∈ d.row → smV x
theorem SmR.ones {l : List RE} (h : SmR l) : SmD (onesOf l) := fun d hd => by
  unfold onesOf at hd
  obtain ⟨e, he, rfl⟩ := List.mem_map.1 hd
  exact h e he
theorem absN_ones (l : List RE) : absN DE.n (onesOf l) = l.length := by
  induction l with
  | nil => rfl
  | cons e l ih =>
    unfold onesOf at ih ⊢
    simp only [List.map_cons, absN, ih, List.length_cons]
    omega
/-- where Sum says ErrRange -/
def SumFail (l : List DE) : Prop := rangedB l = false ∨ ∃ out, Canon cmpD DE.n setN l out ∧ rangedB out = false
/-- what Apply answers -/
def ApplyPost (rows : List RE) (l : List DE) (w : World) (e : Ending) (w' : World) : Prop :=
  Below w.heap.size w w' ∧
    ((e = .returned (.tuple #[.slice none 0 0, .int .i64 1]) ∧ (rowsSound rows && allSound l) = false) ∨
     (e = .returned (.tuple #[.slice none 0 0, .int .i64 3]) ∧ (rowsSound rows && allSound l) = true ∧ SumFail l) ∨
     ((rowsSound rows && allSound l) = true ∧ rangedB l = true ∧ (∃ o1, Canon cmpD DE.n setN l o1 ∧ rangedB o1 = true) ∧ ∃ out, Canon cmpD DE.n setN (onesOf rows ++ l) out ∧
       ((e = .returned (.tuple #[.slice none 0 0, .int .i64 3]) ∧ ¬ MOk 100000 out) ∨
        (MOk 100000 out ∧ ∃ v' rs, e = .returned (.tuple #[v', .int .i64 0]) ∧ RR w' (fun b => w.heap.size ≤ b) (fun b => w.heap.size ≤ b) v' rs ∧ rs.map RE.row = expandD out))))

set_option maxHeartbeats 2000000 in
set_option maxRecDepth 100000 in
theorem apply_any (F F' G G' : Nat → Prop) (vr v : Value) (rows : List RE) (l : List DE) (w : World) (hr : RR w G G' vr rows) (h : RD w F F' v l) (hnr : rows.length < 2097152) (hn : l.length < 2097152) (hsr : SmR rows) (hsm : SmD l) (hT : Tabs w) :
    Calls Tryz.prog 9 #[vr, v] w (ApplyPost rows l w) := by
  have HONES := Lib.hid (ones_any G G' vr rows w hr (by omega))
  obtain ⟨A, c, rfl, hc, hm⟩ := rd_shape h
  obtain ⟨_, Ar, cr, rfl, hcr, hmr, _⟩ := hr.sl
  have HR := Lib.hid hr
  have HL := Lib.hid h
  have HT := Lib.hid hT
  have HSR := Lib.hid hsr
  have HSM := Lib.hid hsm
  have holen : (onesOf rows).length = rows.length := by unfold onesOf; rw [List.length_map]
  have HOLEN := Lib.hid holen
  clear h hr hT hsr hsm holen
  unfold maxLen at hm hmr
  go_enter Tryz.func9, Tryz.ntmps9
  go_wp2_with fail
  refine HONES.out.mono ?_
  rintro e w1 ⟨v1, rfl, ho1, hb1⟩
  obtain ⟨_, A1, c1, e1, hc1, hm1, _⟩ := ho1.rd.sl
  subst e1
  have HO1 := Lib.hid ho1
  have HB1 := Lib.hid hb1
  have HS1 := Lib.hid (soundS_any _ _ _ _ w1 ho1.rd (by rw [HOLEN.out]; omega) (HT.out.later hb1))
  have HRS := Lib.hid (allSound_ones rows)
  clear ho1 hb1 HONES
  go_wp2_with fail
  refine HS1.out.mono ?_
  rintro e w2 ⟨rfl, hb2⟩
  have HB2 := Lib.hid (HB1.out.trans (hb2.mono HB1.out.size))
  have HO2 := Lib.hid (HO1.out.later hb2)
  clear hb2 HS1
  rw [HRS.out]
  cases hs1 : rowsSound rows with
  | false =>
    have HX := Lib.hid (show (rowsSound rows && allSound l) = false by rw [hs1]; rfl)
    clear hs1 HRS
    go_wp2_with fail
    go_ret2
    exact ⟨HB2.out, .inl ⟨rfl, HX.out⟩⟩
  | true =>
    have HX1 := Lib.hid hs1
    clear hs1 HRS
    have HS2 := Lib.hid (soundS_any _ _ _ _ w2 (HL.out.later HB2.out) (by omega) (HT.out.later HB2.out))
    go_wp2_with fail
    refine HS2.out.mono ?_
    rintro e w3 ⟨rfl, hb3⟩
    have HB3 := Lib.hid (HB2.out.trans (hb3.mono HB2.out.size))
    have HO3 := Lib.hid (HO2.out.later hb3)
    clear hb3 HS2
    cases hs2 : allSound l with
    | false =>
      have HX := Lib.hid (show (rowsSound rows && allSound l) = false by rw [hs2]; exact Bool.and_false _)
      clear hs2
      go_wp2_with fail
      go_ret2
      exact ⟨HB3.out, .inl ⟨rfl, HX.out⟩⟩
    | true =>
      have HX := Lib.hid (show (rowsSound rows && allSound l) = true by rw [hs2, HX1.out]; rfl)
      clear hs2
      have HSU := Lib.hid (summed_any _ _ _ _ w3 (HL.out.later HB3.out) (by omega) HSM.out)
      go_wp2_with fail
      refine HSU.out.mono ?_
      rintro e w4 ⟨hb4, hp⟩
      have HB4 := Lib.hid (HB3.out.trans (hb4.mono HB3.out.size))
      have HO4 := Lib.hid (HO3.out.later hb4)
      clear hb4 HSU
      rcases hp with ⟨rfl, hf⟩ | ⟨vs, o1, l', rfl, hrg, hcn, hro, -, hrs⟩
      · as_aux_lemma =>
        have HF := Lib.hid hf
        clear hf
        go_wp2_with fail
        go_ret2
        exact ⟨HB4.out, .inr (.inl ⟨rfl, HX.out, HF.out⟩)⟩
      · as_aux_lemma =>
        obtain ⟨_, A9, c9, e9, _, _, _⟩ := hrs.sl
        subst e9
        have HRG := Lib.hid hrg
        have HCN := Lib.hid (show ∃ o1, Canon cmpD DE.n setN l o1 ∧ rangedB o1 = true from ⟨o1, hcn, hro⟩)
        have habs := absN_ranged hrg
        clear hrg hcn hro hrs
        have habs2 : absN DE.n (onesOf rows ++ l) ≤ 4611686018427387904 := by
          rw [absN_append, absN_ones]
          omega
        have hbl := below_new w4 (.cells #[.slice A1 (onesOf rows).length c1, .slice A l.length c] 23)
        have HBL := Lib.hid hbl
        have HLL := Lib.hid ((HL.out.later HB4.out).later hbl)
        have HOL := Lib.hid (HO4.out.rd.later hbl)
        have HCC := Lib.hid (concatD_any _ _ (.slice A1 (onesOf rows).length c1) (.slice A l.length c) (dcells (onesOf rows)) (dcells l) (onesOf rows).length l.length w4.heap.size (w4.alloc (.cells #[.slice A1 (onesOf rows).length c1, .slice A l.length c] 23)) (Blk.new w4 _ _) HOL.out.sl HLL.out.sl (dcells_one HOL.out.good) (dcells_one HLL.out.good) (by rw [HOLEN.out]; omega))
        clear hbl habs
        go_wp2_with fail
        refine HCC.out.mono ?_
        rintro e w5 ⟨v5, rfl, hown, hb5⟩
        have HB5 := Lib.hid (HB4.out.trans ((HBL.out.trans (hb5.mono HBL.out.size)).mono HB4.out.size))
        have HRD := Lib.hid (RD.append hown (fun d hd => ⟨(HOL.out.good d hd).row.later hb5, (HOL.out.good d hd).n⟩) (fun d hd => ⟨(HLL.out.good d hd).row.later hb5, (HLL.out.good d hd).n⟩))
        have HCA := Lib.hid (canonical_any _ _ v5 (onesOf rows ++ l) w5 HRD.out (by rw [List.length_append, HOLEN.out]; omega) habs2)
        clear hown hb5 HCC habs2
        go_wp2_with fail
        refine HCA.out.mono ?_
        rintro e w6 ⟨v6, out, rfl, ho6, hca, hb6⟩
        have HB6 := Lib.hid (HB5.out.trans (hb6.mono HB5.out.size))
        have HC6 := Lib.hid hca
        have hol : out.length < 1073741824 := by
          have := hca.len
          rw [List.length_append, HOLEN.out] at this
          omega
        have HMU := Lib.hid (multiset_any 100000 (by omega) _ _ v6 out w6 ho6.rd hol (hca.sm (HSR.out.ones.append HSM.out)))
        clear ho6 hca hb6 HCA hol
        go_wp2_with fail
        refine HMU.out.mono ?_
        rintro e w7 ⟨hb7, hp⟩
        have HB7 := Lib.hid (HB6.out.trans (hb7.mono HB6.out.size))
        have hz6 := HB6.out.size
        clear hb7 HMU
        rcases hp with ⟨hno, rfl⟩ | ⟨hok, v7, rs, rfl, hrs, hex⟩
        · have HNO := Lib.hid hno
          clear hno
          go_wp2_with fail
          go_ret2
          exact ⟨HB7.out, .inr (.inr ⟨HX.out, HRG.out, HCN.out, out, HC6.out, .inl ⟨rfl, HNO.out⟩⟩)⟩
        · have HOK := Lib.hid hok
          have HRS7 := Lib.hid hrs
          have HEX := Lib.hid hex
          clear hok hrs hex
          go_wp2_with fail
          go_ret2
          exact ⟨HB7.out, .inr (.inr ⟨HX.out, HRG.out, HCN.out, out, HC6.out, .inr ⟨HOK.out, v7, rs, rfl, HRS7.out.mono (fun b hb _ => Nat.le_trans hz6 hb) (fun b hb _ => Nat.le_trans hz6 hb), HEX.out⟩⟩)⟩
end Go.Proofs.YthejmnmkbldacaaGreatDoor

namespace Go.Proofs.YthejmnmkbldacaaGreatDoor
open Go.RowKit
attribute [local go_sem] Tab.Env.ev Tab.Env.get

theorem tot_row (x : DE) : ∀ l : List DE, tot cmpD DE.n x l = totR x.row l
  | [] => rfl
  | d :: l => by
    have ih := tot_row x l
    unfold totR at ih ⊢
    simp only [tot]
    rw [ih]
    rfl
theorem timesR_bound (t : Int) : -2199023255552 ≤ timesR t ∧ timesR t ≤ 2199023255552 := by
  unfold timesR
  split <;> omega
theorem timesB_InT (t : Int) : timesB t = true ↔ InT t := by
  unfold timesB InT
  exact decide_eq_true_iff
theorem refOut_snoc (sign : Int) (l es : List DE) (x : DE) : refOut cmpD DE.n setN sign l (es ++ [x]) = if sign * timesR (totR x.row l) = 0 then refOut cmpD DE.n setN sign l es else refOut cmpD DE.n setN sign l es ++ [setN x (sign * timesR (totR x.row l))] := by
  unfold refOut
  rw [List.map_append, List.filter_append, List.map_singleton, tot_row x l]
  split
  · rename_i h
    have : (setN x (sign * timesR (totR x.row l))).n = 0 := h
    rw [List.filter_cons_of_neg (by simp [this])]
    simp
  · rename_i h
    have : (setN x (sign * timesR (totR x.row l))).n ≠ 0 := h
    rw [List.filter_cons_of_pos (by simp [this])]
    simp

theorem own_base {w : World} {b b' : Nat} (h : b ≤ b') {e size n : Nat} {v : Value} {xs : List Value} (ho : w.ownsRow b' e size v n xs) : w.ownsRow b e size v n xs :=
  ⟨ho.1, ho.2.elim .inl fun ⟨g, cap, cur, h1, h2, h3⟩ => .inr ⟨g, cap, cur, h1, Nat.le_trans h h2, h3⟩⟩
theorem OwnDs.base {w : World} {b b' : Nat} (h : b ≤ b') {F : Nat → Prop} {v : Value} {es : List DE} (ho : OwnDs w b' F v es) : OwnDs w b F v es := ⟨own_base h ho.own, ho.good⟩
/-- what the reference's canonical answers -/
def RCanonPost (F' : Nat → Prop) (sign : Int) (l : List DE) (w : World) (e : Ending) (w' : World) : Prop :=
  Below w.heap.size w w' ∧ ∃ es, DiffI cmpD setN l es ∧
    ((e = .returned (.tuple #[.slice none 0 0, .bool false]) ∧ ∃ x, x ∈ es ∧ ¬ InT (sign * timesR (tot cmpD DE.n x l))) ∨
     (∃ v', e = .returned (.tuple #[v', .bool true]) ∧ (∀ x, x ∈ es → InT (sign * timesR (tot cmpD DE.n x l))) ∧ OwnDs w' w.heap.size (fun b => F' b ∧ b < w.heap.size) v' (refOut cmpD DE.n setN sign l es)))

set_option maxHeartbeats 2000000 in
theorem canonicalR_any (sign : Int) (hsign : sign = 1 ∨ sign = -1) (F F' : Nat → Prop) (v : Value) (l : List DE) (w : World) (h : RD w F F' v l) (hn : l.length < 4194304) :
    Calls Tryz.prog 57 #[v, .int .i64 sign] w (RCanonPost F' sign l w) := by
  obtain ⟨A, c, rfl, hc, hm⟩ := rd_shape h
  have HR := Lib.hid h
  have HSG := Lib.hid hsign
  have HDI := Lib.hid (different_any F F' _ l w h (by omega))
  clear h hsign
  unfold maxLen at hm
  obtain ⟨n, hln⟩ : ∃ n, l.length = n := ⟨_, rfl⟩
  rw [hln] at hc hn HDI HR ⊢
  have HN := Lib.hid hln
  clear hln
  go_enter Tryz.func57, Tryz.ntmps57
  go_wp2_with fail
  refine HDI.out.mono ?_
  rintro e w1 ⟨v1, es, rfl, ho1, hdi, hel, hb1⟩
  have HO1 := Lib.hid ho1
  have HD := Lib.hid hdi
  have HB1 := Lib.hid hb1
  rw [HN.out] at hel
  obtain ⟨_, Ae, ce, ee, hce1, hce2, _⟩ := ho1.rr.sl
  subst ee
  unfold maxLen at hce2
  obtain ⟨m, hmm⟩ : ∃ m, es.length = m := ⟨_, rfl⟩
  have HM := Lib.hid hmm
  rw [hmm] at hce1 hel HO1 ⊢
  clear ho1 hdi hb1 hmm HDI
  have hz1 := HB1.out.size
  go_wp2_with fail
  go_loopw [4, 5, 6, 8, 9, 13] (fun _ _ s _ _ i wr => ∃ (k : Nat) (v : Value), k ≤ m ∧ v = s ∧ i = .int .i64 k ∧ OwnDs wr w1.heap.size (fun b => F' b ∧ b < w.heap.size) v (refOut cmpD DE.n setN sign l ((es.map REd).take k)) ∧ Hid (∀ e, e ∈ es.take k → InT (sign * timesR (totR e.row l))) ∧ Below w1.heap.size w1 wr) (fun _ _ _ _ _ i _ => m - (intOf i).toNat)
  case atStart => exact ⟨0, _, Nat.zero_le _, rfl, rfl, OwnDs.nil _ _ _, Lib.hid (fun e he => by simp at he), Below.refl _ _⟩
  case round =>
    obtain ⟨k, v, hk, rfl, rfl, ho, HI, hbel⟩ := hrel
    have HB := Lib.hid (HB1.out.trans (hbel.mono hz1))
    have HO := Lib.hid ho
    have hfl : (refOut cmpD DE.n setN sign l ((es.map REd).take k)).length ≤ k := Nat.le_trans (List.length_filter_le _ _) (by rw [List.length_map, List.length_take]; omega)
    clear ho
    have hzr := HB.out.size
    by_cases hlt : k < m
    · have hke : k < es.length := by rw [HM.out]; exact hlt
      obtain ⟨be, oe, ce', Ae', me', ce1', row, hve, -, -, hbe, -, hee, hre, xe⟩ := (HO1.out.later hbel).rr.at_ (i := k) hke
      injection hve with e1 e0 e2
      subst e1
      subst e2
      have HT := Lib.hid (show es.take (k + 1) = es.take k ++ [⟨.slice Ae' me' ce1', row⟩] by
        rw [List.take_succ_eq_append_getElem hke, ← dat_eq hke, hee])
      have HCALL := Lib.hid (times9_any F F' (fun b => F' b ∧ b < w.heap.size) (.slice A n c) l (.slice Ae' me' ce1') row wr (HR.out.later HB.out) hre (by rw [HN.out]; exact hn))
      have HRI := Lib.hid (show RI wr (fun b => (F' b ∧ b < w.heap.size) ∧ v.ownBlock ≠ some b) (.slice Ae' me' ce1') row by
        refine hre.mono fun b hb _ => ⟨hb, fun e => ?_⟩
        have := (HO.out.own.lt b e).1
        have := hb.2
        omega)
      have htb := timesR_bound (totR row l)
      obtain ⟨tv, htv⟩ : ∃ t, timesR (totR row l) = t := ⟨_, rfl⟩
      rw [htv] at HCALL htb
      have HTV := Lib.hid htv
      have hst : -9223372036854775808 ≤ sign * tv ∧ sign * tv ≤ 9223372036854775807 ∧ -2199023255552 ≤ sign * tv ∧ sign * tv ≤ 2199023255552 := by
        rcases HSG.out with e | e <;> rw [e] <;> omega
      have hwr := IntWalk.i64_in (sign * tv) ⟨hst.1, hst.2.1⟩
      clear e0 hee hre htv
      go_wp2_with fail
      refine HCALL.out.mono ?_
      rintro e w2 ⟨rfl, hb2⟩
      have HB2 := Lib.hid (HB.out.trans (hb2.mono hzr))
      have HB3 := Lib.hid (hbel.trans (hb2.mono hbel.size))
      have HO2 := Lib.hid (HO.out.later hb2)
      have HRI2 := Lib.hid (HRI.out.later hb2)
      have hz2 := HB2.out.size
      clear hb2 HCALL hbel
      go_wp2_with fail
      refine (within9_any _ _ _ _).mono ?_
      rintro e w3 ⟨rfl, rfl⟩
      by_cases hin : InT (sign * tv)
      · have hd : decide ((-1099511627776 : Int) ≤ sign * tv ∧ sign * tv ≤ 1099511627776) = true := decide_eq_true hin
        have HI2 := Lib.hid (show ∀ e, e ∈ es.take (k + 1) → InT (sign * timesR (totR e.row l)) from fun e he => by
          rw [HT.out] at he
          rcases List.mem_append.1 he with he | he
          · exact HI.out e he
          · rw [List.mem_singleton.1 he]
            show InT (sign * timesR (totR row l))
            rw [HTV.out]
            exact hin)
        have HSN := Lib.hid (show refOut cmpD DE.n setN sign l ((es.map REd).take (k + 1)) = if sign * tv = 0 then refOut cmpD DE.n setN sign l ((es.map REd).take k) else refOut cmpD DE.n setN sign l ((es.map REd).take k) ++ [⟨.slice Ae' me' ce1', row, sign * tv⟩] by
          rw [← List.map_take, ← List.map_take, HT.out, List.map_append, List.map_singleton, refOut_snoc]
          have e : timesR (totR (REd ⟨.slice Ae' me' ce1', row⟩).row l) = tv := HTV.out
          rw [e]
          rfl)
        rw [hd]
        clear hd hin
        have HST := Lib.hid (show I64 (sign * tv) from ⟨hst.1, hst.2.1⟩)
        by_cases hz : sign * tv = 0
        · have hd : (sign * tv != 0) = false := by simp [hz]
          rw [if_pos hz] at HSN
          clear hz hst hwr
          generalize sign * tv = sv at *
          have O3 := Lib.hid (show OwnDs w2 w1.heap.size (fun b => F' b ∧ b < w.heap.size) v (refOut cmpD DE.n setN sign l ((es.map REd).take (k + 1))) by rw [HSN.out]; exact HO2.out)
          go_wp2_with fail
          go_roundw
          case rel => exact ⟨k + 1, _, hlt, rfl, by go_num, O3.out, HI2, HB3.out⟩
          case measure => simp [intOf] <;> omega
        · have hd : (sign * tv != 0) = true := by simp [hz]
          rw [if_neg hz] at HSN
          clear hz hst hwr
          generalize sign * tv = sv at *
          go_wp2_with (at_builtin; refine append_own2 w2 rfl (.tmp 27) (.tmp 31) 23 rfl w1.heap.size 86 underD infoD rfl (by decide) _ _ _ (DE.cells ⟨.slice Ae' me' ce1', row, sv⟩) rfl HO2.out.own rfl rfl (by simp [DE.cells, Value.oneCell']) (by omega) (by decide) HB3.out.size ?_)
          intro v' w4 hown' hb4 hkept
          have O3 := Lib.hid (show OwnDs w4 w1.heap.size (fun b => F' b ∧ b < w.heap.size) v' (refOut cmpD DE.n setN sign l ((es.map REd).take (k + 1))) by
            rw [HSN.out]
            exact HO2.out.add (e := DE.mk (.slice Ae' me' ce1') row sv) hown' hkept ⟨HRI2.out, HST.out⟩)
          have HB5 := Lib.hid (HB3.out.trans hb4)
          clear hown' hb4 hkept
          go_wp2_with fail
          go_roundw
          case rel => exact ⟨k + 1, _, hlt, rfl, by go_num, O3.out, HI2, HB5.out⟩
          case measure => simp [intOf] <;> omega
      · have hd : decide ((-1099511627776 : Int) ≤ sign * tv ∧ sign * tv ≤ 1099511627776) = false := decide_eq_false hin
        have HX := Lib.hid (show ∃ x, x ∈ es.map REd ∧ ¬ InT (sign * timesR (tot cmpD DE.n x l)) from ⟨_, List.mem_map_of_mem (show (RE.mk (.slice Ae' me' ce1') row) ∈ es by
          have h1 : (RE.mk (.slice Ae' me' ce1') row) ∈ es.take (k + 1) := by rw [HT.out]; simp
          exact List.mem_of_mem_take h1), by
          rw [tot_row]
          show ¬ InT (sign * timesR (totR row l))
          rw [HTV.out]
          exact hin⟩)
        rw [hd]
        clear hd hin hst
        go_wp2_with fail
        go_ret2
        exact ⟨HB2.out, _, HD.out, .inl ⟨rfl, HX.out⟩⟩
    · obtain rfl : k = m := by omega
      have htk : es.take k = es := List.take_of_length_le (by rw [HM.out]; omega)
      have htk2 : (es.map REd).take k = es.map REd := List.take_of_length_le (by rw [List.length_map, HM.out]; omega)
      rw [htk] at HI
      rw [htk2] at HO
      go_wp2_with fail
      go_ret2
      exact ⟨HB.out, _, HD.out, .inr ⟨_, rfl, fun x hx => by
        obtain ⟨e, he, rfl⟩ := List.mem_map.1 hx
        rw [tot_row]
        exact HI.out e he, HO.out.base hz1⟩⟩
end Go.Proofs.YthejmnmkbldacaaGreatDoor

namespace Go.Proofs.YthejmnmkbldacaaGreatDoor
open Go.RowKit

/-- the numbers that the reference finds -/
def refNums (all : List DE) (es : List RE) : List DE := es.map fun e => ⟨e.rv, e.row, timesR (totR e.row all)⟩
theorem refNums_take (all : List DE) (es : List RE) {k : Nat} (hk : k < es.length) : refNums all (es.take (k + 1)) = refNums all (es.take k) ++ [⟨(dat es k).rv, (dat es k).row, timesR (totR (dat es k).row all)⟩] := by
  unfold refNums
  rw [List.take_succ_eq_append_getElem hk, List.map_append, ← dat_eq hk]
  rfl
theorem refNums_takeT (all : List DE) (es : List RE) (k : Nat) : refNums all (es.take k) = (refNums all es).take k := by
  unfold refNums
  rw [List.map_take]
theorem refNums_eq (all : List DE) (es : List RE) : refNums all es = (es.map REd).map fun e => setN e (1 * timesR (tot cmpD DE.n e all)) := by
  unfold refNums
  rw [List.map_map]
  refine List.map_congr_left fun e _ => ?_
  simp only [Function.comp, REd, setN, tot_row, Int.one_mul]
theorem msum_sumN (l : List DE) : msum l = sumN DE.n l := by
  induction l with
  | nil => rfl
  | cons d l ih =>
    simp only [msum, List.foldr_cons, sumN] at ih ⊢
    rw [ih]
theorem msum_filter (l : List DE) : msum (l.filter fun d => d.n ≠ 0) = msum l := by
  induction l with
  | nil => rfl
  | cons d l ih =>
    rw [List.filter_cons]
    split
    · simp only [msum, List.foldr_cons] at ih ⊢
      rw [ih]
    · rename_i h
      have : d.n = 0 := by simpa using h
      simp only [msum, List.foldr_cons] at ih ⊢
      rw [ih, this]
      omega
theorem expandD_filter (l : List DE) : expandD (l.filter fun d => d.n ≠ 0) = expandD l := by
  induction l with
  | nil => rfl
  | cons d l ih =>
    rw [List.filter_cons]
    split
    · simp only [expandD, List.flatMap_cons] at ih ⊢
      rw [ih]
    · rename_i h
      have : d.n = 0 := by simpa using h
      simp only [expandD, List.flatMap_cons] at ih ⊢
      rw [ih, this]
      rfl
theorem MOk_filter (m : Int) (l : List DE) : MOk m (l.filter fun d => d.n ≠ 0) ↔ MOk m l := by
  unfold MOk
  rw [msum_filter]
  refine and_congr_left fun _ => ⟨fun h d hd => ?_, fun h d hd => h d (List.mem_filter.1 hd).1⟩
  by_cases hz : d.n = 0
  · omega
  · exact h d (List.mem_filter.2 ⟨hd, by simpa using hz⟩)
theorem SameRows.append {a b c d : List (List VD)} (h1 : SameRows a b) (h2 : SameRows c d) : SameRows (a ++ c) (b ++ d) := by
  refine ⟨by rw [List.length_append, List.length_append, h1.1, h2.1], fun i x1 x2 => ?_⟩
  by_cases hi : i < a.length
  · rw [List.getElem_append_left hi, List.getElem_append_left (by rw [← h1.1]; exact hi)]
    exact h1.2 i hi _
  · rw [List.getElem_append_right (by omega), List.getElem_append_right (by rw [← h1.1]; omega)]
    have := h2.2 (i - a.length) (by rw [List.length_append] at x1; omega) (by rw [List.length_append] at x2; have := h1.1; omega)
    simp only [h1.1] at this ⊢
    exact this
theorem SameRows.replicate {a b : List VD} (h : cmpL a b = 0) (n : Nat) : SameRows (List.replicate n a) (List.replicate n b) :=
  ⟨by simp, fun i h1 h2 => by rw [List.getElem_replicate, List.getElem_replicate]; exact h⟩
theorem Same.msum : ∀ {a b : List DE}, Same cmpD DE.n a b → msum a = msum b
  | [], [], _ => rfl
  | d :: a, e :: b, h => by
    have h1 := Same.msum h.2.2
    have h2 := h.2.1
    simp only [Go.Proofs.YthejmnmkbldacaaGreatDoor.msum, List.foldr_cons] at h1 ⊢
    omega
  | [], _ :: _, h => by cases h
  | _ :: _, [], h => by cases h
theorem Same.nonneg : ∀ {a b : List DE}, Same cmpD DE.n a b → (∀ d, d ∈ a → 0 ≤ d.n) → ∀ d, d ∈ b → 0 ≤ d.n
  | [], [], _, _, _, h => by cases h
  | d :: a, e :: b, h, ha, x, hx => by
    rcases List.mem_cons.1 hx with rfl | hx
    · rw [← h.2.1]; exact ha d (List.mem_cons_self ..)
    · exact Same.nonneg h.2.2 (fun y hy => ha y (List.mem_cons_of_mem _ hy)) x hx
  | [], _ :: _, h, _, _, _ => by cases h
  | _ :: _, [], h, _, _, _ => by cases h
theorem Same.symm : ∀ {a b : List DE}, Same cmpD DE.n a b → Same cmpD DE.n b a
  | [], [], _ => trivial
  | d :: a, e :: b, h => ⟨by have := cmpD_ord.anti d e; have := h.1; omega, h.2.1.symm, Same.symm h.2.2⟩
  | [], _ :: _, h => by cases h
  | _ :: _, [], h => by cases h
theorem Same.mok {a b : List DE} (h : Same cmpD DE.n a b) (m : Int) : MOk m a ↔ MOk m b := by
  unfold MOk
  rw [h.msum]
  exact and_congr_left fun _ => ⟨h.nonneg, h.symm.nonneg⟩
theorem Same.expand : ∀ {a b : List DE}, Same cmpD DE.n a b → SameRows (expandD a) (expandD b)
  | [], [], _ => SameRows.refl _
  | d :: a, e :: b, h => by
    have h1 := Same.expand h.2.2
    have h2 := SameRows.replicate (show cmpL d.row e.row = 0 from h.1) e.n.toNat
    have := h2.append h1
    simp only [expandD, List.flatMap_cons] at this ⊢
    rw [h.2.1]
    exact this
  | [], _ :: _, h => by cases h
  | _ :: _, [], h => by cases h

theorem nums_in {all : List DE} {es : List RE} (h : MOk 100000 (refNums all es)) : ∀ e, e ∈ es.map REd → InT (tot cmpD DE.n e all) := fun e he => by
  rw [refNums_eq] at h
  have hm := List.mem_map_of_mem (f := fun e => setN e (1 * timesR (tot cmpD DE.n e all))) he
  have h1 := h.1 _ hm
  obtain ⟨k, hk, hk2⟩ := List.mem_iff_getElem.1 hm
  have h3 := h.take (k + 1)
  rw [List.take_succ_eq_append_getElem hk, h.take k |>.snoc, hk2] at h3
  have h2 := (h.take k).nonneg
  have h4 : (setN e (1 * timesR (tot cmpD DE.n e all))).n = timesR (tot cmpD DE.n e all) := by show 1 * _ = _; omega
  rw [h4] at h1 h3
  refine timesR_in.1 ?_
  unfold InT
  omega
theorem mok_in {out : List DE} (h : MOk 100000 out) : ∀ x, x ∈ out → InT x.n := fun x hx => by
  have h1 := h.1 x hx
  obtain ⟨k, hk, hk2⟩ := List.mem_iff_getElem.1 hx
  have h3 := h.take (k + 1)
  rw [List.take_succ_eq_append_getElem hk, h.take k |>.snoc, hk2] at h3
  have h2 := (h.take k).nonneg
  unfold InT
  omega
theorem refOut_nums (all : List DE) (es : List RE) : refOut cmpD DE.n setN 1 all (es.map REd) = (refNums all es).filter fun d => d.n ≠ 0 := by
  rw [refNums_eq]
  rfl
/-- both ways refuse alike -/
theorem app_mok {all out : List DE} {es : List RE} (hc : Canon cmpD DE.n setN all out) (h : DiffI cmpD setN all (es.map REd)) : MOk 100000 out ↔ MOk 100000 (refNums all es) := by
  constructor
  · intro ho
    have hs := ref_same cntD h hc ((out_fail cntD h hc).1 (mok_in ho))
    rw [refOut_nums] at hs
    exact (MOk_filter _ _).1 ((hs.mok _).1 ho)
  · intro hr
    have hs := ref_same cntD h hc (nums_in hr)
    rw [refOut_nums] at hs
    exact (hs.mok _).2 ((MOk_filter _ _).2 hr)
/-- and find the same rows -/
theorem app_rows {all out : List DE} {es : List RE} (hc : Canon cmpD DE.n setN all out) (h : DiffI cmpD setN all (es.map REd)) (ho : MOk 100000 out) : SameRows (expandD out) (expandD (refNums all es)) := by
  have hs := ref_same cntD h hc ((out_fail cntD h hc).1 (mok_in ho))
  rw [refOut_nums] at hs
  have := hs.expand
  rwa [expandD_filter] at this
/-- the numbers do not hang on which different rows were found -/
theorem nums_mok {all : List DE} {es es2 : List RE} (h : DiffI cmpD setN all (es.map REd)) (h2 : DiffI cmpD setN all (es2.map REd)) (hm : MOk 100000 (refNums all es)) : MOk 100000 (refNums all es2) := by
  have hi := nums_in hm
  have hi2 : ∀ e, e ∈ es2.map REd → InT (tot cmpD DE.n e all) := fun e he => by
    obtain ⟨d, hd, h1⟩ := h2.mem e he
    obtain ⟨x, hx, hxd⟩ := h.all d hd
    have hxe : cmpD x e = 0 := by rw [h1, cntD.sc]; exact hxd
    rw [← tot_congr cmpD_ord hxe]
    exact hi x hx
  have hs : Same cmpD DE.n (refOut cmpD DE.n setN 1 all (es.map REd)) (refOut cmpD DE.n setN 1 all (es2.map REd)) :=
    same_of_tot cmpD_ord (refOut_strict cntD 1 h) (refOut_strict cntD 1 h2) (fun _ hx => refOut_nz hx) (fun _ hx => refOut_nz hx) fun x => (refOut_tot cntD h hi x).trans (refOut_tot cntD h2 hi2 x).symm
  rw [refOut_nums, refOut_nums] at hs
  exact (MOk_filter _ _).1 ((hs.mok _).1 ((MOk_filter _ _).2 hm))
end Go.Proofs.YthejmnmkbldacaaGreatDoor
