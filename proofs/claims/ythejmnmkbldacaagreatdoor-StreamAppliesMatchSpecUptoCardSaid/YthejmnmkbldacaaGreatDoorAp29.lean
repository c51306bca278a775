/-
  What is proved: the law StreamAppliesMatchSpec answers true. Conditions: the tables of unicode/utf8 lie as they are laid; no more than 2^20 rows, rows and differences are given.
  What is proved: what reads as a list of values, of rows, of operations of a gate lies as these texts say. Conditions: none.
  What is proved: what reads as a list of rows, of operations of a gate lies as these texts say. Conditions: none.
-/
import Derived.Test.YthejmnmkbldacaaGreatDoorAp28
import Derived.Test.YthejmnmkbldacaaGreatDoorAp17
import Derived.Test.YthejmnmkbldacaaGreatDoorRows
import Derived.Deep.Slices
import Derived.Deep.Strs
import Derived.Carry
set_option linter.all false
namespace Go.Proofs.YthejmnmkbldacaaGreatDoor
open Go.RowKit
attribute [local go_sem] Tab.Env.ev Tab.Env.get

/-- what the program's Apply answers, without the world -/
def AppSum (rows : List RE) (l : List DE) (f : Int) (rx : List RE) : Prop :=
  (f = 1 ∧ rx = [] ∧ (rowsSound rows && allSound l) = false) ∨
  (f = 3 ∧ rx = [] ∧ (rowsSound rows && allSound l) = true ∧ SumFail l) ∨
  ((rowsSound rows && allSound l) = true ∧ rangedB l = true ∧ (∃ o1, Canon cmpD DE.n setN l o1 ∧ rangedB o1 = true) ∧ ∃ out, Canon cmpD DE.n setN (onesOf rows ++ l) out ∧
    ((f = 3 ∧ rx = [] ∧ ¬ MOk 100000 out) ∨ (f = 0 ∧ MOk 100000 out ∧ rx.map RE.row = expandD out)))
def RAppSum (rows : List RE) (l : List DE) (f : Int) (ry : List RE) : Prop :=
  (f = 1 ∧ ry = [] ∧ (rowsSound rows && allSound l) = false) ∨
  (f = 3 ∧ ry = [] ∧ (rowsSound rows && allSound l) = true ∧ rangedB l = false) ∨
  (f = 3 ∧ ry = [] ∧ (rowsSound rows && allSound l) = true ∧ ∃ es, DiffI cmpD setN l es ∧ ∃ x, x ∈ es ∧ ¬ InT (1 * timesR (tot cmpD DE.n x l))) ∨
  ((rowsSound rows && allSound l) = true ∧ rangedB l = true ∧ (∃ es, DiffI cmpD setN l es ∧ ∀ x, x ∈ es → InT (1 * timesR (tot cmpD DE.n x l))) ∧ ∃ es, DiffI cmpD setN (onesOf rows ++ l) (es.map REd) ∧
    ((f = 3 ∧ ry = [] ∧ ¬ MOk 100000 (refNums (onesOf rows ++ l) es)) ∨
     (f = 0 ∧ MOk 100000 (refNums (onesOf rows ++ l) es) ∧ ∃ es2, DiffI cmpD setN (onesOf rows ++ l) (es2.map REd) ∧ ry.map RE.row = expandD (refNums (onesOf rows ++ l) es2))))
theorem ApplyPost.sum {rows : List RE} {l : List DE} {w w' : World} {e : Ending} (h : ApplyPost rows l w e w') : Below w.heap.size w w' ∧ ∃ x f rx, e = .returned (.tuple #[x, .int .i64 f]) ∧ RR w' (fun b => w.heap.size ≤ b) (fun b => w.heap.size ≤ b) x rx ∧ AppSum rows l f rx := by
  refine ⟨h.1, ?_⟩
  rcases h.2 with ⟨e, h1⟩ | ⟨e, h1, h2⟩ | ⟨h1, h2, h3, out, h4, (⟨e, h5⟩ | ⟨h5, v', rs, e, h6, h7⟩)⟩
  · exact ⟨_, _, [], e, RR.nil _ _ _, .inl ⟨rfl, rfl, h1⟩⟩
  · exact ⟨_, _, [], e, RR.nil _ _ _, .inr (.inl ⟨rfl, rfl, h1, h2⟩)⟩
  · exact ⟨_, _, [], e, RR.nil _ _ _, .inr (.inr ⟨h1, h2, h3, out, h4, .inl ⟨rfl, rfl, h5⟩⟩)⟩
  · exact ⟨_, _, rs, e, h6, .inr (.inr ⟨h1, h2, h3, out, h4, .inr ⟨rfl, h5, h7⟩⟩)⟩
theorem RApplyPost.sum {rows : List RE} {l : List DE} {w w' : World} {e : Ending} (h : RApplyPost rows l w e w') : Below w.heap.size w w' ∧ ∃ x f rx, e = .returned (.tuple #[x, .int .i64 f]) ∧ RR w' (fun b => w.heap.size ≤ b) (fun _ => True) x rx ∧ RAppSum rows l f rx := by
  refine ⟨h.1, ?_⟩
  rcases h.2 with ⟨e, h1⟩ | ⟨e, h1, h2⟩ | ⟨e, h1, h2⟩ | ⟨h1, h2, h3, es, h4, (⟨e, h5⟩ | ⟨h5, es2, h8, v', rs, e, h6, h7⟩)⟩
  · exact ⟨_, _, [], e, RR.nil _ _ _, .inl ⟨rfl, rfl, h1⟩⟩
  · exact ⟨_, _, [], e, RR.nil _ _ _, .inr (.inl ⟨rfl, rfl, h1, h2⟩)⟩
  · exact ⟨_, _, [], e, RR.nil _ _ _, .inr (.inr (.inl ⟨rfl, rfl, h1, h2⟩))⟩
  · exact ⟨_, _, [], e, RR.nil _ _ _, .inr (.inr (.inr ⟨h1, h2, h3, es, h4, .inl ⟨rfl, rfl, h5⟩⟩))⟩
  · exact ⟨_, _, rs, e, h6, .inr (.inr (.inr ⟨h1, h2, h3, es, h4, .inr ⟨rfl, h5, es2, h8, h7⟩⟩))⟩
theorem ranged_iff (l : List DE) : rangedB l = true ↔ ∀ x, x ∈ l → InT x.n := by
  unfold rangedB
  rw [List.all_eq_true]
  exact ⟨fun h x hx => (timesB_InT _).1 (h x hx), fun h x hx => (timesB_InT _).2 (h x hx)⟩
theorem one_timesR_in {t : Int} : InT (1 * timesR t) ↔ InT t := by rw [Int.one_mul]; exact timesR_in
/-- both answer alike -/
theorem app_agree {rows : List RE} {l : List DE} {f g : Int} {rx ry : List RE} (h : AppSum rows l f rx) (k : RAppSum rows l g ry) : f = g ∧ SameRows (rx.map RE.row) (ry.map RE.row) := by
  have hf : ∀ {es o1 : List DE}, DiffI cmpD setN l es → Canon cmpD DE.n setN l o1 → ((∀ x, x ∈ es → InT (1 * timesR (tot cmpD DE.n x l))) ↔ rangedB o1 = true) := fun hd hc => by
    rw [ranged_iff, out_fail cntD hd hc]
    exact ⟨fun h x hx => one_timesR_in.1 (h x hx), fun h x hx => one_timesR_in.2 (h x hx)⟩
  rcases h with ⟨rfl, rfl, h1⟩ | ⟨rfl, rfl, h1, h2⟩ | ⟨h1, h2, ⟨o1, h3, h4⟩, out, h5, h6⟩
  · rcases k with ⟨rfl, rfl, k1⟩ | ⟨rfl, rfl, k1, k2⟩ | ⟨rfl, rfl, k1, k2⟩ | ⟨k1, _⟩
    · exact ⟨rfl, SameRows.refl _⟩
    · rw [h1] at k1; cases k1
    · rw [h1] at k1; cases k1
    · rw [h1] at k1; cases k1
  · rcases k with ⟨rfl, rfl, k1⟩ | ⟨rfl, rfl, k1, k2⟩ | ⟨rfl, rfl, k1, k2⟩ | ⟨k1, k2, ⟨es, k3, k4⟩, _⟩
    · rw [h1] at k1; cases k1
    · exact ⟨rfl, SameRows.refl _⟩
    · exact ⟨rfl, SameRows.refl _⟩
    · rcases h2 with h2 | ⟨o1, h3, h4⟩
      · rw [h2] at k2; cases k2
      · rw [(hf k3 h3).1 k4] at h4; cases h4
  · rcases k with ⟨rfl, rfl, k1⟩ | ⟨rfl, rfl, k1, k2⟩ | ⟨rfl, rfl, k1, es, k2, x, k3, k4⟩ | ⟨k1, k2, _, es, k5, k6⟩
    · rw [h1] at k1; cases k1
    · rw [h2] at k2; cases k2
    · exact absurd ((hf k2 h3).2 h4 x k3) k4
    · have hm := app_mok h5 k5
      rcases h6 with ⟨rfl, rfl, h6⟩ | ⟨rfl, h6, h7⟩
      · rcases k6 with ⟨rfl, rfl, k6⟩ | ⟨rfl, k6, _⟩
        · exact ⟨rfl, SameRows.refl _⟩
        · exact absurd (hm.2 k6) h6
      · rcases k6 with ⟨rfl, rfl, k6⟩ | ⟨rfl, k6, es2, k7, k8⟩
        · exact absurd (hm.1 h6) k6
        · rw [h7, k8]
          exact ⟨rfl, app_rows h5 k7 h6⟩
/-- what lies between leads back -/
theorem app_back {a b : List RE} {o l' : List DE} {f : Int} {rx rs : List RE} (ho : Canon cmpD DE.n setN (btwD a b) o) (hs : SameD o l') (h : AppSum a l' f rx) (ha : a.length < 2097152) (hb : b.length ≤ 100000) (sa : rowsSound a = true) (sb : rowsSound b = true)
    (hp : (rs.map RE.row).Perm (b.map RE.row)) (hso : SortedR rs) : SameRows (rx.map RE.row) (rs.map RE.row) := by
  have hsn : (rowsSound a && allSound l') = true := by rw [sa, back_sound ho hs sa sb]; rfl
  rcases h with ⟨_, _, h1⟩ | ⟨_, _, _, h2⟩ | ⟨_, _, _, out, h5, (⟨_, _, h6⟩ | ⟨_, h6, h7⟩)⟩
  · rw [hsn] at h1; cases h1
  · exact absurd h2 (back_ranged ho hs ha (by omega))
  · exact absurd (back_ok ho hs h5 hb) h6
  · rw [h7]
    exact back_rows ho hs h5 hb hp hso
theorem app_back0 {a b : List RE} {o l' : List DE} {f : Int} {rx : List RE} (ho : Canon cmpD DE.n setN (btwD a b) o) (hs : SameD o l') (h : AppSum a l' f rx) (ha : a.length < 2097152) (hb : b.length ≤ 100000) (sa : rowsSound a = true) (sb : rowsSound b = true) : f = 0 := by
  have hsn : (rowsSound a && allSound l') = true := by rw [sa, back_sound ho hs sa sb]; rfl
  rcases h with ⟨_, _, h1⟩ | ⟨_, _, _, h2⟩ | ⟨_, _, _, out, h5, (⟨_, _, h6⟩ | ⟨h0, h6, h7⟩)⟩
  · rw [hsn] at h1; cases h1
  · exact absurd h2 (back_ranged ho hs ha (by omega))
  · exact absurd (back_ok ho hs h5 hb) h6
  · exact h0

set_option maxHeartbeats 4000000 in
set_option maxRecDepth 100000 in
theorem alaw_any (Ga Ga' Gb Gb' F F' : Nat → Prop) (va vb v : Value) (a b : List RE) (l : List DE) (w : World) (ha : RR w Ga Ga' va a) (hb : RR w Gb Gb' vb b) (hl : RD w F F' v l) (hT : Tabs w) (hna : a.length ≤ 1048576) (hnb : b.length ≤ 1048576) (hnl : l.length ≤ 1048576) (hsa : SmR a) (hsb : SmR b) (hsl : SmD l) :
    Calls Tryz.prog 3 #[va, vb, v] w fun e w' => e = .returned (.bool true) ∧ Below w.heap.size w w' := by
  have HA := Lib.hid ha
  have HBB := Lib.hid hb
  have HL := Lib.hid hl
  have HT := Lib.hid hT
  have HSA := Lib.hid hsa
  have HSB := Lib.hid hsb
  have HC1 := Lib.hid (apply_any F F' Ga Ga' va v a l w ha hl (by omega) (by omega) hsa hsl hT)
  have HC2 := Lib.hid (fun W (hW : Below w.heap.size w W) => applyR_any F F' Ga Ga' va v a l W (ha.later hW) (hl.later hW) (by omega) (by omega) (hT.later hW))
  have HC3 := Lib.hid (fun W (hW : Below w.heap.size w W) => between_any Ga Ga' Gb Gb' va vb a b W (ha.later hW) (hb.later hW) (by omega) (by omega) hsa hsb)
  have HC4 := Lib.hid (fun W (hW : Below w.heap.size w W) => betweenR_any Ga Ga' Gb Gb' va vb a b W (ha.later hW) (hb.later hW) (by omega) (by omega))
  obtain ⟨_, Aa, ca, rfl, hca, hma, _⟩ := ha.sl
  obtain ⟨_, Ab, cb, rfl, hcb, hmb, _⟩ := hb.sl
  obtain ⟨Al, cl, rfl, hcl, hml⟩ := rd_shape hl
  unfold maxLen at hma hmb hml
  clear ha hb hl hT hsa hsb hsl
  go_enter Tryz.func3, Tryz.ntmps3
  go_wp2_with fail
  refine HC1.out.mono ?_
  rintro e w1 hp
  obtain ⟨hb1, x, f, rx, rfl, hrx, hsum⟩ := hp.sum
  have HB1 := Lib.hid hb1
  have HRX := Lib.hid hrx
  have HS1 := Lib.hid hsum
  have HC := Lib.hid (HC2.out w1 hb1)
  clear hp hb1 hrx hsum HC1 HC2
  go_wp2_with fail
  refine HC.out.mono ?_
  rintro e w2 hp
  obtain ⟨hb2, y, g, ry, rfl, hry, hsum⟩ := hp.sum
  obtain ⟨e1, hsr⟩ := app_agree HS1.out hsum
  subst e1
  have HB2 := Lib.hid (HB1.out.trans (hb2.mono HB1.out.size))
  have HRX2 := Lib.hid (HRX.out.later hb2)
  have HRY2 := Lib.hid hry
  have HSR := Lib.hid hsr
  have HC := Lib.hid (HC3.out w2 HB2.out)
  clear hp hb2 hry hsum hsr HC3 HRX HS1
  go_wp2_with fail
  refine HC.out.mono ?_
  rintro e w3 ⟨d, o, l', rfl, hca3, hsd, hrd, hb3⟩
  have HB3 := Lib.hid (HB2.out.trans (hb3.mono HB2.out.size))
  have HRX3 := Lib.hid (HRX2.out.later hb3)
  have HRY3 := Lib.hid (HRY2.out.later hb3)
  have HCA := Lib.hid hca3
  have HSD := Lib.hid hsd
  have HRD := Lib.hid hrd
  have HC := Lib.hid (sums_any w3 (HT.out.later HB3.out))
  clear hca3 hsd hrd hb3 HRX2 HRY2
  go_wp2_with fail
  refine HC.out.mono ?_
  rintro e w4 ⟨rfl, hb4⟩
  have HB4 := Lib.hid (HB3.out.trans (hb4.mono HB3.out.size))
  have HRD4 := Lib.hid (HRD.out.later hb4)
  have HC := Lib.hid (rowsLaw_any _ _ _ _ x y rx ry w4 (HRX3.out.later hb4) (HRY3.out.later hb4) HSR.out)
  clear hb4 HRX3 HRY3 HRD
  go_wp2_with fail
  refine HC.out.mono ?_
  rintro e w5 ⟨rfl, hb5⟩
  have HB5 := Lib.hid (HB4.out.trans (hb5.mono HB4.out.size))
  have HRD5 := Lib.hid (HRD4.out.later hb5)
  have HC := Lib.hid (HC4.out w5 HB5.out)
  clear hb5 HRD4 HC4 HSR
  go_wp2_with fail
  refine HC.out.mono ?_
  rintro e w6 ⟨v6, es, rfl, hdi, hrd6, hb6⟩
  have HB6 := Lib.hid (HB5.out.trans (hb6.mono HB5.out.size))
  have HRD6 := Lib.hid (HRD5.out.later hb6)
  have HC := Lib.hid (deltasLaw_any _ _ _ _ d v6 l' _ w6 HRD6.out hrd6 (SameDs.copy HSD.out (SameDs.of_same (ref_same cntD hdi HCA.out (fun e _ => by
    have := btw_in a b (by omega) (by omega) e
    unfold InT
    omega)))))
  clear hdi hrd6 hb6 HRD5
  go_wp2_with fail
  refine HC.out.mono ?_
  rintro e w7 ⟨rfl, hb7⟩
  have HB7 := Lib.hid (HB6.out.trans (hb7.mono HB6.out.size))
  have HRD7 := Lib.hid (HRD6.out.later hb7)
  clear hb7 HRD6
  have HO := Lib.hid (World.ownsRow_lit (base := w7.heap.size) (e := 31) (size := 1) w7 #[] 0 (Nat.le_refl _) (Nat.zero_le _) (by rfl))
  have hbn := below_new w7 (.cells #[] 31)
  have HBN := Lib.hid (HB7.out.trans (hbn.mono HB7.out.size))
  have HBN7 := Lib.hid hbn
  have HA8 := Lib.hid (HA.out.later HBN.out)
  have HOA := Lib.hid (show ∀ u, u ∈ a.map RE.rv → u.oneCell' = true from fun u hu => by
    obtain ⟨e, he, rfl⟩ := List.mem_map.1 hu
    obtain ⟨A9, c9, _, _, e9, _⟩ := (HA.out.good e he).shape
    rw [e9]; rfl)
  have HOB := Lib.hid (show ∀ u, u ∈ b.map RE.rv → u.oneCell' = true from fun u hu => by
    obtain ⟨e, he, rfl⟩ := List.mem_map.1 hu
    obtain ⟨A9, c9, _, _, e9, _⟩ := (HBB.out.good e he).shape
    rw [e9]; rfl)
  have hz7 := hbn.size
  have hol0 : 0 + a.length < 1073741824 := by omega
  have hol1 : a.length + b.length < 1073741824 := by omega
  clear hbn
  go_wp2_with (at_builtin; refine append_sl (w7.alloc (.cells #[] 31)) rfl (.tmp 53) (.tmp 54) 22 rfl w7.heap.size 31 underR infoR rfl (by decide) _ 0 [] (a.map RE.rv) rfl HO.out _ _ a.length rfl HA8.out.sl HOA.out hol0 (by decide) hz7 ?_)
  intro v8 w8 hown8 hb8
  have HO8 := Lib.hid hown8
  have HB8 := Lib.hid (HBN.out.trans (hb8.mono HB7.out.size))
  have HB78 := Lib.hid (HBN7.out.trans hb8)
  have HB98 := Lib.hid (HBB.out.later HB8.out)
  have hz8 := HB78.out.size
  clear hown8 hb8
  go_wp2_with (at_builtin; refine append_sl w8 rfl (.tmp 55) (.tmp 56) 22 rfl w7.heap.size 31 underR infoR rfl (by decide) _ _ _ (b.map RE.rv) rfl HO8.out _ _ b.length rfl HB98.out.sl HOB.out hol1 (by decide) hz8 ?_)
  intro v9 w9 hown9 hb9
  have HB9 := Lib.hid (HB8.out.trans (hb9.mono HB7.out.size))
  have HB79 := Lib.hid (HB78.out.trans hb9)
  have HRR9 := Lib.hid (show RR w9 (fun b => w7.heap.size ≤ b) (fun b => Ga' b ∨ Gb' b) v9 (a ++ b) from ⟨by
      have := SL.of_own hown9
      rw [List.length_append, List.map_append]
      exact this, fun e he => by
      rcases List.mem_append.1 he with he | he
      · exact ((HA.out.good e he).later HB9.out).mono fun _ h _ => .inl h
      · exact ((HBB.out.good e he).later HB9.out).mono fun _ h _ => .inr h⟩)
  have HRD9 := Lib.hid (HRD7.out.later HB79.out)
  clear hown9 hb9 HRD7 HO HBN HBN7 HA8 HOA HOB HO8 HB8 HB78 HB98 HB79 HB1 HB2 HB3 HB4 HB5 HB6 hz7 hz8 hol0
  have halen : (a ++ b).length = a.length + b.length := List.length_append
  generalize hall : a ++ b = all at *
  have HALL := Lib.hid hall
  have hrr := HRR9.out
  obtain ⟨_, A9, c9, e9, hc9, hm9, _⟩ := hrr.sl
  subst e9
  unfold maxLen at hm9
  obtain ⟨n, hln⟩ : ∃ n, all.length = n := ⟨_, rfl⟩
  have HN := Lib.hid hln
  rw [hln] at hc9 HRR9 ⊢
  clear hall hrr hln halen
  have hz9 := HB9.out.size
  go_wp2_with fail
  go_loopw [6, 13, 15, 59] (fun _ _ _ i wr => ∃ k : Nat, k ≤ n ∧ i = .int .i64 k ∧ Hid (∀ j, j < k → rowSound (dat all j).row = true) ∧ Below w9.heap.size w9 wr) (fun _ _ _ i _ => n - (intOf i).toNat)
  case atStart => exact ⟨0, Nat.zero_le _, rfl, Lib.hid fun j h => absurd h (Nat.not_lt_zero j), Below.refl _ _⟩
  case round =>
    obtain ⟨k, hk, rfl, HJ, hbel⟩ := hrel
    have HB := Lib.hid (HB9.out.trans (hbel.mono hz9))
    have HBK := Lib.hid hbel
    by_cases hlt : k < n
    · as_aux_lemma =>
      have hkl : k < all.length := by rw [HN.out]; exact hlt
      obtain ⟨bb, off, c', A1, m1, c1, row, hv, -, -, hbb, -, he, hri, q⟩ := (HRR9.out.later hbel).at_ (i := k) hkl
      injection hv with e1 e0 e2
      subst e1
      subst e2
      have HJN := Lib.hid (fun (h : rowSound row = true) => (show ∀ j, j < k + 1 → rowSound (dat all j).row = true from fun j hj => by
        by_cases hjk : j < k
        · exact HJ.out j hjk
        · obtain rfl : j = k := by omega
          rw [he]
          exact h))
      have HRI := Lib.hid hri
      clear he hri hbel e0
      obtain ⟨A2, c2, iA, iC, er, hc2, hm2, hs2, hw2, hr2⟩ := HRI.out.shape
      injection er with er1 er2 er3
      subst er1
      subst er3
      have HS := Lib.hid hs2
      have HW := Lib.hid hw2
      have HR2 := Lib.hid hr2
      clear hs2 hw2 hr2
      unfold maxLen at hm2
      obtain ⟨m, hmm⟩ : ∃ m, row.length = m := ⟨_, rfl⟩
      have HM := Lib.hid hmm
      rw [hmm] at hc2 er2
      clear hmm
      subst er2
      have hzr := HB.out.size
      go_wp2_with fail
      go_loopw [6, 15, 65] (fun _ _ i wi => ∃ j : Nat, j ≤ m1 ∧ i = .int .i64 j ∧ Hid (∀ p, p < j → soundB (dat row p) = true) ∧ Below wr.heap.size wr wi) (fun _ _ i _ => m1 - (intOf i).toNat)
      case atStart => exact ⟨0, Nat.zero_le _, rfl, Lib.hid fun j h => absurd h (Nat.not_lt_zero j), Below.refl _ _⟩
      case round =>
        obtain ⟨j, hj, rfl, HP, hbi⟩ := hrel
        have HBI := Lib.hid (HB.out.trans (hbi.mono hzr))
        have HBI9 := Lib.hid (HBK.out.trans (hbi.mono HBK.out.size))
        have HBX := Lib.hid hbi
        by_cases hlt2 : j < m1
        · as_aux_lemma =>
          have hjl : j < row.length := by rw [HM.out]; exact hlt2
          obtain ⟨b2, off2, rfl, hF2, hb2, hcells⟩ := HS.out (by omega)
          have q := (hcells j hjl).keep (hbi.block b2 hb2)
          obtain ⟨q1, q2, q3, q4, q5⟩ := q
          have HY := Lib.hid ((HR2.out j hjl).later hbi)
          have HYW := Lib.hid (HW.out j hjl)
          rw [at_dat] at q1 q2 q3 q4 q5 HY HYW
          have HPN := Lib.hid (fun (h : soundB (dat row j) = true) => (show ∀ p, p < j + 1 → soundB (dat row p) = true from fun p hp => by
            by_cases hpj : p < j
            · exact HP.out p hpj
            · obtain rfl : p = j := by omega
              exact h))
          have hb2' : b2 < wr.heap.size := Nat.lt_of_lt_of_le hb2 hbi.size
          clear hcells hb2
          generalize dat row j = y at *
          have HCALL := Lib.hid (fun W (hW : Below wr.heap.size wr W) => SoundR_any y _ (.agg #[.int .i64 y.k, .int .i64 y.n, .int .i64 y.sc, .string y.s, .slice (iA j) y.items.length (iC j)]) W ⟨_, _, rfl, HYW.out, HY.out.later hW⟩ (HT.out.later (HBI.out.trans (hW.mono HBI.out.size))))
          clear hbi
          go_wp2_with fail
          have hbn := below_new wr (.cells #[.int .i64 y.k, .int .i64 y.n, .int .i64 y.sc, .string y.s, .slice (iA j) y.items.length (iC j)] 33)
          have HB1 := Lib.hid (HBI.out.trans (hbn.mono HBI.out.size))
          have HBJ := Lib.hid hbn
          clear hbn
          refine (HCALL.out _ HBJ.out).mono ?_
          rintro e w1 ⟨rfl, hb1⟩
          have HB2 := Lib.hid (HB1.out.trans (hb1.mono HB1.out.size))
          have HB29 := Lib.hid (HBJ.out.trans (hb1.mono HBJ.out.size))
          clear hb1 HCALL
          cases hs : soundB y with
          | true =>
            have HP2 := Lib.hid (HPN.out hs)
            clear hs HPN
            go_wp2_with fail
            go_roundw
            case rel => exact ⟨j + 1, hlt2, by go_num, HP2, HBX.out.trans (HB29.out.mono HBX.out.size)⟩
            case measure => simp [intOf] <;> omega
          | false =>
            clear hs HPN
            go_wp2_with fail
            go_ret
            exact ⟨rfl, HB2.out⟩
        · as_aux_lemma =>
          obtain rfl : j = m1 := by omega
          have HJ2 := Lib.hid (HJN.out (show rowSound row = true from all_every soundB row (fun p hp => HP.out p (by rw [HM.out] at hp; exact hp))))
          go_wp2_with fail
          go_roundw
          case rel => exact ⟨k + 1, hlt, by go_num, HJ2, HBI9.out⟩
          case measure => simp [intOf] <;> omega
    · as_aux_lemma =>
      obtain rfl : k = n := by omega
      have hall := all_every (fun d : RE => rowSound d.row) all (fun j hj => HJ.out j (by rw [HN.out] at hj; exact hj))
      rw [← HALL.out, List.all_append, Bool.and_eq_true] at hall
      have HSOA := Lib.hid (show rowsSound a = true from hall.1)
      have HSOB := Lib.hid (show rowsSound b = true from hall.2)
      clear hall
      have hzr := HB.out.size
      by_cases hbig : (100000 : Int) < b.length
      · go_wp2_with fail
        go_ret
        exact ⟨rfl, HB.out⟩
      · have hb100 : b.length ≤ 100000 := by omega
        have hll : l'.length < 2097152 := by
          rw [HSD.out.len]
          have := HCA.out.len
          rw [btw_len] at this
          omega
        have HSML := Lib.hid (show SmD l' from fun e he => by
          obtain ⟨e2, he2, h2⟩ := HSD.out.rows e he
          rw [h2]
          exact (HCA.out.sm ((HSA.out.of (-1)).append HSB.out.ones)) e2 he2)
        have hrd := HRD9.out.later hbel
        obtain ⟨Ad, cd, ed, hcd, hmd⟩ := rd_shape hrd
        subst ed
        have HC := Lib.hid (apply_any _ _ Ga Ga' _ _ a l' wr (HA.out.later HB.out) hrd (by omega) hll HSA.out HSML.out (HT.out.later HB.out))
        clear hrd hbel
        go_wp2_with fail
        refine HC.out.mono ?_
        rintro e wA hp
        obtain ⟨hbA, x2, f2, rx2, rfl, hrx2, hsum2⟩ := hp.sum
        have hf0 := app_back0 HCA.out HSD.out hsum2 (by omega) hb100 HSOA.out HSOB.out
        subst hf0
        have HBA := Lib.hid (HB.out.trans (hbA.mono hzr))
        have HRX2 := Lib.hid hrx2
        have HSUM2 := Lib.hid hsum2
        have HC := Lib.hid (sortRows_any _ _ _ b wA (HBB.out.later HBA.out) (by omega) HSB.out)
        clear hp hbA hrx2 hsum2
        go_wp2_with fail
        refine HC.out.mono ?_
        rintro e wB ⟨v2, rs, rfl, hrs, hpm, hso, hbB⟩
        have HBB2 := Lib.hid (HBA.out.trans (hbB.mono HBA.out.size))
        have HC := Lib.hid (rowsLaw_any _ _ _ _ x2 v2 rx2 rs wB (HRX2.out.later hbB) hrs (app_back HCA.out HSD.out HSUM2.out (by omega) hb100 HSOA.out HSOB.out hpm hso))
        clear hrs hpm hso hbB
        go_wp2_with fail
        refine HC.out.mono ?_
        rintro e wC ⟨rfl, hbC⟩
        have HBC := Lib.hid (HBB2.out.trans (hbC.mono HBB2.out.size))
        clear hbC
        go_wp2_with fail
        go_ret
        exact ⟨rfl, HBC.out⟩
end Go.Proofs.YthejmnmkbldacaaGreatDoor

namespace Go.Proofs.YthejmnmkbldacaaGreatDoor
open Go.RowKit Go.Deep

/-- the types and places of a struct's fields -/
def fieldsOf (P : Program) (t : TypeId) : Option (List (TypeId × Nat)) :=
  match P.underlying t with
  | some (.struct fs) => some (fs.toList.map fun f => (f.type, f.offset))
  | _ => none
section
variable {H : Type} {enc : TypeId × Value → H} {P : Program} {w : World} {base : Nat} {spare : Nat → Bool} {held : Bool}
theorem trod_fields {t : TypeId} {l : List (TypeId × Nat)} {fuel : Nat} {cs : List Value} {x : DataW H × List MemPlace} (hf : fieldsOf P t = some l) (h : DataW.trod enc P w base spare held fuel t cs = some x) :
    ∃ (xs : List (DataW H × List MemPlace)) (n : Nat), fuel = n + 1 ∧ x = (.agg (xs.map (·.1)), xs.flatMap (·.2)) ∧ cs.length = P.cellsOf t ∧ xs.length = l.length ∧
      ∀ (i : Nat) (t' : TypeId) (o : Nat), l[i]? = some (t', o) → DataW.trod enc P w base spare held n t' ((cs.drop o).take (P.cellsOf t')) = xs[i]? := by
  unfold fieldsOf at hf
  split at hf
  · rename_i fs hu
    injection hf with hf
    obtain ⟨xs, n, h1, h2, h3, h4, h5⟩ := DataW.trod_struct hu h
    refine ⟨xs, n, h1, h2, h3, by rw [h4, ← hf]; simp, fun i t' o hi => ?_⟩
    rw [← hf, List.getElem?_map, Option.map_eq_some_iff] at hi
    obtain ⟨f, hf1, hf2⟩ := hi
    injection hf2 with e1 e2
    subst e1
    subst e2
    exact h5 i f (by rw [← Array.getElem?_toList]; exact hf1)
  · cases hf
end
theorem uInt : Tryz.prog.underlying 3 = some (.int .i64) := by kernel_rfl
theorem uStr : Tryz.prog.underlying 9 = some .string := by kernel_rfl
theorem cInt : Tryz.prog.cellsOf 3 = 1 := by kernel_rfl
theorem cStr : Tryz.prog.cellsOf 9 = 1 := by kernel_rfl
theorem cSlV : Tryz.prog.cellsOf 31 = 1 := by kernel_rfl
theorem cSlR : Tryz.prog.cellsOf 22 = 1 := by kernel_rfl
theorem cVal : Tryz.prog.cellsOf 33 = 5 := by kernel_rfl
theorem fVal : fieldsOf Tryz.prog 33 = some [(3, 0), (3, 1), (3, 2), (9, 3), (31, 4)] := by kernel_rfl
theorem cOp : Tryz.prog.cellsOf 45 = 3 := by kernel_rfl
theorem fOp : fieldsOf Tryz.prog 45 = some [(3, 0), (3, 1), (22, 2)] := by kernel_rfl
theorem uOps : Tryz.prog.underlying 37 = some (.slice 45) := by kernel_rfl

theorem i64_of_wf {n : Int} (h : (Lit.int .i64 n).wf = true) : I64 n := by
  unfold Lit.wf at h
  rw [Bool.and_eq_true] at h
  exact ⟨of_decide_eq_true h.1, of_decide_eq_true h.2⟩

section
variable {H : Type} {enc : TypeId × Value → H} {w : World} {spare : Nat → Bool} {held : Bool}
/-- a value's cells -/
theorem five {α : Type} {l : List α} (h : l.length = 5) : ∃ a b c d e, l = [a, b, c, d, e] := by
  match l, h with
  | [a, b, c, d, e], _ => exact ⟨a, b, c, d, e, rfl⟩
theorem three {α : Type} {l : List α} (h : l.length = 3) : ∃ a b c, l = [a, b, c] := by
  match l, h with
  | [a, b, c], _ => exact ⟨a, b, c, rfl⟩
theorem open_value {fuel : Nat} {cs : List Value} {x : DataW H × List MemPlace} (h : DataW.trod enc Tryz.prog w 0 spare held fuel 33 cs = some x) :
    ∃ (k n sc : Int) (s : ByteArray) (iv : Value) (y : DataW H × List MemPlace) (m : Nat), fuel = m + 1 ∧ cs = [.int .i64 k, .int .i64 n, .int .i64 sc, .string s, iv] ∧ I64 k ∧ I64 n ∧ I64 sc ∧ s.size ≤ maxLen ∧
      DataW.trod enc Tryz.prog w 0 spare held m 31 [iv] = some y ∧ Rows.uptoBulk y.1 ≤ Rows.uptoBulk x.1 := by
  obtain ⟨xs, m, rfl, rfl, hl, hxl, hf⟩ := trod_fields fVal h
  rw [cVal] at hl
  obtain ⟨x0, x1, x2, x3, x4, rfl⟩ := five hxl
  obtain ⟨c0, c1, c2, c3, c4, rfl⟩ := five hl
  have f0 := hf 0 _ _ rfl
  have f1 := hf 1 _ _ rfl
  have f2 := hf 2 _ _ rfl
  have f3 := hf 3 _ _ rfl
  have f4 := hf 4 _ _ rfl
  rw [cInt] at f0 f1 f2
  rw [cStr] at f3
  rw [cSlV] at f4
  obtain ⟨k, e0, _, w0⟩ := DataW.trod_int uInt f0
  obtain ⟨n, e1, _, w1⟩ := DataW.trod_int uInt f1
  obtain ⟨sc, e2, _, w2⟩ := DataW.trod_int uInt f2
  obtain ⟨s, e3, _, w3⟩ := DataW.trod_string uStr f3
  simp at e0 e1 e2 e3
  subst e0 e1 e2 e3
  refine ⟨k, n, sc, s, c4, x4, m, rfl, rfl, i64_of_wf w0, i64_of_wf w1, i64_of_wf w2, w3, f4, ?_⟩
  simp only [List.map_cons, List.map_nil, Rows.uptoBulk, Rows.uptoBulkAll]
  omega

theorem bulk_part {d : DataW H} {l : List (DataW H)} (h : d ∈ l) : Rows.uptoBulk d ≤ Rows.uptoBulkAll l := by
  induction l with
  | nil => cases h
  | cons x r ih =>
    simp only [Rows.uptoBulkAll]
    cases List.mem_cons.1 h with
    | inl e => subst e; omega
    | inr e => have := ih e; omega
theorem bulk_one (d : DataW H) : 1 ≤ Rows.uptoBulk d := by
  cases d with
  | lit l => cases l <;> simp [Rows.uptoBulk]
  | nil => simp [Rows.uptoBulk]
  | ptr d => simp [Rows.uptoBulk]
  | slice elems spare => simp [Rows.uptoBulk]
  | agg parts => simp [Rows.uptoBulk]
  | iface t d => simp [Rows.uptoBulk]
  | map entries => simp [Rows.uptoBulk]
  | held h => simp [Rows.uptoBulk]
theorem bulk_len (l : List (DataW H)) : l.length ≤ Rows.uptoBulkAll l := by
  induction l with
  | nil => simp [Rows.uptoBulkAll]
  | cons x r ih => have := bulk_one x; simp only [Rows.uptoBulkAll, List.length_cons]; omega

/-- a slice's elements, with their cells -/
theorem open_elems {t e : TypeId} {c : Nat} (ht : Tryz.prog.underlying t = some (.slice e)) (hc : Tryz.prog.cellsOf e = c) {fuel : Nat} {cs : List Value} {x : DataW H × List MemPlace} (h : DataW.trod enc Tryz.prog w 0 spare held fuel t cs = some x) :
    cs = [.slice none 0 0] ∨ ∃ (a : Addr) (len cap : Nat) (elems : List (DataW H × List MemPlace)) (n : Nat), fuel = n + 1 ∧ cs = [.slice (some a) len cap] ∧ len ≤ cap ∧ cap ≤ maxLen ∧ elems.length = len ∧ Rows.uptoBulkAll (elems.map (·.1)) + 1 ≤ Rows.uptoBulk x.1 ∧
      ∀ i, i < len → ∃ cs' y, elems[i]? = some y ∧ cs'.length = c ∧ (∀ j, j < c → w.cell? (a.add (i * c + j)) = cs'[j]?) ∧ DataW.trod enc Tryz.prog w 0 spare held n e cs' = some y := by
  rcases DataW.trod_slice ht h with ⟨h0, _⟩ | ⟨a, len, cap, elems, rest, n, rfl, rfl, rfl, _, hl, hm, hlen, hel, _, _⟩
  · exact .inl h0
  right
  refine ⟨a, len, cap, elems, n, rfl, rfl, hl, hm, hlen, by simp only [Rows.uptoBulk]; omega, fun i hi => ?_⟩
  have key := hel i hi
  rw [List.getElem?_eq_getElem (by omega)] at key
  obtain ⟨cs', h1, h2⟩ := Option.bind_eq_some_iff.1 key
  obtain ⟨_, h3, h4⟩ := World.cells?_some h1
  rw [hc] at h3 h4
  exact ⟨cs', elems[i], List.getElem?_eq_getElem (by omega), h3, fun j hj => by rw [← h4 j hj, add_add], h2⟩

theorem lt_of_cell {a : Addr} {v : Value} (h : w.cell? a = some v) : a.block < w.heap.size := by
  unfold World.cell? at h
  cases hh : w.heap[a.block]? with
  | none => rw [hh] at h; simp at h
  | some o => exact (Array.getElem?_eq_some_iff.1 hh).1

theorem addr_spot {a : Addr} {v : Value} (h : w.cell? (a.add 0) = some v) : a.spot = none ∧ a.block < w.heap.size := by
  rw [show a.add 0 = a by simp [Addr.add]] at h
  exact ⟨World.cell?_spot h, lt_of_cell h⟩
theorem addr_add {a : Addr} (h : a.spot = none) (k j : Nat) : a.add (k + j) = ⟨a.block, a.off + k + j, none⟩ := by
  obtain ⟨b, o, sp⟩ := a
  simp only at h
  subst h
  unfold Addr.add
  split
  · simp only [Addr.mk.injEq, and_true, true_and]
    omega
  · simp only [Addr.mk.injEq, and_true, true_and]
    omega
theorem smL_of : ∀ {l : List VD}, (∀ y, y ∈ l → smV y) → smL l
  | [], _ => trivial
  | a :: l, h => ⟨h a (by simp), smL_of fun y hy => h y (List.mem_cons_of_mem _ hy)⟩

/-- what reads as a list of values -/
theorem open_row : ∀ (fuel : Nat) (cs : List Value) (x : DataW H × List MemPlace), DataW.trod enc Tryz.prog w 0 spare held fuel 31 cs = some x →
    ∃ (v : Value) (l : List VD), cs = [v] ∧ RI w (fun b => b < w.heap.size) v l ∧ (Rows.uptoBulk x.1 ≤ 1048576 → l.length < 1073741824 ∧ ∀ y, y ∈ l → smV y) := by
  intro fuel
  induction fuel using Nat.strongRecOn with
  | _ fuel ih =>
    intro cs x h
    rcases open_elems underV cVal h with rfl | ⟨a, len, cap, elems, n, rfl, rfl, hl, hm, hlen, hbulk, hel⟩
    · exact ⟨_, [], rfl, RI.nil _ _, fun _ => ⟨by simp, fun y hy => by cases hy⟩⟩
    · have hspot : 0 < len → a.spot = none ∧ a.block < w.heap.size := fun h0 => by
        obtain ⟨cs', y, hy, hcl, hcell, ht⟩ := hel 0 h0
        obtain ⟨k, nn, sc, s, iv, z, m, rfl, rfl, _⟩ := open_value ht
        have c0 := hcell 0 (by omega)
        rw [Nat.zero_mul, Nat.zero_add] at c0
        exact addr_spot c0
      have hx : ∀ i, i < len → ∃ p : VD × Option Addr × Nat, CellsV w a.block (a.off + i * 5) p.1 p.2.1 p.2.2 ∧ (a.spot = none ∧ a.block < w.heap.size) ∧ p.1.ok ∧ RI w (fun b => b < w.heap.size) (.slice p.2.1 p.1.items.length p.2.2) p.1.items ∧ (Rows.uptoBulk x.1 ≤ 1048576 → smV p.1) := by
        intro i hi
        obtain ⟨cs', y, hy, hcl, hcell, ht⟩ := hel i hi
        obtain ⟨k, nn, sc, s, iv, z, m, rfl, rfl, ok0, ok1, ok2, ok3, hz, hbz⟩ := open_value ht
        obtain ⟨v, li, e, hri, hsm⟩ := ih m (by omega) _ _ hz
        injection e with e
        subst e
        obtain ⟨A, c, _, _, e, _⟩ := hri.shape
        subst e
        obtain ⟨hsp, hlt⟩ := hspot (by omega)
        have hadd := addr_add hsp (i * 5)
        refine ⟨(.mk k nn sc s li, A, c), ⟨?_, ?_, ?_, ?_, ?_⟩, ⟨hsp, hlt⟩, ⟨ok0, ok1, ok2, ok3⟩, hri, fun hb => ?_⟩
        · exact (congrArg w.cell? (hadd 0)).symm.trans (hcell 0 (by omega))
        · exact (congrArg w.cell? (hadd 1)).symm.trans (hcell 1 (by omega))
        · exact (congrArg w.cell? (hadd 2)).symm.trans (hcell 2 (by omega))
        · exact (congrArg w.cell? (hadd 3)).symm.trans (hcell 3 (by omega))
        · exact (congrArg w.cell? (hadd 4)).symm.trans (hcell 4 (by omega))
        · have h1 : Rows.uptoBulk y.1 ≤ Rows.uptoBulkAll (elems.map (·.1)) := bulk_part (List.mem_map.2 ⟨y, List.mem_of_getElem? hy, rfl⟩)
          have := hsm (by omega)
          exact ⟨this.1, smL_of this.2⟩
      obtain ⟨f, hf⟩ := choose_lt (α := VD × Option Addr × Nat) hx
      have hat : ∀ i, i < len → at_ ((List.range len).map fun i => (f i).1) i = (f i).1 := fun i hi => by
        unfold at_
        rw [List.getD_eq_getElem?_getD]
        simp [hi]
      have hll : ((List.range len).map fun i => (f i).1).length = len := by simp
      refine ⟨_, (List.range len).map fun i => (f i).1, rfl, ?_, fun hb => ⟨?_, fun y hy => ?_⟩⟩
      · have := RI.mk (w := w) (F := fun b => b < w.heap.size) (some a) cap ((List.range len).map fun i => (f i).1) (fun i => (f i).2.1) (fun i => (f i).2.2) (by rw [hll]; exact hl) hm ?_ ?_ ?_
        · rw [hll] at this
          exact this
        · intro hpos
          rw [hll] at hpos
          obtain ⟨_, ⟨hsp, hlt⟩, _⟩ := hf 0 hpos
          refine ⟨a.block, a.off, by obtain ⟨b, o, sp⟩ := a; simp only at hsp; subst hsp; rfl, hlt, hlt, fun i hi => ?_⟩
          rw [hll] at hi
          rw [hat i hi]
          exact (hf i hi).1
        · intro i hi
          rw [hll] at hi
          rw [hat i hi]
          exact (hf i hi).2.2.1
        · intro i hi
          rw [hll] at hi
          rw [hat i hi]
          exact (hf i hi).2.2.2.1
      · have := bulk_len (elems.map (·.1))
        rw [List.length_map] at this
        rw [hll]
        omega
      · obtain ⟨i, hi, rfl⟩ := List.mem_map.1 hy
        exact (hf i (List.mem_range.1 hi)).2.2.2.2 hb
end
end Go.Proofs.YthejmnmkbldacaaGreatDoor

namespace Go.Proofs.YthejmnmkbldacaaGreatDoor
open Go.RowKit Go.Deep

/-- an operation of a gate, as it lies in memory -/
structure OpE where
  kind : Int
  src : Int
  rv : Value
  rows : List RE
instance : Inhabited OpE := ⟨⟨0, 0, undef, []⟩⟩
/-- no list in the rows is long -/
def smR (l : List RE) : Prop := ∀ e, e ∈ l → e.row.length < 1073741824 ∧ ∀ x, x ∈ e.row → smV x
structure OpsI (w : World) (v : Value) (l : List OpE) : Prop where
  shape : ∃ A c, v = .slice A l.length c ∧ l.length ≤ c ∧ c ≤ maxLen ∧ ∀ i, i < l.length → ∃ b off, A = some ⟨b, off, none⟩ ∧ b < w.heap.size ∧
    w.cell? ⟨b, off + i * 3, none⟩ = some (.int .i64 (dat l i).kind) ∧ w.cell? ⟨b, off + i * 3 + 1, none⟩ = some (.int .i64 (dat l i).src) ∧ w.cell? ⟨b, off + i * 3 + 2, none⟩ = some (dat l i).rv
  rows : ∀ o, o ∈ l → RR w (fun b => b < w.heap.size) (fun b => b < w.heap.size) o.rv o.rows
/-- how many rows there are -/
def rowsIn (l : List OpE) : Nat := (l.map fun o => o.rows.length).sum

section
variable {H : Type} {enc : TypeId × Value → H} {w : World} {spare : Nat → Bool} {held : Bool}
theorem dat_range {α : Type} [Inhabited α] (f : Nat → α) (len : Nat) {i : Nat} (hi : i < len) : dat ((List.range len).map f) i = f i := by
  unfold dat
  rw [List.getD_eq_getElem?_getD]
  simp [hi]
theorem bulk_sum : ∀ (xs : List (DataW H)) (g : Nat → Nat), (∀ i (h : i < xs.length), g i ≤ Rows.uptoBulk xs[i]) → ((List.range xs.length).map g).sum ≤ Rows.uptoBulkAll xs
  | [], _, _ => by simp
  | x :: xs, g, h => by
    have h0 := h 0 (by simp)
    have h1 := bulk_sum xs (fun i => g (i + 1)) (fun i hi => h (i + 1) (by simpa using hi))
    rw [List.length_cons, List.range_succ_eq_map, List.map_cons, List.sum_cons, List.map_map]
    simp only [Rows.uptoBulkAll]
    simp only [List.getElem_cons_zero] at h0
    have : (List.map (g ∘ Nat.succ) (List.range xs.length)).sum = ((List.range xs.length).map fun i => g (i + 1)).sum := rfl
    omega

/-- what reads as a list of rows -/
theorem open_rows {fuel : Nat} {cs : List Value} {x : DataW H × List MemPlace} (h : DataW.trod enc Tryz.prog w 0 spare held fuel 22 cs = some x) :
    ∃ (v : Value) (l : List RE), cs = [v] ∧ RR w (fun b => b < w.heap.size) (fun b => b < w.heap.size) v l ∧ l.length ≤ Rows.uptoBulk x.1 ∧ (Rows.uptoBulk x.1 ≤ 1048576 → smR l) := by
  rcases open_elems underR cSlV h with rfl | ⟨a, len, cap, elems, n, rfl, rfl, hl, hm, hlen, hbulk, hel⟩
  · exact ⟨_, [], rfl, RR.nil _ _ _, Nat.zero_le _, fun _ e he => by cases he⟩
  · have hspot : 0 < len → a.spot = none ∧ a.block < w.heap.size := fun h0 => by
      obtain ⟨cs', y, hy, hcl, hcell, ht⟩ := hel 0 h0
      obtain ⟨v, li, rfl, _⟩ := open_row _ _ _ ht
      have c0 := hcell 0 (by omega)
      rw [Nat.zero_mul, Nat.zero_add] at c0
      exact addr_spot c0
    have hx : ∀ i, i < len → ∃ e : RE, w.cell? ⟨a.block, a.off + i, none⟩ = some e.rv ∧ RI w (fun b => b < w.heap.size) e.rv e.row ∧ (Rows.uptoBulk x.1 ≤ 1048576 → e.row.length < 1073741824 ∧ ∀ x, x ∈ e.row → smV x) := by
      intro i hi
      obtain ⟨cs', y, hy, hcl, hcell, ht⟩ := hel i hi
      obtain ⟨v, li, rfl, hri, hsm⟩ := open_row _ _ _ ht
      obtain ⟨hsp, hlt⟩ := hspot (by omega)
      refine ⟨⟨v, li⟩, ?_, hri, fun hb => ?_⟩
      · have := (congrArg w.cell? (addr_add hsp (i * 1) 0)).symm.trans (hcell 0 (by omega))
        simpa using this
      · have h1 : Rows.uptoBulk y.1 ≤ Rows.uptoBulkAll (elems.map (·.1)) := bulk_part (List.mem_map.2 ⟨y, List.mem_of_getElem? hy, rfl⟩)
        exact hsm (by omega)
    obtain ⟨f, hf⟩ := choose_lt (α := RE) hx
    have hll : ((List.range len).map f).length = len := by simp
    refine ⟨_, (List.range len).map f, rfl, ⟨⟨by simp, some a, cap, by rw [hll], by rw [hll]; exact hl, hm, fun h0 => ?_⟩, fun e he => ?_⟩, ?_, fun hb e he => ?_⟩
    · rw [hll] at h0
      obtain ⟨hsp, hlt⟩ := hspot h0
      refine ⟨a.block, a.off, by obtain ⟨b, o, sp⟩ := a; simp only at hsp; subst hsp; rfl, hlt, hlt, fun j u hj => ?_⟩
      rw [List.map_map, List.getElem?_map, Option.map_eq_some_iff] at hj
      obtain ⟨i, hi, rfl⟩ := hj
      obtain ⟨h1, h2⟩ := List.getElem?_eq_some_iff.1 hi
      simp at h1 h2
      subst h2
      exact (hf j h1).1
    · obtain ⟨i, hi, rfl⟩ := List.mem_map.1 he
      exact (hf i (List.mem_range.1 hi)).2.1
    · have := bulk_len (elems.map (·.1))
      rw [List.length_map] at this
      rw [hll]
      omega
    · obtain ⟨i, hi, rfl⟩ := List.mem_map.1 he
      exact (hf i (List.mem_range.1 hi)).2.2 hb

/-- what reads as a list of operations -/
theorem open_ops {fuel : Nat} {cs : List Value} {x : DataW H × List MemPlace} (h : DataW.trod enc Tryz.prog w 0 spare held fuel 37 cs = some x) :
    ∃ (v : Value) (l : List OpE), cs = [v] ∧ OpsI w v l ∧ rowsIn l ≤ Rows.uptoBulk x.1 ∧ (Rows.uptoBulk x.1 ≤ 1048576 → ∀ o, o ∈ l → smR o.rows) ∧ (∀ o, o ∈ l → I64 o.kind ∧ I64 o.src) ∧ l.length ≤ Rows.uptoBulk x.1 := by
  rcases open_elems uOps cOp h with rfl | ⟨a, len, cap, elems, n, rfl, rfl, hl, hm, hlen, hbulk, hel⟩
  · exact ⟨_, [], rfl, ⟨⟨none, 0, rfl, Nat.le_refl _, Nat.zero_le _, fun i hi => absurd hi (Nat.not_lt_zero i)⟩, fun o ho => (List.not_mem_nil ho).elim⟩, Nat.zero_le _, fun _ o ho => (List.not_mem_nil ho).elim, fun o ho => (List.not_mem_nil ho).elim, Nat.zero_le _⟩
  · have hval : ∀ {n : Nat} {cs : List Value} {y : DataW H × List MemPlace}, DataW.trod enc Tryz.prog w 0 spare held n 45 cs = some y → ∃ (k s : Int) (rv : Value) (l : List RE), cs = [.int .i64 k, .int .i64 s, rv] ∧ I64 k ∧ I64 s ∧
        RR w (fun b => b < w.heap.size) (fun b => b < w.heap.size) rv l ∧ l.length ≤ Rows.uptoBulk y.1 ∧ (Rows.uptoBulk y.1 ≤ 1048576 → smR l) := by
      intro n cs y hy
      obtain ⟨xs, m, rfl, rfl, hl, hxl, hf⟩ := trod_fields fOp hy
      rw [cOp] at hl
      obtain ⟨x0, x1, x2, rfl⟩ := three hxl
      obtain ⟨c0, c1, c2, rfl⟩ := three hl
      have f0 := hf 0 _ _ rfl
      have f1 := hf 1 _ _ rfl
      have f2 := hf 2 _ _ rfl
      rw [cInt] at f0 f1
      rw [cSlR] at f2
      obtain ⟨k, e0, _, w0⟩ := DataW.trod_int uInt f0
      obtain ⟨s, e1, _, w1⟩ := DataW.trod_int uInt f1
      obtain ⟨rv, l, e2, hrr, hll, hsm⟩ := open_rows f2
      simp at e0 e1 e2
      subst e0 e1 e2
      have hb : Rows.uptoBulk x2.1 ≤ Rows.uptoBulk (DataW.agg (List.map (fun x => x.1) [x0, x1, x2])) := by
        simp only [List.map_cons, List.map_nil, Rows.uptoBulk, Rows.uptoBulkAll]
        omega
      exact ⟨k, s, c2, l, rfl, i64_of_wf w0, i64_of_wf w1, hrr, Nat.le_trans hll hb, fun h => hsm (Nat.le_trans hb h)⟩
    have hspot : 0 < len → a.spot = none ∧ a.block < w.heap.size := fun h0 => by
      obtain ⟨cs', y, hy, hcl, hcell, ht⟩ := hel 0 h0
      obtain ⟨k, s, rv, li, rfl, _⟩ := hval ht
      have c0 := hcell 0 (by omega)
      rw [Nat.zero_mul, Nat.zero_add] at c0
      exact addr_spot c0
    have hx : ∀ i, i < len → ∃ o : OpE, (w.cell? ⟨a.block, a.off + i * 3, none⟩ = some (.int .i64 o.kind) ∧ w.cell? ⟨a.block, a.off + i * 3 + 1, none⟩ = some (.int .i64 o.src) ∧ w.cell? ⟨a.block, a.off + i * 3 + 2, none⟩ = some o.rv) ∧ RR w (fun b => b < w.heap.size) (fun b => b < w.heap.size) o.rv o.rows ∧
        (∀ h : i < (elems.map (·.1)).length, o.rows.length ≤ Rows.uptoBulk (elems.map (·.1))[i]) ∧ (Rows.uptoBulk x.1 ≤ 1048576 → smR o.rows) ∧ I64 o.kind ∧ I64 o.src := by
      intro i hi
      obtain ⟨cs', y, hy, hcl, hcell, ht⟩ := hel i hi
      obtain ⟨k, s, rv, li, rfl, ok0, ok1, hrr, hll, hsm⟩ := hval ht
      obtain ⟨hsp, hlt⟩ := hspot (by omega)
      have hadd := addr_add hsp (i * 3)
      refine ⟨⟨k, s, rv, li⟩, ⟨(congrArg w.cell? (hadd 0)).symm.trans (hcell 0 (by omega)), (congrArg w.cell? (hadd 1)).symm.trans (hcell 1 (by omega)), (congrArg w.cell? (hadd 2)).symm.trans (hcell 2 (by omega))⟩, hrr, fun h => ?_, fun hb => ?_, ok0, ok1⟩
      · have : (elems.map (·.1))[i]? = some y.1 := by rw [List.getElem?_map, hy]; rfl
        rw [Option.some.inj ((List.getElem?_eq_getElem h).symm.trans this)]
        exact hll
      · have h1 : Rows.uptoBulk y.1 ≤ Rows.uptoBulkAll (elems.map (·.1)) := bulk_part (List.mem_map.2 ⟨y, List.mem_of_getElem? hy, rfl⟩)
        exact hsm (by omega)
    obtain ⟨f, hf⟩ := choose_lt (α := OpE) hx
    have hll : ((List.range len).map f).length = len := by simp
    refine ⟨_, (List.range len).map f, rfl, ⟨⟨some a, cap, by rw [hll], by rw [hll]; exact hl, hm, fun i hi => ?_⟩, fun o ho => ?_⟩, ?_, fun hb o ho => ?_, fun o ho => ?_, ?_⟩
    · rw [hll] at hi
      obtain ⟨hsp, hlt⟩ := hspot (by omega)
      rw [dat_range f len hi]
      exact ⟨a.block, a.off, by obtain ⟨b, o, sp⟩ := a; simp only at hsp; subst hsp; rfl, hlt, (hf i hi).1⟩
    · obtain ⟨i, hi, rfl⟩ := List.mem_map.1 ho
      exact (hf i (List.mem_range.1 hi)).2.1
    · have := bulk_sum (elems.map (·.1)) (fun i => (f i).rows.length) (fun i hi => (hf i (by simpa [hlen] using hi)).2.2.1 hi)
      rw [List.length_map, hlen] at this
      have e : rowsIn ((List.range len).map f) = ((List.range len).map fun i => (f i).rows.length).sum := by
        unfold rowsIn
        rw [List.map_map]
        rfl
      omega
    · obtain ⟨i, hi, rfl⟩ := List.mem_map.1 ho
      exact (hf i (List.mem_range.1 hi)).2.2.2.1 hb
    · obtain ⟨i, hi, rfl⟩ := List.mem_map.1 ho
      exact (hf i (List.mem_range.1 hi)).2.2.2.2
    · have := bulk_len (elems.map (·.1))
      rw [List.length_map] at this
      rw [hll]
      omega
end
end Go.Proofs.YthejmnmkbldacaaGreatDoor
