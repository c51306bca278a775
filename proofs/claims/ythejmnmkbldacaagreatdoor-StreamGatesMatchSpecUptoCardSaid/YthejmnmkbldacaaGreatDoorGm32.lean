/-
  What is proved: the law of gates that match answers true. Conditions: the tables of unicode/utf8 lie as they are laid; no more than 2^20 rows are offered.
-/
import Derived.Test.YthejmnmkbldacaaGreatDoorGm31
set_option linter.all false
namespace Go.Proofs.YthejmnmkbldacaaGreatDoor
open Go.RowKit
theorem wcell3g {w : World} {g : Nat} {t : TypeId} {a b c : Value} (h : Blk w g t [a, b, c]) : w.cell? ⟨g, 0, none⟩ = some a ∧ w.cell? ⟨g, 1, none⟩ = some b ∧ w.cell? ⟨g, 2, none⟩ = some c := ⟨h.cell 0, h.cell 1, h.cell 2⟩
theorem cfIdle : ∀ (args : Array Value) (w : World), (callFunc 22 args).run Tryz.prog w = .ok (.enter 22 args) w := fun _ _ => by simp [go_sem]
theorem cfIdleR : ∀ (args : Array Value) (w : World), (callFunc 23 args).run Tryz.prog w = .ok (.enter 23 args) w := fun _ _ => by simp [go_sem]
attribute [local go_sem] Tab.Env.ev Tab.Env.get

theorem opsI_later {w w' : World} {v : Value} {l : List OpE} (h : OpsI w v l) (hb : Below w.heap.size w w') : OpsI w' v l := by
  obtain ⟨A, c, e, h1, h2, h3⟩ := h.shape
  refine ⟨⟨A, c, e, h1, h2, fun i hi => ?_⟩, fun o ho => ((h.rows o ho).later hb).mono (fun b hb' _ => Nat.lt_of_lt_of_le hb' hb.size) (fun b hb' _ => Nat.lt_of_lt_of_le hb' hb.size)⟩
  obtain ⟨b, off, e, hlt, c0, c1, c2⟩ := h3 i hi
  have k : ∀ j, w'.cell? ⟨b, j, none⟩ = w.cell? ⟨b, j, none⟩ := fun j => World.cell?_of_block (w := w) (a := ⟨b, j, none⟩) (hb.block b hlt)
  exact ⟨b, off, e, Nat.lt_of_lt_of_le hlt hb.size, (k _).trans c0, (k _).trans c1, (k _).trans c2⟩

/-- where the law's loop stands -/
def GInv (w : World) (base g s cap ns : Nat) (g' : Nat) (mv iv : Value) (cnt : Nat) (wr : World) : Prop :=
  ∃ D vw ws vw' ws', GG wr base g s cap ns D vw ws g' D mv iv vw' ws' ∧ rowsD ws = rowsD ws' ∧ ws.length ≤ cnt ∧ Tab.Ext (fun b => base ≤ b) w wr

set_option maxHeartbeats 4000000 in
set_option maxRecDepth 100000 in
theorem glaw_any (sources column delay : Int) (v : Value) (l : List OpE) (w : World) (hc : I64 column) (hl : OpsI w v l) (hT : Tabs w) (hTb : 0 < w.heap.size ∧ 1 < w.heap.size)
    (hn : rowsIn l ≤ 1048576) (hsm : ∀ o, o ∈ l → smR o.rows) :
    Calls Tryz.prog 4 #[.int .i64 sources, .int .i64 column, .int .i64 delay, v] w fun e w' => e = .returned (.bool true) ∧ Below w.heap.size w w' := by
  have HT := Lib.hid hT
  have HL := Lib.hid hl
  have HSM := Lib.hid hsm
  have HTB := Lib.hid hTb
  have HNR := Lib.hid hn
  obtain ⟨A, c, rfl, hc1, hc2, hcells⟩ := hl.shape
  unfold maxLen at hc2
  have HCE := Lib.hid hcells
  obtain ⟨n, hln⟩ : ∃ n, l.length = n := ⟨_, rfl⟩
  have HN := Lib.hid hln
  rw [hln] at hc1 ⊢
  have HNG := Lib.hid (fun W => newGate_any sources column delay hc W)
  have HNGR := Lib.hid (fun W => newGateR_any sources column delay hc W)
  clear hT hl hsm hTb hn hln hcells
  go_enter Tryz.func4, Tryz.ntmps4
  go_wp2_with fail
  refine (HNG.out _).mono ?_
  rintro e w1 ⟨hb1, (⟨hno, rfl⟩ | ⟨hok, g, s, cap, rfl, hgm⟩)⟩
  · have HB1 := Lib.hid hb1
    have HNO := Lib.hid hno
    clear hno hb1
    go_wp2_with fail
    refine (HNGR.out _).mono ?_
    rintro e w2 ⟨hb2, (⟨_, rfl⟩ | ⟨hok, _⟩)⟩
    · have HB2 := Lib.hid (HB1.out.trans (hb2.mono HB1.out.size))
      clear hb2
      go_wp2_with fail
      refine (sums_any _ (HT.out.later HB2.out)).mono ?_
      rintro e w3 ⟨rfl, hb3⟩
      have HB3 := Lib.hid (HB2.out.trans (hb3.mono HB2.out.size))
      clear hb3
      go_wp2_with fail
      go_ret
      exact ⟨rfl, HB3.out⟩
    · exact absurd hok HNO.out
  · have HB1 := Lib.hid hb1
    have HGM := Lib.hid hgm
    have HOK := Lib.hid hok
    clear hb1 hgm
    obtain ⟨cn, rfl⟩ : ∃ cn : Nat, column = cn := ⟨column.toNat, by have := hok.2.1; omega⟩
    clear hok
    go_wp2_with fail
    refine (HNGR.out _).mono ?_
    rintro e w2 ⟨hb2, (⟨hno, _⟩ | ⟨_, g', mv, iv, rfl, hgr⟩)⟩
    · exact absurd HOK.out hno
    · have HB2 := Lib.hid (HB1.out.trans (hb2.mono HB1.out.size))
      have HX1 := Lib.hid (HGM.out.keep (hb2.block g HGM.out.blk.lt) (hb2.block s HGM.out.bs.2))
      have HY1 := Lib.hid (hgr.base (b := w.heap.size) HB1.out.size)
      clear hb2 hgr
      go_wp2_with fail
      refine (sums_any _ (HT.out.later HB2.out)).mono ?_
      rintro e w3 ⟨rfl, hb3⟩
      have HB3 := Lib.hid (HB2.out.trans (hb3.mono HB2.out.size))
      have HINV := Lib.hid (show GInv w w.heap.size g s cap sources.toNat g' mv iv 0 w3 from
        ⟨newD sources cn delay, .slice none 0 0, [], .slice none 0 0, [],
          ⟨⟨HX1.out.keep (hb3.block g HX1.out.blk.lt) (hb3.block s HX1.out.bs.2), World.ownsRow_nil _ _ _ _, World.ownsRow_nil _ _ _ _, fun _ _ => by simp [Value.ownBlock], fun e he => by rcases he with he | he <;> exact absurd he (by simp), fun e he => absurd he (by simp)⟩,
            ⟨HY1.out.later hb3, World.ownsRow_nil _ _ _ _, World.ownsRow_nil _ _ _ _, fun _ _ => by simp [Value.ownBlock], fun e he => by rcases he with he | he <;> exact absurd he (by simp), fun e he => absurd he (by simp)⟩, fun _ _ => by simp [Value.ownBlock], fun e he => absurd he (by simp)⟩, rfl, Nat.le_refl _, Tab.Ext.of_below HB3.out⟩)
      clear hb3
      go_wp2_with fail
      go_loopw [8, 14, 15, 16, 17, 18, 44] (fun _ _ _ _ _ _ j wr => ∃ k : Nat, k ≤ n ∧ j = .int .i64 k ∧ GInv w w.heap.size g s cap sources.toNat g' mv iv (rowsIn (l.take k)) wr) (fun _ _ _ _ _ _ j _ => n - (intOf j).toNat)
      case atStart => exact ⟨0, Nat.zero_le _, rfl, HINV.out⟩
      case round =>
        obtain ⟨k, hk, rfl, D, vw, ws, vw', ws', hgg, hrows, hcnt, hext⟩ := hrel
        have HG := Lib.hid hgg
        have HR := Lib.hid hrows
        have HX := Lib.hid hext
        have HCNT := Lib.hid hcnt
        have hcb : ws.length ≤ 1048576 := Nat.le_trans hcnt (Nat.le_trans (rowsIn_le l k) HNR.out)
        have hlw : ws'.length = ws.length := by have := congrArg List.length hrows; rw [rowsD_len, rowsD_len] at this; exact this.symm
        clear hgg hrows hcnt
        by_cases hlt : k < n
        · as_aux_lemma =>
          have hbel := below_ext hext
          have hki : k < l.length := by rw [HN.out]; exact hlt
          obtain ⟨b, off, rfl, hb, c0, c1, c2⟩ := HCE.out k hki
          have kk : ∀ j, wr.cell? ⟨b, j, none⟩ = w.cell? ⟨b, j, none⟩ := fun j => World.cell?_of_block (w := w) (a := ⟨b, j, none⟩) (hbel.block b hb)
          have HRW := Lib.hid (HL.out.rows (dat l k) (dat_mem hki))
          have HSR := Lib.hid (HSM.out (dat l k) (dat_mem hki))
          have HTK := Lib.hid (rowsIn_take l hki)
          have hcap := rowsIn_le l (k + 1)
          have hcap2 := HNR.out
          generalize dat l k = o at *
          obtain ⟨kd, sr, rv, rows⟩ := o
          simp only at c0 c1 c2 HRW HSR HTK
          have htk := HTK.out
          have hcnt := HCNT.out
          have HRB := Lib.hid (show ws.length + rows.length ≤ 1048576 by omega)
          have HCN1 := Lib.hid (show ws.length ≤ rowsIn (l.take (k + 1)) by omega)
          have HCN2 := Lib.hid (show ws.length + rows.length ≤ rowsIn (l.take (k + 1)) by omega)
          clear hcap hcap2 htk hcnt
          obtain ⟨_, A2, c2', e2, hm1, hm2, _⟩ := HRW.out.sl
          subst e2
          unfold maxLen at hm2
          rw [← kk] at c0 c1 c2
          clear kk
          have hz : w.heap.size ≤ wr.heap.size := hbel.size
          clear hext hbel
          have HZ := Lib.hid hz
          have bo := Blk.new wr 45 [.int .i64 kd, .int .i64 sr, .slice A2 rows.length c2']
          have hbn := below_new wr (.cells #[.int .i64 kd, .int .i64 sr, .slice A2 rows.length c2'] 45)
          have HG0 := Lib.hid (HG.out.later hbn)
          have HX0 := Lib.hid (HX.out.trans (Tab.Ext.of_below hbn))
          have hzm : ∀ b, Mut g s vw (.slice none 0 0) b ∨ RMut g' mv iv vw' b → b < wr.heap.size := fun b hm => hm.elim (fun h => (mut_base HG.out.x b h).2) fun h => (HG.out.y.mut b h).2
          clear hbn
          have hsl : D.srcs.length = sources.toNat := HG.out.x.gm.len
          have HSL := Lib.hid hsl
          clear hsl
          by_cases h0 : kd = 0
          · as_aux_lemma =>
            subst h0
            go_wp2_with fail
            change Calls _ _ _ (wr.alloc (.cells #[.int .i64 0, .int .i64 sr, .slice A2 rows.length c2'] 45)) _
            generalize wr.alloc (.cells #[.int .i64 0, .int .i64 sr, .slice A2 rows.length c2'] 45) = W0 at *
            generalize wr.heap.size = z at *
            have HBO := Lib.hid bo
            have HZM := Lib.hid hzm
            have hz0 : w.heap.size ≤ W0.heap.size := HX0.out.size
            have HBL0 := Lib.hid (below_ext HX0.out)
            clear bo hzm c0 c1 c2
            have HOF := Lib.hid (offer_any W0 w.heap.size g s cap sources.toNat D vw ws HG0.out.x (HT.out.later HBL0.out) HTB.out hz0 _ _ (.slice A2 rows.length c2') rows (HRW.out.later HBL0.out) (fun b h => h) (fun b h => h) (by have := HRB.out; omega) HSR.out sr)
            refine HOF.out.mono ?_
            rintro e W2 hpost
            obtain ⟨hx2, va, la, vw2, wsn, rfl, hra, hrla, hS2, hwsn, hnw, hnr⟩ := offer_sum hpost HSL.out
            have HG2 := Lib.hid (HG0.out.stepX hx2 hS2 hnw (fun e he => (List.mem_append.1 he).elim .inl fun h => .inr (hnr e (.inl h))) hz0)
            have HX2 := Lib.hid (HX0.out.trans (hx2.mono fun b _ hm => (mut_base HG0.out.x b hm).1))
            have HBL2 := Lib.hid (below_ext HX2.out)
            have HRA := Lib.hid hra
            have HRLA := Lib.hid hrla
            have HWSN := Lib.hid hwsn
            have q2 := wcell3g (HBO.out.ext hx2 (fun hm => absurd (HZM.out z (.inl hm)) (Nat.lt_irrefl _)))
            have HBO2 := Lib.hid (HBO.out.ext hx2 (fun hm => absurd (HZM.out z (.inl hm)) (Nat.lt_irrefl _)))
            have hz2 : w.heap.size ≤ W2.heap.size := HX2.out.size
            obtain ⟨_, Aa, ca, ea, ha1, ha2, _⟩ := hra.sl
            subst ea
            clear hpost hx2 hra hrla hS2 hwsn hnw hnr HOF
            go_wp2_with fail
            have HOR := Lib.hid (offerR_any W2 w.heap.size g' D mv iv vw' ws' HG2.out.y (HT.out.later HBL2.out) hz2 (.slice A2 rows.length c2') rows (HRW.out.later HBL2.out) (by have := HRB.out; omega) sr)
            refine HOR.out.mono ?_
            rintro e W3 hpost
            obtain ⟨hx3, vb, lb, vw3, wsm, rfl, hrb, hrlb, hS3, hwsm, hnw⟩ := offerR_sum hpost
            have HG3 := Lib.hid (HG2.out.stepY hx3 hS3 hnw)
            have HX3 := Lib.hid (HX2.out.trans (hx3.mono fun b _ hm => (HG2.out.y.mut b hm).1))
            have HRA3 := Lib.hid (HRA.out.ext hx3 (fun b hb hm => by have := HZM.out b (.inr hm); have := HBO.out.lt; omega) (fun b hb hm => by have := HZM.out b (.inr hm); have := HBO.out.lt; omega))
            have HRB3 := Lib.hid hrb
            have HSAME := Lib.hid (show SameRows (la.map RE.row) (lb.map RE.row) by
              rw [show la.map RE.row = lb.map RE.row from HRLA.out.trans hrlb.symm]
              exact SameRows.refl _)
            have HROWS := Lib.hid (show rowsD (ws ++ wsn) = rowsD (ws' ++ wsm) by
              have h1 : rowsD ws = rowsD ws' := HR.out
              have h2 : rowsD wsn = rowsD wsm := HWSN.out.trans hwsm.symm
              unfold rowsD at h1 h2 ⊢
              rw [List.map_append, List.map_append, h1, h2])
            have HLEN := Lib.hid (show (ws ++ wsn).length ≤ rowsIn (l.take (k + 1)) by
              have h1 := congrArg List.length HWSN.out
              have h2 := offRes_len D sr (rowsD rows)
              rw [rowsD_len] at h1 h2
              have := HCN2.out
              rw [List.length_append]
              omega)
            obtain ⟨_, Ab, cb, eb, hb1, hb2, _⟩ := hrb.sl
            subst eb
            have HLAW := Lib.hid (rowsLaw_any _ _ _ _ _ _ la lb W3 HRA3.out HRB3.out HSAME.out)
            clear hpost hx3 hrb hrlb hS3 hwsm hnw HOR q2
            generalize offRes D sr (rowsD rows) = R at *
            obtain ⟨fv, R2⟩ := R
            go_wp2_with fail
            refine HLAW.out.mono ?_
            rintro e W4 ⟨rfl, hb4⟩
            have HG9 := Lib.hid (HG3.out.later hb4)
            have HI9 := Lib.hid (show GInv w w.heap.size g s cap sources.toNat g' mv iv (rowsIn (l.take (k + 1))) W4 from ⟨_, _, _, _, _, HG9.out, HROWS.out, HLEN.out, HX3.out.trans (Tab.Ext.of_below hb4)⟩)
            clear hb4
            go_wp2_with fail
            refine (mark_any _ _ _ _ _ _ _ _ HG9.out.x.gm).mono ?_
            rintro e W8 ⟨rfl, rfl⟩
            go_wp2_with fail
            refine (markR_any _ _ _ _ _ _ _ HG9.out.y.gm).mono ?_
            rintro e W9 ⟨rfl, rfl⟩
            go_wp2_with fail
            go_roundw
            case rel => exact ⟨k + 1, hlt, by go_num, HI9.out⟩
            case measure => simp [intOf] <;> omega
          · by_cases h1 : kd = 1
            · as_aux_lemma =>
              subst h1
              clear h0
              go_wp2_with fail
              generalize hW0 : wr.alloc (.cells #[.int .i64 1, .int .i64 sr, .slice A2 rows.length c2'] 45) = W0 at *
              clear hW0
              generalize wr.heap.size = z at *
              have hz0 : w.heap.size ≤ W0.heap.size := HX0.out.size
              have HBO := Lib.hid bo
              have HZM := Lib.hid hzm
              clear bo hzm c0 c1 c2
              obtain ⟨iv0, hiv0⟩ : ∃ x, idleVal D sr = x := ⟨_, rfl⟩
              obtain ⟨D2, hD2⟩ : ∃ x, idleRes D sr = x := ⟨_, rfl⟩
              have HIV := Lib.hid hiv0
              have HD2 := Lib.hid hD2
              have HCOL := Lib.hid (show D2.column = D.column by rw [← hD2]; exact idleRes_column D sr)
              clear hiv0 hD2
              refine Tab.wp_region_tabC (Tab.Ext fun b => w.heap.size ≤ b) (Tab.stage2C 3 7 fun b1 b2 W => GG W w.heap.size g s cap sources.toNat (if b1 = true then D2 else D) vw ws g' (if b2 = true then D2 else D) mv iv vw' ws' ∧ Blk W z 45 [.int .i64 1, .int .i64 sr, .slice A2 rows.length c2']) (by kernel_rfl) (by kernel_rfl) (fun _ => Tab.Ext.refl _ _) (fun _ _ _ h k => h.trans k) (Tab.stage2C_start ⟨HG0.out.later ⟨rfl, rfl, rfl, Nat.le_refl _, fun _ _ => rfl⟩, HBO.out.drew⟩) ?_
              iterate 2 (first | (refine Tab.tab_moveE _ rfl (Tab.silent_at2 (by decide)) (.inl rfl) rfl rfl (fun _ => Tab.Ext.refl _ _) ?_; apply Exists.intro; refine And.intro ?_ ?_; focus (simp [Tab.Env.ev, Tab.Env.get]; rfl)) | (refine Tab.tab_moveE _ rfl (Tab.silent_at2 (by decide)) (.inr rfl) rfl rfl (fun _ => Tab.Ext.refl _ _) ?_; apply Exists.intro; refine And.intro ?_ ?_; focus (simp [Tab.Env.ev, Tab.Env.get]; rfl)) | refine Tab.tab_skip rfl (Tab.silent_at2 (by decide)) rfl ?_ | (refine Tab.tab_repE rfl (Tab.silent_at2 (by decide)) rfl (fun _ _ h => by cases h) rfl (fun _ => Tab.Ext.refl _ _) ?_; apply Exists.intro; refine And.intro (fun l w' _ _ hw => ?_) ?_; focus (go_simp; rfl)) | (refine Tab.tab_repE rfl (Tab.silent_at2 (by decide)) rfl (fun _ _ h => by cases h) rfl (fun _ => Tab.Ext.refl _ _) ?_; apply Exists.intro; refine And.intro (fun l w' hs hc hw => ?_) ?_; focus (go_simp; rfl)))
              (refine Tab.tab_repE rfl (Tab.silent_at2 (by decide)) rfl (fun _ _ h => by cases h) rfl (fun _ => Tab.Ext.refl _ _) ?_; apply Exists.intro; refine And.intro (fun l w' hs hc hw => ?_) ?_; focus ((have q := wcell3g hc.2; go_simp; rfl)))
              refine Tab.tab_call_is (.int .i64 iv0) rfl rfl rfl cfIdle rfl (fun l_ W hsz hs hc hw => ?_) ?_
              · show Calls _ _ #[.pointer (some ⟨g, 0, none⟩), .int .i64 sr] W _
                have h3 : l_.getD 3 false = false := hs.1
                unfold Tab.stage2C at hc ⊢
                rw [h3] at hc
                have hgg := hc.1
                simp only [Bool.false_eq_true, if_false] at hgg
                refine (idle_any W w.heap.size g s cap sources.toNat D vw hgg.x.gm (by
                  obtain ⟨_, _, _, e⟩ := own_slice hgg.x.wown
                  rw [e]; rfl) sr).mono ?_
                rintro e_ w_ hpost
                obtain ⟨rfl, hx, hgm⟩ := idle_sum hpost HSL.out
                rw [HD2.out] at hgm
                refine ⟨by rw [HIV.out], hx.mono fun b _ hb => hgg.low b (.inl (hb.elim .inl fun e => .inr (.inl e))), ?_, hc.2.ext hx fun e => ?_⟩
                · rw [getD_set_eq (by rw [hsz]; decide), getDSetNe (by decide)]
                  exact hgg.idleX hgm HCOL.out hx (Nat.le_trans hz0 hw.size)
                · exact absurd (HZM.out z (.inl (e.elim .inl fun e => .inr (.inl e)))) (Nat.lt_irrefl _)
              iterate 2 (first | (refine Tab.tab_moveE _ rfl (Tab.silent_at2 (by decide)) (.inl rfl) rfl rfl (fun _ => Tab.Ext.refl _ _) ?_; apply Exists.intro; refine And.intro ?_ ?_; focus (simp [Tab.Env.ev, Tab.Env.get]; rfl)) | (refine Tab.tab_moveE _ rfl (Tab.silent_at2 (by decide)) (.inr rfl) rfl rfl (fun _ => Tab.Ext.refl _ _) ?_; apply Exists.intro; refine And.intro ?_ ?_; focus (simp [Tab.Env.ev, Tab.Env.get]; rfl)) | refine Tab.tab_skip rfl (Tab.silent_at2 (by decide)) rfl ?_ | (refine Tab.tab_repE rfl (Tab.silent_at2 (by decide)) rfl (fun _ _ h => by cases h) rfl (fun _ => Tab.Ext.refl _ _) ?_; apply Exists.intro; refine And.intro (fun l w' _ _ hw => ?_) ?_; focus (go_simp; rfl)) | (refine Tab.tab_repE rfl (Tab.silent_at2 (by decide)) rfl (fun _ _ h => by cases h) rfl (fun _ => Tab.Ext.refl _ _) ?_; apply Exists.intro; refine And.intro (fun l w' hs hc hw => ?_) ?_; focus (go_simp; rfl)))
              (refine Tab.tab_repE rfl (Tab.silent_at2 (by decide)) rfl (fun _ _ h => by cases h) rfl (fun _ => Tab.Ext.refl _ _) ?_; apply Exists.intro; refine And.intro (fun l w' hs hc hw => ?_) ?_; focus ((have q := wcell3g hc.2; go_simp; rfl)))
              refine Tab.tab_call_is (.int .i64 iv0) rfl rfl rfl cfIdleR rfl (fun l_ W hsz hs hc hw => ?_) ?_
              · show Calls _ _ #[.pointer (some ⟨g', 0, none⟩), .int .i64 sr] W _
                have h7 : l_.getD 7 false = false := hs.1
                unfold Tab.stage2C at hc ⊢
                rw [h7] at hc
                have hgg := hc.1
                simp only [Bool.false_eq_true, if_false] at hgg
                refine (idleR_any W w.heap.size g' D mv iv vw' hgg.y.gm sr).mono ?_
                rintro e_ w_ hpost
                obtain ⟨rfl, hx, hgm⟩ := idleR_sum hpost
                rw [HD2.out] at hgm
                refine ⟨by rw [HIV.out], hx.mono fun b _ hb => hgg.low b (.inr (hb.elim .inl fun e => e.elim (fun e => .inr (.inl e)) fun e => .inr (.inr (.inl e)))), ?_, hc.2.ext hx fun e => ?_⟩
                · rw [getD_set_eq (by rw [hsz]; decide), getDSetNe (by decide)]
                  exact hgg.idleY hgm HCOL.out hx
                · exact absurd (HZM.out z (.inr (e.elim .inl fun e => e.elim (fun e => .inr (.inl e)) fun e => .inr (.inr (.inl e))))) (Nat.lt_irrefl _)
              iterate 1 (first | (refine Tab.tab_moveE _ rfl (Tab.silent_at2 (by decide)) (.inl rfl) rfl rfl (fun _ => Tab.Ext.refl _ _) ?_; apply Exists.intro; refine And.intro ?_ ?_; focus (simp [Tab.Env.ev, Tab.Env.get]; rfl)) | (refine Tab.tab_moveE _ rfl (Tab.silent_at2 (by decide)) (.inr rfl) rfl rfl (fun _ => Tab.Ext.refl _ _) ?_; apply Exists.intro; refine And.intro ?_ ?_; focus (simp [Tab.Env.ev, Tab.Env.get]; rfl)) | refine Tab.tab_skip rfl (Tab.silent_at2 (by decide)) rfl ?_ | (refine Tab.tab_repE rfl (Tab.silent_at2 (by decide)) rfl (fun _ _ h => by cases h) rfl (fun _ => Tab.Ext.refl _ _) ?_; apply Exists.intro; refine And.intro (fun l w' _ _ hw => ?_) ?_; focus (go_simp; rfl)) | (refine Tab.tab_repE rfl (Tab.silent_at2 (by decide)) rfl (fun _ _ h => by cases h) rfl (fun _ => Tab.Ext.refl _ _) ?_; apply Exists.intro; refine And.intro (fun l w' hs hc hw => ?_) ?_; focus (go_simp; rfl)))
              intro l_ a_ w_ hall_ hcl_ hE_ hsat_
              have hend := Tab.stage2C_end hcl_ hall_ (by decide)
              simp only [if_true] at hend
              refine Tab.fin_of_sat rfl ?_ hsat_
              simp only [Tab.fin, Act.put, List.setIfInBounds_toArray, List.set_cons_succ, List.set_cons_zero]
              have HG9 := Lib.hid hend.1
              have HI9 := Lib.hid (show GInv w w.heap.size g s cap sources.toNat g' mv iv (rowsIn (l.take (k + 1))) w_ from ⟨_, _, _, _, _, hend.1, HR.out, HCN1.out, HX0.out.trans ⟨hE_.os, hE_.tape, hE_.output, hE_.size, hE_.block⟩⟩)
              clear hend hcl_ hall_ hsat_ hE_
              go_wp2_with fail
              refine (mark_any _ _ _ _ _ _ _ _ HG9.out.x.gm).mono ?_
              rintro e W8 ⟨rfl, rfl⟩
              go_wp2_with fail
              refine (markR_any _ _ _ _ _ _ _ HG9.out.y.gm).mono ?_
              rintro e W9 ⟨rfl, rfl⟩
              go_wp2_with fail
              go_roundw
              case rel => exact ⟨k + 1, hlt, by go_num, HI9.out⟩
              case measure => simp [intOf] <;> omega
            · as_aux_lemma =>
              have hd0 : (kd == 0) = false := by simp [h0]
              have hd1 : (kd == 1) = false := by simp [h1]
              clear h0 h1
              go_wp2_with fail
              change Calls _ _ _ (wr.alloc (.cells #[.int .i64 kd, .int .i64 sr, .slice A2 rows.length c2'] 45)) _
              generalize wr.alloc (.cells #[.int .i64 kd, .int .i64 sr, .slice A2 rows.length c2'] 45) = W0 at *
              have hz0 : w.heap.size ≤ W0.heap.size := HX0.out.size
              have HBL0 := Lib.hid (below_ext HX0.out)
              clear bo hzm c0 c1 c2
              refine (release_any W0 w.heap.size g s cap sources.toNat D vw ws HG0.out.x hz0 (by omega)).mono ?_
              rintro e W2 ⟨v2, out, vr, rfl, hx2, hS2, hrd, hcan, hvr⟩
              have HG2 := Lib.hid (HG0.out.stepX (hx2.mono fun b _ hb => .inl hb) hS2 (fun b e => .inr (hvr b e)) (fun e he => .inl (List.mem_filter.1 he).1) hz0)
              have HX2 := Lib.hid (HX0.out.trans (hx2.mono fun b _ hm => (mut_base HG0.out.x b (.inl hm)).1))
              have hz2 : w.heap.size ≤ W2.heap.size := HX2.out.size
              have HRD := Lib.hid hrd
              have HCAN := Lib.hid hcan
              have HGB := Lib.hid (HG0.out.y.gm.blk)
              obtain ⟨_, Aa, ca, ea, ha1, ha2, _⟩ := hrd.sl
              subst ea
              clear hx2 hS2 hrd hcan hvr
              go_wp2_with fail
              refine (releaseR_any W2 w.heap.size g' D mv iv vw' ws' HG2.out.y hz2 (by omega)).mono ?_
              rintro e W3 ⟨v3, vr3, es, rfl, hx3, hS3, hdi, hrd3, hvr3⟩
              have HG3 := Lib.hid (HG2.out.stepY (hx3.mono fun b _ hb => .inl hb) hS3 (fun b e => .inr (hvr3 b e)))
              have HX3 := Lib.hid (HX2.out.trans (hx3.mono fun b _ hm => (HG2.out.y.mut b (.inl hm)).1))
              have HRD3 := Lib.hid (show RD W3 (fun b => W0.heap.size ≤ b) (fun _ => True) (.slice Aa out.length ca) out from
                ⟨HRD.out.sl.ext hx3 (fun b hb e => by have := HGB.out.lt; omega), fun d hd => ⟨(((HRD.out.good d hd).row.strless (fun b => b = g') (fun b e o st hcell => by
                  subst e
                  rw [HG2.out.y.gm.blk.cell] at hcell
                  obtain ⟨A7, m7, c7, e7⟩ := own_slice HG2.out.y.gm.mown
                  obtain ⟨A8, m8, c8, e8⟩ := own_slice HG2.out.y.gm.iown
                  obtain ⟨A9, m9, c9, e9⟩ := own_slice HG2.out.y.wown
                  rw [e7, e8, e9] at hcell
                  match o, hcell with
                  | 0, h | 1, h | 2, h | 3, h | 4, h | 5, h => simp at h
                  | n + 6, h => simp at h)).ext hx3 (fun b hb e => hb.2 e)).mono fun _ _ _ => trivial, (HRD.out.good d hd).n⟩⟩)
              have HROWS := Lib.hid (relRows (D := D) HR.out).2
              have HLEN := Lib.hid (show (relKeep D ws).length ≤ rowsIn (l.take (k + 1)) from Nat.le_trans (List.length_filter_le _ _) HCN1.out)
              have HSAME := Lib.hid (rel_same HR.out (by omega) HCAN.out hdi)
              obtain ⟨_, Ab, cb, eb, hb1, hb2, _⟩ := hrd3.sl
              subst eb
              have HLAW := Lib.hid (deltasLaw_any _ _ _ _ _ _ out _ W3 HRD3.out hrd3 HSAME.out)
              clear hx3 hS3 hdi hrd3 hvr3
              generalize refOut cmpD DE.n setN 1 (onesOf (relOut D ws')) es = ro at *
              go_wp2_with fail
              refine HLAW.out.mono ?_
              rintro e W4 ⟨rfl, hb4⟩
              have HG9 := Lib.hid (HG3.out.later hb4)
              have HI9 := Lib.hid (show GInv w w.heap.size g s cap sources.toNat g' mv iv (rowsIn (l.take (k + 1))) W4 from ⟨_, _, _, _, _, HG9.out, HROWS.out, HLEN.out, HX3.out.trans (Tab.Ext.of_below hb4)⟩)
              clear hb4
              go_wp2_with fail
              refine (mark_any _ _ _ _ _ _ _ _ HG9.out.x.gm).mono ?_
              rintro e W8 ⟨rfl, rfl⟩
              go_wp2_with fail
              refine (markR_any _ _ _ _ _ _ _ HG9.out.y.gm).mono ?_
              rintro e W9 ⟨rfl, rfl⟩
              go_wp2_with fail
              go_roundw
              case rel => exact ⟨k + 1, hlt, by go_num, HI9.out⟩
              case measure => simp [intOf] <;> omega
        · as_aux_lemma =>
          obtain rfl : k = n := by omega
          go_wp2_with fail
          go_ret
          exact ⟨rfl, below_ext HX.out⟩
end Go.Proofs.YthejmnmkbldacaaGreatDoor
