/- The walk of the law XtsBlocks. -/
import Derived.Test.YtfinekmegiengaaL09b
namespace Go.Proofs.Ytfinekmegiengaa
open Go.RowKit Nep
set_option maxRecDepth 100000
set_option linter.unusedVariables false
set_option linter.unusedSimpArgs false
set_option maxHeartbeats 2000000
attribute [local go_sem ↓] Go.wp_at_zero Go.wp_at_succ

theorem xtsBlocks_walk (v1 v2 v3 v4 v5 : Value) (kd kt t a b : List Nat) (w : World) (hkd : Bytes kd) (hkt : Bytes kt) (htb : Bytes t) (hab : Bytes a) (hbb : Bytes b) (h1 : RdB w.heap.size w v1 kd) (h2 : RdB w.heap.size w v2 kt) (h3 : RdB w.heap.size w v3 t) (h4 : RdB w.heap.size w v4 a) (h5 : RdB w.heap.size w v5 b)
    (hn4 : a.length ≤ 140737488351232) (hn5 : b.length ≤ 140737488351232) :
    Calls Try.prog 14 #[.agg #[v1, v2, v3], v4, v5] w (RetB (.bool true) w) := by
  obtain ⟨va, hva⟩ : ∃ va, va = Value.agg #[v1, v2, v3] := ⟨_, rfl⟩
  rw [← hva]
  have HVA := Lib.hid hva
  clear hva
  by_cases hoka : XOk kd kt t a
  · have CRa : RowKit.Hid (∀ w, RdB w.heap.size w v1 kd → RdB w.heap.size w v2 kt → RdB w.heap.size w v3 t → RdB w.heap.size w v4 a → Calls Try.prog 57 #[v1, v2, v3, v4] w (RetP (.bool true) w)) := Lib.hid (fun w c d e f => rright9_yes v1 v2 v3 v4 kd kt t a w c d e f hoka)
    by_cases hokb : XOk kd kt t b
    · have CRb : RowKit.Hid (∀ w, RdB w.heap.size w v1 kd → RdB w.heap.size w v2 kt → RdB w.heap.size w v3 t → RdB w.heap.size w v5 b → Calls Try.prog 57 #[v1, v2, v3, v5] w (RetP (.bool true) w)) := Lib.hid (fun w c d e f => rright9_yes v1 v2 v3 v5 kd kt t b w c d e f hokb)
      obtain ⟨hd32, ht32, ht16, ha16, ha4096, ham16⟩ := hoka
      obtain ⟨_, _, _, hb16, hb4096, hbm16⟩ := hokb
      have fa : a.length ≤ 600 → decide ((600 : Int) < (a.length : Int)) = false := fun h => by simp; omega
      have fb : b.length ≤ 600 → decide ((600 : Int) < (b.length : Int)) = false := fun h => by simp; omega
      rcases (show 600 < a.length ∨ (a.length ≤ 600 ∧ 600 < b.length) ∨ (a.length ≤ 600 ∧ b.length ≤ 600) from by omega) with hbig | ⟨hs1, hbig⟩ | ⟨hsa, hsb⟩
      · clear hd32 ht32 ht16 fa fb
        go_enter Try.func14, Try.ntmps14
        go_upto_region 1 with (first | (apply wpList_boxR va; rfl; rfl; rfl; intro gk w1 hgk1 hgk2 hrk hbk; rw [HVA.out] at hrk; obtain ⟨c0, c1, c2⟩ := row3 hrk; have a1 := h1.next hbk; have a2 := h2.next hbk; have a3 := h3.next hbk; have a4 := h4.next hbk; have a5 := h5.next hbk))
        go_wp2_with (first
          | (refine wpList_lenB a4 ?_ rfl rfl ?_; rfl)
          | (go_at_call 57; (with_reducible refine (CRa.out _ a1 a2 a3 a4).mono ?_); rintro e w4 ⟨rfl, rfl⟩)
          | (go_at_call 57; (with_reducible refine (CRb.out _ a1 a2 a3 a5).mono ?_); rintro e w4 ⟨rfl, rfl⟩)
          | (go_at_call 54; refine (awake09 _).mono ?_; rintro e w' ⟨rfl, hb⟩))
        go_ret
        exact RetB.mk rfl (hbk.trans (hb.mono hbk.size))
      · replace fa := fa hs1
        clear hd32 ht32 ht16 fb
        go_enter Try.func14, Try.ntmps14
        go_upto_region 1 with (first | (apply wpList_boxR va; rfl; rfl; rfl; intro gk w1 hgk1 hgk2 hrk hbk; rw [HVA.out] at hrk; obtain ⟨c0, c1, c2⟩ := row3 hrk; have a1 := h1.next hbk; have a2 := h2.next hbk; have a3 := h3.next hbk; have a4 := h4.next hbk; have a5 := h5.next hbk))
        go_wp2_with (first
          | (refine wpList_lenB a4 ?_ rfl rfl ?_; rfl) | (refine wpList_lenB a5 ?_ rfl rfl ?_; rfl)
          | (go_at_call 57; (with_reducible refine (CRa.out _ a1 a2 a3 a4).mono ?_); rintro e w4 ⟨rfl, rfl⟩)
          | (go_at_call 57; (with_reducible refine (CRb.out _ a1 a2 a3 a5).mono ?_); rintro e w4 ⟨rfl, rfl⟩)
          | (go_at_call 54; refine (awake09 _).mono ?_; rintro e w' ⟨rfl, hb⟩))
        go_ret
        exact RetB.mk rfl (hbk.trans (hb.mono hbk.size))
      · replace fa := fa hsa
        replace fb := fb hsb
        obtain ⟨n, hn⟩ : ∃ n, n = a.length / 16 := ⟨_, rfl⟩
        obtain ⟨k, hk⟩ : ∃ k, k = b.length / 16 := ⟨_, rfl⟩
        have hln : a.length = 16 * n := by omega
        have hlk : b.length = 16 * k := by omega
        obtain ⟨m, hm⟩ : ∃ m, m = encE kt t := ⟨_, rfl⟩
        have hmb := encE_blocks kt ht32 hkt t ht16 htb
        rw [← hm] at hmb
        have hE := encE_blocks kd hd32 hkd
        obtain ⟨x, hx⟩ : ∃ x, x = xtsN (encE kd) m a n := ⟨_, rfl⟩
        obtain ⟨y, hy⟩ : ∃ y, y = xtsN (encE kd) m b k := ⟨_, rfl⟩
        have hxb := xtsN_blk hE hmb.1 hmb.2 hln hab n (Nat.le_refl _)
        have hyb := xtsN_blk hE hmb.1 hmb.2 hlk hbb k (Nat.le_refl _)
        have hal : ∀ j, j < n → j < k → (blkAt a j = blkAt b j ↔ blkAt x j = blkAt y j) := fun j h1 h2 => by
          rw [hx, hy]
          exact xts_alike hE (fun p q h1 h2 h3 h4 h5 => encE_inj kd hd32 hkd p q h1 h2 h3 h4 h5) hmb.1 hmb.2 hln hab hlk hbb h1 h2
        rw [← hx] at hxb
        rw [← hy] at hyb
        have CN : RowKit.Hid (∀ w, RdB w.heap.size w v1 kd → RdB w.heap.size w v2 kt → Calls Try.prog 55 #[v1, v2] w (RetC (flatL kd) (flatL kt) w)) := Lib.hid (fun w a b => xnew_calls v1 v2 kd kt w hkd hkt a b hd32 ht32)
        have C1 : RowKit.Hid (∀ p w, CipherAt w.heap.size w p (flatL kd) (flatL kt) → RdB w.heap.size w v3 t → RdB w.heap.size w v4 a → Calls Try.prog 56 #[p, v3, v4] w (RetSE x w)) := Lib.hid (fun p w c d e => by
          have h := xenc_calls p v3 v4 kd kt t a w hd32 hkd ht32 hkt c htb d ht16 hab e ⟨ha16, ha4096, ham16⟩
          rwa [← hn, ← hm, ← hx] at h)
        have C2 : RowKit.Hid (∀ p w, CipherAt w.heap.size w p (flatL kd) (flatL kt) → RdB w.heap.size w v3 t → RdB w.heap.size w v5 b → Calls Try.prog 56 #[p, v3, v5] w (RetSE y w)) := Lib.hid (fun p w c d e => by
          have h := xenc_calls p v3 v5 kd kt t b w hd32 hkd ht32 hkt c htb d ht16 hbb e ⟨hb16, hb4096, hbm16⟩
          rwa [← hk, ← hm, ← hy] at h)
        have HXL := Lib.hid hxb.1
        have HYL := Lib.hid hyb.1
        have HAL := Lib.hid hal
        have HLN := Lib.hid hln
        have HLK := Lib.hid hlk
        have e1 : ((x.length : Int) != (a.length : Int)) = false := by rw [hxb.1, hln]; simp
        have e2 : ((y.length : Int) != (b.length : Int)) = false := by rw [hyb.1, hlk]; simp
        generalize flatL kd = ra at *
        generalize flatL kt = rb at *
        clear hd32 ht32 ht16 ha16 ha4096 ham16 hb16 hb4096 hbm16 hn hk hln hlk hm hmb hE hx hy hxb hyb hal
        go_enter Try.func14, Try.ntmps14
        go_upto_region 1 with (first | (apply wpList_boxR va; rfl; rfl; rfl; intro gk w1 hgk1 hgk2 hrk hbk; rw [HVA.out] at hrk; obtain ⟨c0, c1, c2⟩ := row3 hrk; have a1 := h1.next hbk; have a2 := h2.next hbk; have a3 := h3.next hbk; have a4 := h4.next hbk; have a5 := h5.next hbk))
        go_wp2_with (first
          | (refine wpList_lenB a4 ?_ rfl rfl ?_; rfl) | (refine wpList_lenB a5 ?_ rfl rfl ?_; rfl)
          | (go_at_call 57; (with_reducible refine (CRa.out _ a1 a2 a3 a4).mono ?_); rintro e w4 ⟨rfl, rfl⟩)
          | (go_at_call 57; (with_reducible refine (CRb.out _ a1 a2 a3 a5).mono ?_); rintro e w4 ⟨rfl, rfl⟩)
          | (go_at_call 55; refine (CN.out _ a1 a2).mono ?_; rintro e w2 ⟨p, rfl, hc2, hb2⟩; have hrk2 := hrk.next hb2; obtain ⟨c02, c12, c22⟩ := row3 hrk2; have b3 := a3.next hb2; have b4 := a4.next hb2; have b5 := a5.next hb2)
          | (go_at_call 56; (with_reducible refine (C1.out _ _ hc2 b3 b4).mono ?_); rintro e w3 ⟨vx, rfl, hx3, hb3⟩; have hrk3 := hrk2.next hb3; obtain ⟨c03, c13, c23⟩ := row3 hrk3; have d3 := b3.next hb3; have d5 := b5.next hb3; have d4 := b4.next hb3; have hc3 := hc2.next hb3)
          | (go_at_call 56; (with_reducible refine (C2.out _ _ hc3 d3 d5).mono ?_); rintro e w6 ⟨vy, rfl, hy6, hb6⟩; have f4 := d4.next hb6; have f5 := d5.next hb6; have hx6 := (RdB.of_own hx3).next hb6; have hy6' := RdB.of_own hy6)
          | (refine wpList_lenB hx6 rfl rfl rfl ?_) | (refine wpList_lenB f4 rfl rfl rfl ?_) | (refine wpList_lenB hy6' rfl rfl rfl ?_) | (refine wpList_lenB f5 rfl rfl rfl ?_))
        have s1 := hbk.size
        have s2 := hb2.size
        have s3 := hb3.size
        have hbb6 : Below w.heap.size w w6 := hbk.trans ((hb2.mono s1).trans ((hb3.mono (by omega)).trans (hb6.mono (by omega))))
        clear hb2 hb3 hb6 hrk hrk2 hrk3 c0 c1 c2 c02 c12 c22 c03 c13 c23 a1 a2 a3 a4 a5 b3 b4 b5 d3 d4 d5 hc2 hc3 hx3 hy6 s1 s2 s3 h1 h2 h3 h4 h5 hbk
        go_loopw [13] (fun i wr => ∃ j : Nat, j ≤ n + k ∧ i = .int .i64 ((16 * j : Nat) : Int) ∧ Below w6.heap.size w6 wr) (fun i _ => 1200 - (intOf i).toNat)
        case atStart => exact ⟨0, by omega, rfl, Below.refl _ _⟩
        case round =>
          obtain ⟨j, hj, hi, hbj⟩ := hrel
          have hbs := hbj.size
          obtain ⟨q, hq⟩ : ∃ q, q = 16 * j := ⟨_, rfl⟩
          rw [← hq] at hi
          subst hi
          have g4 := f4.next hbj
          have g5 := f5.next hbj
          by_cases hlt : j < n ∧ j < k
          · obtain ⟨hjn, hjk⟩ := hlt
            have gx := hx6.next hbj
            have gy := hy6'.next hbj
            have la : q + 16 ≤ a.length := by have := HLN.out; omega
            have lb : q + 16 ≤ b.length := by have := HLK.out; omega
            have lx : q + 16 ≤ x.length := by have := HXL.out; omega
            have ly : q + 16 ≤ y.length := by have := HYL.out; omega
            have qa : q < a.length := by omega
            have qb : q < b.length := by omega
            obtain ⟨q2, hq2⟩ : ∃ q2, q2 = q + 16 := ⟨_, rfl⟩
            rw [← hq2] at la lb lx ly
            obtain ⟨ua, ra', ga⟩ := run_cutB g4 q q2 (by omega) la rfl rfl
            obtain ⟨ub, rb', gb⟩ := run_cutB g5 q q2 (by omega) lb rfl rfl
            obtain ⟨ux, rx', gx'⟩ := run_cutB gx q q2 (by omega) lx rfl rfl
            obtain ⟨uy, ry', gy'⟩ := run_cutB gy q q2 (by omega) ly rfl rfl
            have ec : ∀ l : List Nat, (l.drop q).take (q2 - q) = blkAt l j := fun l => by rw [hq2, show q + 16 - q = 16 from by omega, hq]; rfl
            rw [ec] at ga gb gx' gy'
            obtain ⟨b0, hb0⟩ : ∃ b0, b0 = decide (blkAt a j = blkAt b j) := ⟨_, rfl⟩
            obtain ⟨b1, hb1⟩ : ∃ b1, b1 = decide (blkAt x j = blkAt y j) := ⟨_, rfl⟩
            have hb01 : b0 = b1 := by rw [hb0, hb1]; exact decide_eq_decide.2 (HAL.out j hjn hjk)
            have lk : ∀ l : List Nat, (blkAt l j).length ≤ 140737488351232 := fun l => by rw [blkAt, List.length_take]; omega
            have C5 : RowKit.Hid (∀ w, RdB w.heap.size w ua (blkAt a j) → RdB w.heap.size w ub (blkAt b j) → Calls Try.prog 43 #[ua, ub] w (RetB (.bool b0) w)) := Lib.hid (fun w c d => hb0 ▸ same_calls ua ub _ _ w c d (lk a))
            have C6 : RowKit.Hid (∀ w, RdB w.heap.size w ux (blkAt x j) → RdB w.heap.size w uy (blkAt y j) → Calls Try.prog 43 #[ux, uy] w (RetB (.bool b1) w)) := Lib.hid (fun w c d => hb1 ▸ same_calls ux uy _ _ w c d (lk x))
            have ew : IntKind.i64.wrap ((q : Int) + 16) = (q2 : Int) := by rw [hq2, IntWalk.i64_in _ (by omega)]; omega
            have hS0 := Below.refl wr.heap.size wr.drew
            have HQ := Lib.hid hq
            have HQ2 := Lib.hid hq2
            generalize blkAt a j = ba at *
            generalize blkAt b j = bb at *
            generalize blkAt x j = bx at *
            generalize blkAt y j = by' at *
            have hq600 : q ≤ 600 := by omega
            have EW := Lib.hid ew
            clear ew hq hq2 ec hb0 hb1 lk la lb lx ly f4 f5 hx6 hy6' gx gy
            subst hb01
            rcases b0 with _ | _
            all_goals
              go_wp2_with (first | (refine wpList_lenB g4 rfl rfl rfl ?_) | (refine wpList_lenB g5 rfl rfl rfl ?_))
              have ew := EW.out
              go_region_held3 (fun w' => Below wr.heap.size wr.drew w')
                (first | exact Below.refl _ _ | exact (‹Below _ wr.drew _›).trans (hb8.mono (‹Below _ wr.drew _›).size) | exact (‹Below _ wr.drew _›).trans (hb7.mono (‹Below _ wr.drew _›).size))
                (first
                  | (go_at_call 43; (with_reducible refine (C5.out _ (ga.next (Below.drewn ‹Below _ wr.drew _›)) (gb.next (Below.drewn ‹Below _ wr.drew _›))).mono ?_); rintro e w7 ⟨rfl, hb7⟩)
                  | (go_at_call 43; (with_reducible refine (C6.out _ (gx'.next (Below.drewn ‹Below _ wr.drew _›)) (gy'.next (Below.drewn ‹Below _ wr.drew _›))).mono ?_); rintro e w8 ⟨rfl, hb8⟩))
              have hH := Below.drewn ‹Below _ wr.drew _›
              clear ew
              go_wp2_with fail
              go_roundw
              case rel => exact ⟨j + 1, by omega, by have := HQ.out; go_num, hbj.trans (hH.mono hbs)⟩
              case measure => simp [intOf]; omega
          · have hend : a.length ≤ q ∨ (q < a.length ∧ b.length ≤ q) := by have := HLN.out; have := HLK.out; omega
            clear hq
            rcases hend with h | ⟨h, h'⟩
            all_goals
              go_wp2_with (first | (refine wpList_lenB g4 rfl rfl rfl ?_) | (refine wpList_lenB g5 rfl rfl rfl ?_) | (go_at_call 54; refine (awake09 _).mono ?_; rintro e w9 ⟨rfl, hb9⟩))
              go_ret
              exact RetB.mk rfl (hbb6.trans ((hbj.mono hbb6.size).trans (hb9.mono (Nat.le_trans hbb6.size hbs))))
    · have CRb : RowKit.Hid (∀ w, RdB w.heap.size w v1 kd → RdB w.heap.size w v2 kt → RdB w.heap.size w v3 t → RdB w.heap.size w v5 b → Calls Try.prog 57 #[v1, v2, v3, v5] w (RetP (.bool false) w)) := Lib.hid (fun w c d e f => rright9_no v1 v2 v3 v5 kd kt t b w c d e f hokb)
      clear hoka hokb
      go_enter Try.func14, Try.ntmps14
      go_upto_region 1 with (first | (apply wpList_boxR va; rfl; rfl; rfl; intro gk w1 hgk1 hgk2 hrk hbk; rw [HVA.out] at hrk; obtain ⟨c0, c1, c2⟩ := row3 hrk; have a1 := h1.next hbk; have a2 := h2.next hbk; have a3 := h3.next hbk; have a4 := h4.next hbk; have a5 := h5.next hbk))
      go_wp2_with (first
        | (go_at_call 57; (with_reducible refine (CRa.out _ a1 a2 a3 a4).mono ?_); rintro e w4 ⟨rfl, rfl⟩)
        | (go_at_call 57; (with_reducible refine (CRb.out _ a1 a2 a3 a5).mono ?_); rintro e w4 ⟨rfl, rfl⟩)
        | (go_at_call 54; refine (awake09 _).mono ?_; rintro e w' ⟨rfl, hb⟩))
      go_ret
      exact RetB.mk rfl (hbk.trans (hb.mono hbk.size))
  · have CRa : RowKit.Hid (∀ w, RdB w.heap.size w v1 kd → RdB w.heap.size w v2 kt → RdB w.heap.size w v3 t → RdB w.heap.size w v4 a → Calls Try.prog 57 #[v1, v2, v3, v4] w (RetP (.bool false) w)) := Lib.hid (fun w c d e f => rright9_no v1 v2 v3 v4 kd kt t a w c d e f hoka)
    clear hoka
    go_enter Try.func14, Try.ntmps14
    go_upto_region 1 with (first | (apply wpList_boxR va; rfl; rfl; rfl; intro gk w1 hgk1 hgk2 hrk hbk; rw [HVA.out] at hrk; obtain ⟨c0, c1, c2⟩ := row3 hrk; have a1 := h1.next hbk; have a2 := h2.next hbk; have a3 := h3.next hbk; have a4 := h4.next hbk; have a5 := h5.next hbk))
    go_wp2_with (first
      | (go_at_call 57; (with_reducible refine (CRa.out _ a1 a2 a3 a4).mono ?_); rintro e w4 ⟨rfl, rfl⟩)
      | (go_at_call 54; refine (awake09 _).mono ?_; rintro e w' ⟨rfl, hb⟩))
    go_ret
    exact RetB.mk rfl (hbk.trans (hb.mono hbk.size))
end Go.Proofs.Ytfinekmegiengaa
