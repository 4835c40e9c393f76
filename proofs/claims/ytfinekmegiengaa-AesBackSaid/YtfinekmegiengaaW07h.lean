/- The walks of layer 7: Encrypt. -/
import Derived.Test.YtfinekmegiengaaW07g
import Derived.Test.YtfinekmegiengaaPlainG
import Derived.Deep.CutRange
namespace Go.Proofs.Ytfinekmegiengaa
open Go.RowKit Nep
set_option maxRecDepth 100000
set_option linter.unusedVariables false
set_option linter.unusedSimpArgs false
set_option maxHeartbeats 1000000

theorem block_add (ad : Addr) (i : Nat) : (ad.add i).block = ad.block := by unfold Addr.add; split <;> rfl
/-- a key's cells: of its variable, of its rounds -/
structure KeyC (w : World) (kb : Nat) (ad : Addr) (c : Nat) (rk : List Nat) : Prop where
  top : w.cell? ⟨kb, 0, none⟩ = some (.slice (some ad) 15 c)
  cells : ∀ i x, (bv rk)[i]? = some x → w.cell? (ad.add i) = some x
  kb_lt : kb < w.heap.size
  ad_lt : ad.block < w.heap.size
theorem KeyC.next {w w' : World} {kb : Nat} {ad : Addr} {c : Nat} {rk : List Nat} (h : KeyC w kb ad c rk) (hb : Below w.heap.size w w') : KeyC w' kb ad c rk :=
  ⟨(hb.cell (by exact h.kb_lt)).trans h.top, fun i x hx => (hb.cell (by rw [block_add]; exact h.ad_lt)).trans (h.cells i x hx), Nat.lt_of_lt_of_le h.kb_lt hb.size, Nat.lt_of_lt_of_le h.ad_lt hb.size⟩
theorem KeyAt.cells {w : World} {p : Value} {rk : List Nat} (h : KeyAt w.heap.size w p rk) (hl : rk.length = 240) : ∃ kb ad c, p = .pointer (some ⟨kb, 0, none⟩) ∧ KeyC w kb ad c rk := by
  obtain ⟨kb, sv, rfl, hk, hc, hs⟩ := h
  obtain ⟨ad, c, rfl, _, hB, hr⟩ := hs.addr (by intro h0; have := bv_length rk; rw [h0] at this; simp at this; omega)
  exact ⟨kb, ad, c, rfl, hc, hr, hk, hB⟩
/-- the cells of a round's key -/
theorem KeyC.round {w : World} {kb : Nat} {ad : Addr} {c : Nat} {rk : List Nat} (h : KeyC w kb ad c rk) (r : Nat) : ∀ i x, (bv (rkF rk r))[i]? = some x → w.cell? ((ad.add (r * 16)).add i) = some x := by
  intro i x hx
  rw [Addr.add_add]
  refine h.cells _ _ ?_
  unfold rkF at hx
  rw [← bv_take, ← bv_drop, List.getElem?_take] at hx
  split at hx
  · rw [List.getElem?_drop, Nat.mul_comm 16 r] at hx
    exact hx
  · cases hx

theorem callFunc_mix (args : Array Value) (w : World) : (callFunc 113 args).run Try.prog w = .ok (.enter 113 args) w := by rfl

theorem encrypt_short (B : Nat) (p v : Value) (rk l : List Nat) (w : World) (hk : KeyAt B w p rk) (hr : RdB w.heap.size w v l) (h : l.length ≠ 16) : Calls Try.prog 42 #[p, v] w (RetE 2 w) := by
  have C := right_calls B p v rk l w hk hr
  rw [decide_eq_false h] at C
  go_enter Try.func42, Try.ntmps42
  go_wp2_with (first | (go_at_call 108; refine C.mono ?_; rintro e w1 ⟨rfl, rfl⟩))
  go_ret2
  exact ⟨rfl, Below.refl _ _⟩
theorem encrypt_nil (v : Value) (w : World) : Calls Try.prog 42 #[.pointer none, v] w (RetE 2 w) := by
  go_enter Try.func42, Try.ntmps42
  go_wp2_with (first | (go_at_call 108; refine (right_nil _ _).mono ?_; rintro e w1 ⟨rfl, rfl⟩))
  go_ret2
  exact ⟨rfl, Below.refl _ _⟩

theorem encrypt_calls (p v : Value) (rk l : List Nat) (w : World) (hk : KeyAt w.heap.size w p rk) (hrl : rk.length = 240) (hrb : Bytes rk) (hr : RdB w.heap.size w v l) (hb : Bytes l) (h : l.length = 16) :
    Calls Try.prog 42 #[p, v] w (RetSE (encF rk l 14) w) := by
  have C0 := right_calls _ p v rk l w hk hr
  rw [decide_eq_true h] at C0
  obtain ⟨kb, ad, ck, rfl, hkc⟩ := hk.cells hrl
  clear hk
  have hll : (bv l).length = 16 := by rw [bv_length, h]
  obtain ⟨al, c, hv, _, hB, hcell⟩ := RdS.addr hr (by intro h0; rw [h0] at hll; simp at hll)
  rw [h] at hv
  subst hv
  obtain ⟨y0, hy0⟩ : ∃ y0, y0 = encF rk l 0 := ⟨_, rfl⟩
  go_enter Try.func42, Try.ntmps42
  go_upto_region 3 with (first | (go_at_call 108; refine C0.mono ?_; rintro e w1 ⟨rfl, rfl⟩))
  go_cut [6] from 8 to 46 (fun p6 wx => ∃ g, p6 = .pointer (some ⟨g, 0, none⟩) ∧ Row wx g 49 (bv y0).toArray ∧ w.heap.size ≤ g ∧ Below w.heap.size w wx)
  case first =>
    have hS0 : Below w.heap.size w w.drew := (Below.refl _ _).drew
    have C1 : ∀ w, Calls Try.prog 109 #[.agg (bv l).toArray, .agg (bv (rkF rk 0)).toArray] w (RetB (blk y0) w) := fun w => hy0 ▸ added_calls l (rkF rk 0) hb (rkF_bytes rk hrb 0) h (rkF_length rk hrl 0 (by omega)) w
    have HC1 := Lib.hid C1
    have hrk0 : (bv (rkF rk 0)).length = 16 := by rw [bv_length, rkF_length rk hrl 0 (by omega)]
    have hy16 : (bv y0).length = 16 := by rw [bv_length, hy0, (encF_blk rk l hrl hrb h hb 0 (by omega)).1]
    clear C1 C0
    refine wp_region_noPanic ?_
    refine wp_region_heldN (S := fun w' => Below w.heap.size w w') 12 rfl (by kernel_rfl) ?_
    (apply takeS (i := 0) hS0 rfl rfl (by kernel_rfl) (by kernel_rfl) (by kernel_rfl) (fun _ _ _ h => h) (by rfl); focus (intro w' hs; have hs2 := (hkc.next hs).top; go_simp; try with_reducible rfl))
    (try simp only [Act.put, List.setIfInBounds_toArray, List.set_cons_zero, List.set_cons_succ])
    (apply takeY (i := 1) hS0 rfl rfl (by kernel_rfl) (by kernel_rfl) (by kernel_rfl) (fun _ _ _ h => h); focus (exact yieldsIf_arr (ty := 49) (by rfl) rfl Try.underlying49 rfl (Nat.le_refl _)))
    (try simp only [Act.put, List.setIfInBounds_toArray, List.set_cons_zero, List.set_cons_succ])
    (apply takeY (i := 2) hS0 rfl rfl (by kernel_rfl) (by kernel_rfl) (by kernel_rfl) (fun _ _ _ h => h); focus (exact yieldsIf_loadArr (ty := 49) (bv l) (by rfl) rfl Try.underlying49 size_a16 rfl hll (fun w' hw i x hx => (hw.cell (by rw [block_add]; exact hB)).trans (hcell i x hx))))
    (try simp only [Act.put, List.setIfInBounds_toArray, List.set_cons_zero, List.set_cons_succ])
    (apply takeS (i := 3) hS0 rfl rfl (by kernel_rfl) (by kernel_rfl) (by kernel_rfl) (fun _ _ _ h => h) (by rfl); focus (intro w' hs; have hs2 := (hkc.next hs).top; go_simp; try with_reducible rfl))
    (try simp only [Act.put, List.setIfInBounds_toArray, List.set_cons_zero, List.set_cons_succ])
    (apply takeS (i := 4) hS0 rfl rfl (by kernel_rfl) (by kernel_rfl) (by kernel_rfl) (fun _ _ _ h => h) (by rfl); focus (intro w' hs; have hs2 := (hkc.next hs).top; go_simp; try with_reducible rfl))
    (try simp only [Act.put, List.setIfInBounds_toArray, List.set_cons_zero, List.set_cons_succ])
    (apply takeS (i := 5) hS0 rfl rfl (by kernel_rfl) (by kernel_rfl) (by kernel_rfl) (fun _ _ _ h => h) (by rfl); focus (intro w' hs; have hs2 := (hkc.next hs).top; go_simp; try with_reducible rfl))
    (try simp only [Act.put, List.setIfInBounds_toArray, List.set_cons_zero, List.set_cons_succ])
    (apply takeS (i := 6) hS0 rfl rfl (by kernel_rfl) (by kernel_rfl) (by kernel_rfl) (fun _ _ _ h => h) (by rfl); focus (intro w' hs; have hs2 := (hkc.next hs).top; go_simp; try with_reducible rfl))
    (try simp only [Act.put, List.setIfInBounds_toArray, List.set_cons_zero, List.set_cons_succ])
    (apply takeY (i := 7) hS0 rfl rfl (by kernel_rfl) (by kernel_rfl) (by kernel_rfl) (fun _ _ _ h => h); focus (exact yieldsIf_indexS (i := 0) (by rfl) rfl Try.underlying51 size_a16 rfl rfl rfl (by omega)))
    (try simp only [Act.put, List.setIfInBounds_toArray, List.set_cons_zero, List.set_cons_succ])
    (apply takeY (i := 8) hS0 rfl rfl (by kernel_rfl) (by kernel_rfl) (by kernel_rfl) (fun _ _ _ h => h); focus (exact yieldsIf_loadArr (ty := 49) (bv (rkF rk 0)) (by rfl) rfl Try.underlying49 size_a16 rfl hrk0 (fun w' hw => (hkc.next hw).round 0)))
    (try simp only [Act.put, List.setIfInBounds_toArray, List.set_cons_zero, List.set_cons_succ])
    have hds : w.heap.size ≤ w.drew.heap.size := hS0.size
    refine twoS (i := 9) (j := 10) (by kernel_rfl) rfl rfl (by rfl) rfl rfl (by rfl) (fun K hK => ?_) (fun K hK => ?_)
    · go_simp
      refine (HC1.out _).mono ?_
      rintro e w1 ⟨rfl, hb1⟩
      have hS1 := hS0.trans (hb1.mono hds)
      refine hK.out _ _ hS1 (fun _ => ?_)
      clear hK K
      (try simp only [Act.put, List.setIfInBounds_toArray, List.set_cons_zero, List.set_cons_succ])
      refine oneS (i := 10) rfl rfl (by kernel_rfl) (by rfl) (fun K hK => ?_)
      apply step_allocR _ _ zinfo_a16 rfl rfl
      intro g w2 hg1 hg2 hrow hb2
      rw [zero16] at hrow
      have hS2 := hS1.trans (hb2.mono hS1.size)
      refine hK.out _ _ hS2 (fun _ => ?_)
      clear hK K
      (try simp only [Act.put, List.setIfInBounds_toArray, List.set_cons_zero, List.set_cons_succ])
      refine oneN (i := 11) rfl rfl (by kernel_rfl) (by rfl) (fun K hK => ?_)
      apply step_storeRow hrow (bv y0).toArray rfl rfl rfl rfl (by rw [List.size_toArray, hy16]; exact size_a16) (by rw [List.size_toArray, List.size_toArray, hy16, bv_length, List.length_replicate]) (bv_all y0)
      intro w3 hw3 hr3 hs3
      have hgw : w.heap.size ≤ g := Nat.le_trans hS1.size hg1
      have hS3 : Below w.heap.size w w3 := by rw [hw3]; exact hS2.trans (below_row _ hgw)
      refine hK.out _ _ hS3 (fun _ => ?_)
      clear hK K
      refine wpAnyH_done (by kernel_rfl) ?_ _
      refine NoPanic.normal ?_
      simp only [Act.put]
      go_wp2_with fail
      go_meet
      case rel => exact ⟨g, rfl, hr3, hgw, hS3⟩
    · apply step_allocR _ _ zinfo_a16 rfl rfl
      intro g w1 hg1 hg2 hrow hb1
      rw [zero16] at hrow
      have hS1 := hS0.trans (hb1.mono hds)
      refine hK.out _ _ hS1 (fun _ => ?_)
      clear hK K
      (try simp only [Act.put, List.setIfInBounds_toArray, List.set_cons_zero, List.set_cons_succ])
      refine oneS (i := 9) rfl rfl (by kernel_rfl) (by rfl) (fun K hK => ?_)
      go_simp
      refine (HC1.out _).mono ?_
      rintro e w2 ⟨rfl, hb2⟩
      have hS2 := hS1.trans (hb2.mono hS1.size)
      have hrow2 := hrow.next hb2
      refine hK.out _ _ hS2 (fun _ => ?_)
      clear hK K
      (try simp only [Act.put, List.setIfInBounds_toArray, List.set_cons_zero, List.set_cons_succ])
      refine oneN (i := 11) rfl rfl (by kernel_rfl) (by rfl) (fun K hK => ?_)
      apply step_storeRow hrow2 (bv y0).toArray rfl rfl rfl rfl (by rw [List.size_toArray, hy16]; exact size_a16) (by rw [List.size_toArray, List.size_toArray, hy16, bv_length, List.length_replicate]) (bv_all y0)
      intro w3 hw3 hr3 hs3
      have hgw : w.heap.size ≤ g := Nat.le_trans hds hg1
      have hS3 : Below w.heap.size w w3 := by rw [hw3]; exact hS2.trans (below_row _ hgw)
      refine hK.out _ _ hS3 (fun _ => ?_)
      clear hK K
      refine wpAnyH_done (by kernel_rfl) ?_ _
      refine NoPanic.normal ?_
      simp only [Act.put]
      go_wp2_with fail
      go_meet
      case rel => exact ⟨g, rfl, hr3, hgw, hS3⟩
  case rest =>
    obtain ⟨g, rfl, hrow, hgw, hbw⟩ := hcut
    clear hr hcell C0 hll hB
    go_wp2_with fail
    go_loopw [7] (fun i wr => ∃ n : Nat, 1 ≤ n ∧ n ≤ 15 ∧ i = .int .i64 n ∧ Row wr g 49 (bv (encF rk l (n - 1))).toArray ∧ Below w.heap.size w wr) (fun i _ => 15 - (intOf i).toNat)
    case atStart => exact ⟨1, by omega, by omega, rfl, by rw [show 1 - 1 = 0 from rfl, ← hy0]; exact hrow, hbw⟩
    case round =>
      obtain ⟨n, hn1, hn15, rfl, hrn, hbn⟩ := hrel
      clear hrow hbw
      by_cases hlt : n ≤ 14
      · obtain ⟨x, hx⟩ : ∃ x, x = encF rk l (n - 1) := ⟨_, rfl⟩
        have hxx := encF_blk rk l hrl hrb h hb (n - 1) (by omega)
        rw [← hx] at hrn hxx
        obtain ⟨hxl, hxb⟩ := hxx
        have hxl' : (bv x).length = 16 := by rw [bv_length, hxl]
        obtain ⟨s1, hs1⟩ : ∃ s1, s1 = x.map sb := ⟨_, rfl⟩
        have hl1 : s1.length = 16 := by rw [hs1, List.length_map, hxl]
        have hb1s : Bytes s1 := by rw [hs1]; exact map_sb_bytes x
        obtain ⟨s2, hs2⟩ : ∃ s2, s2 = shL s1 1 := ⟨_, rfl⟩
        have hl2 : s2.length = 16 := by rw [hs2, shL_length]
        have hb2s : Bytes s2 := by rw [hs2]; exact shL_bytes _ hb1s _
        have hl2' : (bv s2).length = 16 := by rw [bv_length, hl2]
        have CP : RowKit.Hid (∀ w, Calls Try.prog 111 #[.agg (bv x).toArray, .func (.func 29) #[] #[]] w (RetB (blk s1) w)) := Lib.hid (fun w => hs1 ▸ put_sub_calls x hxb hxl w)
        have CS : RowKit.Hid (∀ w, Calls Try.prog 110 #[blk s1, .int .i64 1] w (RetB (blk s2) w)) := Lib.hid (fun w => hs2 ▸ shifted_calls s1 hb1s hl1 1 (N := 1) rfl (by omega) w)
        have CM : RowKit.Hid (∀ w, Calls Try.prog 112 #[.agg (bv s2).toArray, .func (.func 113) #[] #[]] w (RetB (blk (mixL [2, 3, 1, 1] s2)) w)) := Lib.hid (fun w => columns_calls s2 [2, 3, 1, 1] hb2s hl2 _ callFunc_mix (fun c w hc hl => mix_calls c hc hl w) w)
        have hkl : (bv (rkF rk n)).length = 16 := by rw [bv_length, rkF_length rk hrl n (by omega)]
        have hbs := hbn.size
        by_cases h14 : n < 14
        · obtain ⟨z, hz⟩ : ∃ z, z = mixL [2, 3, 1, 1] s2 := ⟨_, rfl⟩
          have hzl : z.length = 16 := by rw [hz]; exact mixL_length _ _
          have hzb : Bytes z := by rw [hz]; exact mixL_bytes _ _
          have hye : encF rk l n = xorL z (rkF rk n) := by
            obtain ⟨m, rfl⟩ : ∃ m, n = m + 1 := ⟨n - 1, by omega⟩
            rw [hz, hs2, hs1, hx]
            simp only [encF, Nat.add_sub_cancel]
            rw [if_pos (by omega)]
          obtain ⟨ys, hys⟩ : ∃ ys, ys = encF rk l n := ⟨_, rfl⟩
          have hyl' : (bv ys).length = 16 := by rw [bv_length, hys, (encF_blk rk l hrl hrb h hb n (by omega)).1]
          have HY := Lib.hid hys
          have CA : RowKit.Hid (∀ w, Calls Try.prog 109 #[.agg (bv z).toArray, .agg (bv (rkF rk n)).toArray] w (RetB (blk ys) w)) := Lib.hid (fun w => by rw [hys, hye]; exact added_calls z (rkF rk n) hzb (rkF_bytes rk hrb n) hzl (rkF_length rk hrl n (by omega)) w)
          have hzl' : (bv z).length = 16 := by rw [bv_length, hzl]
          rw [← hz] at CM
          clear hz hs2 hs1 hx hye hys
          go_wp2_with (first
            | (apply wpList_loadRow hrn hxl' Try.underlying49 size_a16; rfl; rfl; rfl)
            | (go_at_call 111; refine (CP.out _).mono ?_; rintro e w1 ⟨rfl, hb1⟩)
            | (go_at_call 110; refine (CS.out _).mono ?_; rintro e w2 ⟨rfl, hb2⟩; have hr2 := (hrn.next hb1).next hb2)
            | (apply wpList_storeRow hr2 (bv s2).toArray; rfl; rfl; rfl; rfl; (rw [List.size_toArray, hl2']; exact size_a16); (rw [List.size_toArray, List.size_toArray, hl2', hxl']); exact bv_all s2; intro w3 hw3 hr3 hs3; have HW3 := Lib.hid hw3; clear hw3 hs3)
            | (apply wpList_loadRow hr3 hl2' Try.underlying49 size_a16; rfl; rfl; rfl)
            | (go_at_call 112; refine (CM.out _).mono ?_; rintro e w4 ⟨rfl, hb4⟩; have hr4 := hr3.next hb4)
            | (apply wpList_storeRow hr4 (bv z).toArray; rfl; rfl; rfl; rfl; (rw [List.size_toArray, hzl']; exact size_a16); (rw [List.size_toArray, List.size_toArray, hl2', hzl']); exact bv_all z; intro w5 hw5 hr5 hs5; have HW5 := Lib.hid hw5; clear hw5 hs5))
          have hb3 : Below w.heap.size w w3 := by
            rw [HW3.out]
            exact (hbn.trans ((hb1.mono hbs).trans (hb2.mono (Nat.le_trans hbs hb1.size)))).trans (below_row _ hgw)
          have hb5 : Below w.heap.size w w5 := by
            rw [HW5.out]
            exact (hb3.trans (hb4.mono hb3.size)).trans (below_row _ hgw)
          clear hrn hbn hb1 hb2 hr2 HW3 hr3 hb4 hr4 HW5 hb3 hbs CM CP CS
          have hkq := hkc.next (hb5).drew
          have hcz : ∀ i x, (bv z)[i]? = some x → w5.drew.cell? ((⟨g, 0, none⟩ : Addr).add i) = some x := fun i x hx => by rw [Addr.add_lit, Nat.zero_add]; exact Row.cell (w := w5.drew) (g := g) (c := (bv z).toArray) (hr5) (by rwa [List.getElem?_toArray])
          have htop := hkq.top
          have hrqd : Row w5.drew g 49 (bv z).toArray := hr5
          have hbqd := (hb5).drew
          refine wp_region_still_tail 8 (by kernel_rfl) (by kernel_rfl) ?_
          simp only [List.take_succ_cons, List.take_zero, List.drop_succ_cons, List.drop_zero]
          refine wpStill_loadArr (bv z) (by rfl) rfl Try.underlying49 size_a16 rfl hzl' hcz ?_
          (try simp only [Act.put, List.setIfInBounds_toArray, List.set_cons_zero, List.set_cons_succ])
          still_step
          still_step
          still_step
          still_step
          still_step
          refine wpStill_indexS n (by rfl) rfl Try.underlying51 size_a16 rfl rfl rfl (by omega) ?_
          (try simp only [Act.put, List.setIfInBounds_toArray, List.set_cons_zero, List.set_cons_succ])
          refine wpStill_loadArr (bv (rkF rk n)) (by rfl) rfl Try.underlying49 size_a16 rfl hkl (hkq.round n) ?_
          (try simp only [Act.put, List.setIfInBounds_toArray, List.set_cons_zero, List.set_cons_succ])
          refine wpStill_nil ?_
          change wpList _ _ _ _ _ w5.drew
          clear hcz htop hkq
          generalize w5.drew = wd at *
          have hwd := hbqd.size
          go_wp2_with (first
            | (go_at_call 109; refine (CA.out _).mono ?_; rintro e w7 ⟨rfl, hb7⟩; have hr7 := hrqd.next hb7)
            | (apply wpList_storeRow hr7 (bv ys).toArray; rfl; rfl; rfl; rfl; (rw [List.size_toArray, hyl']; exact size_a16); (rw [List.size_toArray, List.size_toArray, hyl', hzl']); exact bv_all ys; intro w8 hw8 hr8 hs8; have HW8 := Lib.hid hw8; clear hw8 hs8))
          have hb8 : Below w.heap.size w w8 := by rw [HW8.out]; exact (hbqd.trans (hb7.mono hwd)).trans (below_row _ hgw)
          go_roundw
          case rel => exact ⟨n + 1, by omega, by omega, by go_num, by rw [Nat.add_sub_cancel, ← HY.out]; exact hr8, hb8⟩
          case measure => simp [intOf]; omega
        · obtain ⟨z, hz⟩ : ∃ z, z = s2 := ⟨_, rfl⟩
          have hzl : z.length = 16 := by rw [hz]; exact hl2
          have hzb : Bytes z := by rw [hz]; exact hb2s
          have hye : encF rk l n = xorL z (rkF rk n) := by
            obtain ⟨m, rfl⟩ : ∃ m, n = m + 1 := ⟨n - 1, by omega⟩
            rw [hz, hs2, hs1, hx]
            simp only [encF, Nat.add_sub_cancel]
            rw [if_neg (by omega)]
          obtain ⟨ys, hys⟩ : ∃ ys, ys = encF rk l n := ⟨_, rfl⟩
          have hyl' : (bv ys).length = 16 := by rw [bv_length, hys, (encF_blk rk l hrl hrb h hb n (by omega)).1]
          have HY := Lib.hid hys
          have CA : RowKit.Hid (∀ w, Calls Try.prog 109 #[.agg (bv z).toArray, .agg (bv (rkF rk n)).toArray] w (RetB (blk ys) w)) := Lib.hid (fun w => by rw [hys, hye]; exact added_calls z (rkF rk n) hzb (rkF_bytes rk hrb n) hzl (rkF_length rk hrl n (by omega)) w)
          have hzl' : (bv z).length = 16 := by rw [bv_length, hzl]
          clear CM
          clear hs2 hs1 hx hye hys
          go_wp2_with (first
            | (apply wpList_loadRow hrn hxl' Try.underlying49 size_a16; rfl; rfl; rfl)
            | (go_at_call 111; refine (CP.out _).mono ?_; rintro e w1 ⟨rfl, hb1⟩)
            | (go_at_call 110; refine (CS.out _).mono ?_; rintro e w2 ⟨rfl, hb2⟩; have hr2 := (hrn.next hb1).next hb2)
            | (apply wpList_storeRow hr2 (bv s2).toArray; rfl; rfl; rfl; rfl; (rw [List.size_toArray, hl2']; exact size_a16); (rw [List.size_toArray, List.size_toArray, hl2', hxl']); exact bv_all s2; intro w3 hw3 hr3 hs3; have HW3 := Lib.hid hw3; clear hw3 hs3))
          have hb3 : Below w.heap.size w w3 := by
            rw [HW3.out]
            exact (hbn.trans ((hb1.mono hbs).trans (hb2.mono (Nat.le_trans hbs hb1.size)))).trans (below_row _ hgw)
          rw [← hz] at hr3
          clear hrn hbn hb1 hb2 hr2 HW3 hbs CP CS hz
          have hkq := hkc.next (hb3).drew
          have hcz : ∀ i x, (bv z)[i]? = some x → w3.drew.cell? ((⟨g, 0, none⟩ : Addr).add i) = some x := fun i x hx => by rw [Addr.add_lit, Nat.zero_add]; exact Row.cell (w := w3.drew) (g := g) (c := (bv z).toArray) (hr3) (by rwa [List.getElem?_toArray])
          have htop := hkq.top
          have hrqd : Row w3.drew g 49 (bv z).toArray := hr3
          have hbqd := (hb3).drew
          refine wp_region_still_tail 8 (by kernel_rfl) (by kernel_rfl) ?_
          simp only [List.take_succ_cons, List.take_zero, List.drop_succ_cons, List.drop_zero]
          refine wpStill_loadArr (bv z) (by rfl) rfl Try.underlying49 size_a16 rfl hzl' hcz ?_
          (try simp only [Act.put, List.setIfInBounds_toArray, List.set_cons_zero, List.set_cons_succ])
          still_step
          still_step
          still_step
          still_step
          still_step
          refine wpStill_indexS n (by rfl) rfl Try.underlying51 size_a16 rfl rfl rfl (by omega) ?_
          (try simp only [Act.put, List.setIfInBounds_toArray, List.set_cons_zero, List.set_cons_succ])
          refine wpStill_loadArr (bv (rkF rk n)) (by rfl) rfl Try.underlying49 size_a16 rfl hkl (hkq.round n) ?_
          (try simp only [Act.put, List.setIfInBounds_toArray, List.set_cons_zero, List.set_cons_succ])
          refine wpStill_nil ?_
          change wpList _ _ _ _ _ w3.drew
          clear hcz htop hkq
          generalize w3.drew = wd at *
          have hwd := hbqd.size
          go_wp2_with (first
            | (go_at_call 109; refine (CA.out _).mono ?_; rintro e w7 ⟨rfl, hb7⟩; have hr7 := hrqd.next hb7)
            | (apply wpList_storeRow hr7 (bv ys).toArray; rfl; rfl; rfl; rfl; (rw [List.size_toArray, hyl']; exact size_a16); (rw [List.size_toArray, List.size_toArray, hyl', hzl']); exact bv_all ys; intro w8 hw8 hr8 hs8; have HW8 := Lib.hid hw8; clear hw8 hs8))
          have hb8 : Below w.heap.size w w8 := by rw [HW8.out]; exact (hbqd.trans (hb7.mono hwd)).trans (below_row _ hgw)
          go_roundw
          case rel => exact ⟨n + 1, by omega, by omega, by go_num, by rw [Nat.add_sub_cancel, ← HY.out]; exact hr8, hb8⟩
          case measure => simp [intOf]; omega
      · obtain rfl : n = 15 := by omega
        have hyl : (encF rk l 14).length = 16 := (encF_blk rk l hrl hrb h hb 14 (by omega)).1
        rw [show 15 - 1 = 14 from rfl] at hrn
        generalize encF rk l 14 = ys at *
        have hbs := hbn.size
        go_wp2_with (first
          | (apply wpList_buildB []; exact of_decide_eq_true rfl; rfl; rfl; rfl; intro gb w4 hgb1 hgb2 hob hb4)
          | (apply wpList_cutArrL 0 16 16; rfl; rfl; exact Try.underlying49; exact size_u8; rfl; exact .inl ⟨rfl, rfl⟩; exact .inl ⟨rfl, rfl, rfl⟩; exact .inl ⟨rfl, rfl⟩; omega; omega; omega)
          | (at_builtin; apply wpList_appendB hob (rdb_of_row (hrn.next hb4) hyl); rfl; rfl; rfl; rfl; (rw [hyl]; exact of_decide_eq_true rfl); (have := hb4.size; omega); intro v5 w5 ho5 hg5))
        go_ret2
        have s4 := hb4.size
        exact ⟨v5, rfl, own_base ho5 hbs, (hbn.trans (hb4.mono hbs)).trans (below_own hg5 hob hbs (by omega))⟩
end Go.Proofs.Ytfinekmegiengaa
