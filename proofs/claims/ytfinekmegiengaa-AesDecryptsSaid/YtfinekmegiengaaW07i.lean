/- The walks of layer 7: Decrypt. -/
import Derived.Test.YtfinekmegiengaaW07h
namespace Go.Proofs.Ytfinekmegiengaa
open Go.RowKit Nep
set_option maxRecDepth 100000
set_option linter.unusedVariables false
set_option linter.unusedSimpArgs false
set_option maxHeartbeats 1000000

theorem callFunc_unmix (args : Array Value) (w : World) : (callFunc 118 args).run Try.prog w = .ok (.enter 118 args) w := by rfl
theorem callFunc_back (args : Array Value) (w : World) : (callFunc 31 args).run Try.prog w = .ok (.enter 31 args) w := by rfl
theorem put_back_calls (a : List Nat) (ha : Bytes a) (hla : a.length = 16) (w : World) : Calls Try.prog 111 #[blk a, .func (.func 31) #[] #[]] w (RetB (blk (a.map bk)) w) :=
  put_calls a ha hla _ bk callFunc_back (fun x w hx => (back_calls x rfl hx w)) w

theorem decrypt_short (B : Nat) (p v : Value) (rk l : List Nat) (w : World) (hk : KeyAt B w p rk) (hr : RdB w.heap.size w v l) (h : l.length ≠ 16) : Calls Try.prog 48 #[p, v] w (RetE 2 w) := by
  have C := right_calls B p v rk l w hk hr
  rw [decide_eq_false h] at C
  go_enter Try.func48, Try.ntmps48
  go_wp2_with (first | (go_at_call 108; refine C.mono ?_; rintro e w1 ⟨rfl, rfl⟩))
  go_ret2
  exact ⟨rfl, Below.refl _ _⟩
theorem decrypt_nil (v : Value) (w : World) : Calls Try.prog 48 #[.pointer none, v] w (RetE 2 w) := by
  go_enter Try.func48, Try.ntmps48
  go_wp2_with (first | (go_at_call 108; refine (right_nil _ _).mono ?_; rintro e w1 ⟨rfl, rfl⟩))
  go_ret2
  exact ⟨rfl, Below.refl _ _⟩

theorem decrypt_calls (p v : Value) (rk l : List Nat) (w : World) (hk : KeyAt w.heap.size w p rk) (hrl : rk.length = 240) (hrb : Bytes rk) (hr : RdB w.heap.size w v l) (hb : Bytes l) (h : l.length = 16) :
    Calls Try.prog 48 #[p, v] w (RetSE (xorL (decF rk l 14) (rkF rk 0)) w) := by
  have C0 := right_calls _ p v rk l w hk hr
  rw [decide_eq_true h] at C0
  obtain ⟨kb, ad, ck, rfl, hkc⟩ := hk.cells hrl
  clear hk
  have hll : (bv l).length = 16 := by rw [bv_length, h]
  obtain ⟨al, c, hv, _, hB, hcell⟩ := RdS.addr hr (by intro h0; rw [h0] at hll; simp at hll)
  rw [h] at hv
  subst hv
  go_enter Try.func48, Try.ntmps48
  go_wp2_with (first
    | (go_at_call 108; refine C0.mono ?_; rintro e w1 ⟨rfl, rfl⟩)
    | (apply wpList_arrL; rfl; rfl; exact Try.underlying49; rfl; omega)
    | (refine wpList_loadArr (by rfl) rfl Try.underlying49 size_a16 rfl (bv l) hll hcell ?_)
    | (apply wpList_allocR _ _ zinfo_a16; rfl; rfl; intro g w2 hg1 hg2 hrt hb2; rw [zero16] at hrt)
    | (apply wpList_storeRow hrt (bv l).toArray; rfl; rfl; rfl; rfl; (rw [List.size_toArray, hll]; exact size_a16); (rw [List.size_toArray, List.size_toArray, hll, bv_length, List.length_replicate]); exact bv_all l; intro w3 hw3 hr3 hs3; have HW3 := Lib.hid hw3; clear hw3 hs3))
  have hbw : Below w.heap.size w w3 := by
    rw [HW3.out]
    exact hb2.trans (below_row _ hg1)
  clear hr hcell C0 hB HW3 hrt hb2
  go_loopw [7] (fun i wr => ∃ j : Nat, j ≤ 14 ∧ i = .int .i64 ((14 - j : Nat) : Int) ∧ Row wr g 49 (bv (decF rk l j)).toArray ∧ Below w.heap.size w wr) (fun i _ => (intOf i).toNat)
  case atStart => exact ⟨0, by omega, rfl, hr3, hbw⟩
  case round =>
    obtain ⟨j, hj, rfl, hrn, hbn⟩ := hrel
    clear hr3 hbw
    obtain ⟨x, hx⟩ : ∃ x, x = decF rk l j := ⟨_, rfl⟩
    have hxx := decF_blk rk l h hb j
    rw [← hx] at hrn hxx
    obtain ⟨hxl, hxb⟩ := hxx
    have hxl' : (bv x).length = 16 := by rw [bv_length, hxl]
    have HX := Lib.hid hx
    clear hx
    by_cases hlt : j < 14
    · obtain ⟨n, hn⟩ : ∃ n, n = 14 - j := ⟨_, rfl⟩
      rw [← hn]
      have hjn : j + n = 14 := by omega
      have HN := Lib.hid hn
      clear hn
      have hkl : (bv (rkF rk n)).length = 16 := by rw [bv_length, rkF_length rk hrl n (by omega)]
      obtain ⟨s0, hs0⟩ : ∃ s0, s0 = xorL x (rkF rk n) := ⟨_, rfl⟩
      have hl0 : s0.length = 16 := by rw [hs0, xorL_length _ _ (by rw [hxl, rkF_length rk hrl n (by omega)]), hxl]
      have hb0 : Bytes s0 := by rw [hs0]; exact xorL_bytes hxb (rkF_bytes rk hrb n)
      have hl0' : (bv s0).length = 16 := by rw [bv_length, hl0]
      have CA : RowKit.Hid (∀ w, Calls Try.prog 109 #[.agg (bv x).toArray, .agg (bv (rkF rk n)).toArray] w (RetB (blk s0) w)) := Lib.hid (fun w => by rw [hs0]; exact added_calls x (rkF rk n) hxb (rkF_bytes rk hrb n) hxl (rkF_length rk hrl n (by omega)) w)
      have CM : RowKit.Hid (∀ w, Calls Try.prog 112 #[.agg (bv s0).toArray, .func (.func 118) #[] #[]] w (RetB (blk (mixL [14, 11, 13, 9] s0)) w)) := Lib.hid (fun w => columns_calls s0 [14, 11, 13, 9] hb0 hl0 _ callFunc_unmix (fun c w hc hl => unmix_calls c hc hl w) w)
      have HS0 := Lib.hid hs0
      clear hs0
      go_wp2_with fail
      have hkq := hkc.next (hbn).drew
      have hcz : ∀ i u, (bv x)[i]? = some u → wr.drew.cell? ((⟨g, 0, none⟩ : Addr).add i) = some u := fun i u hx => by rw [Addr.add_lit, Nat.zero_add]; exact Row.cell (w := wr.drew) (g := g) (c := (bv x).toArray) (hrn) (by rwa [List.getElem?_toArray])
      have htop := hkq.top
      have hrqd : Row wr.drew g 49 (bv x).toArray := hrn
      have hbqd := (hbn).drew
      refine wp_region_still_tail 8 (by kernel_rfl) (by kernel_rfl) ?_
      simp only [List.take_succ_cons, List.take_zero, List.drop_succ_cons, List.drop_zero]
      refine wpStill_loadArr (bv x) (by rfl) rfl Try.underlying49 size_a16 rfl hxl' hcz ?_
      (try simp only [Act.put, List.setIfInBounds_toArray, List.set_cons_zero, List.set_cons_succ])
      still_step
      still_step
      still_step
      still_step
      still_step
      refine wpStill_indexS n (by rfl) rfl Try.underlying51 size_a16 rfl rfl rfl (by omega) ?_
      (try simp only [Act.put, List.setIfInBounds_toArray, List.set_cons_zero, List.set_cons_succ])
      refine wpStill_loadArr (bv (rkF rk n)) (by rfl) rfl Try.underlying49 size_a16 rfl hkl (hkq.round n) ?_
      (try simp only [Act.put, List.setIfInBounds_toArray, List.set_cons_zero, List.set_cons_succ])
      refine wpStill_nil ?_
      change wpList _ _ _ _ _ wr.drew
      clear hcz htop hkq
      generalize wr.drew = wd at *
      have hwd := hbqd.size
      by_cases h14 : n < 14
      · obtain ⟨z, hz⟩ : ∃ z, z = mixL [14, 11, 13, 9] s0 := ⟨_, rfl⟩
        have hzl : z.length = 16 := by rw [hz]; exact mixL_length _ _
        have hzb : Bytes z := by rw [hz]; exact mixL_bytes _ _
        have hzl' : (bv z).length = 16 := by rw [bv_length, hzl]
        obtain ⟨s2, hs2⟩ : ∃ s2, s2 = shL z 3 := ⟨_, rfl⟩
        have hl2 : s2.length = 16 := by rw [hs2, shL_length]
        have hb2s : Bytes s2 := by rw [hs2]; exact shL_bytes _ hzb _
        obtain ⟨ys, hys⟩ : ∃ ys, ys = s2.map bk := ⟨_, rfl⟩
        have hyl' : (bv ys).length = 16 := by rw [bv_length, hys, List.length_map, hl2]
        have hye : decF rk l (j + 1) = ys := by
          rw [hys, hs2, hz, HS0.out, HX.out, HN.out]
          simp only [decF]
          rw [if_pos (by omega)]
        have HY := Lib.hid hye
        have CS : RowKit.Hid (∀ w, Calls Try.prog 110 #[.agg (bv z).toArray, .int .i64 3] w (RetB (blk s2) w)) := Lib.hid (fun w => hs2 ▸ shifted_calls z hzb hzl 3 (N := 3) rfl (by omega) w)
        have CP : RowKit.Hid (∀ w, Calls Try.prog 111 #[blk s2, .func (.func 31) #[] #[]] w (RetB (blk ys) w)) := Lib.hid (fun w => hys ▸ put_back_calls s2 hb2s hl2 w)
        rw [← hz] at CM
        clear hz hs2 hye hys
        go_wp2_with (first
          | (go_at_call 109; refine (CA.out _).mono ?_; rintro e w4 ⟨rfl, hb4⟩; have hr4 := hrqd.next hb4)
          | (apply wpList_storeRow hr4 (bv s0).toArray; rfl; rfl; rfl; rfl; (rw [List.size_toArray, hl0']; exact size_a16); (rw [List.size_toArray, List.size_toArray, hl0', hxl']); exact bv_all s0; intro w5 hw5 hr5 hs5; have HW5 := Lib.hid hw5; clear hw5 hs5)
          | (apply wpList_loadRow hr5 hl0' Try.underlying49 size_a16; rfl; rfl; rfl)
          | (go_at_call 112; refine (CM.out _).mono ?_; rintro e w6 ⟨rfl, hb6⟩; have hr6 := hr5.next hb6)
          | (apply wpList_storeRow hr6 (bv z).toArray; rfl; rfl; rfl; rfl; (rw [List.size_toArray, hzl']; exact size_a16); (rw [List.size_toArray, List.size_toArray, hl0', hzl']); exact bv_all z; intro w7 hw7 hr7 hs7; have HW7 := Lib.hid hw7; clear hw7 hs7)
          | (apply wpList_loadRow hr7 hzl' Try.underlying49 size_a16; rfl; rfl; rfl)
          | (go_at_call 110; refine (CS.out _).mono ?_; rintro e w8 ⟨rfl, hb8⟩)
          | (go_at_call 111; refine (CP.out _).mono ?_; rintro e w9 ⟨rfl, hb9⟩; have hr9 := (hr7.next hb8).next hb9)
          | (apply wpList_storeRow hr9 (bv ys).toArray; rfl; rfl; rfl; rfl; (rw [List.size_toArray, hyl']; exact size_a16); (rw [List.size_toArray, List.size_toArray, hyl', hzl']); exact bv_all ys; intro w10 hw10 hr10 hs10; have HW10 := Lib.hid hw10; clear hw10 hs10))
        have hb5 : Below w.heap.size w w5 := by rw [HW5.out]; exact (hbqd.trans (hb4.mono hwd)).trans (below_row _ hg1)
        have hb7 : Below w.heap.size w w7 := by rw [HW7.out]; exact (hb5.trans (hb6.mono hb5.size)).trans (below_row _ hg1)
        have hs7 := hb7.size
        have hb10 : Below w.heap.size w w10 := by rw [HW10.out]; exact ((hb7.trans (hb8.mono hs7)).trans (hb9.mono (Nat.le_trans hs7 hb8.size))).trans (below_row _ hg1)
        go_roundw
        case rel => exact ⟨j + 1, by omega, by rw [show 14 - (j + 1) = n - 1 from by omega]; go_num, by rw [HY.out]; exact hr10, hb10⟩
        case measure => simp [intOf]; omega
      · obtain ⟨z, hz⟩ : ∃ z, z = s0 := ⟨_, rfl⟩
        have hzl : z.length = 16 := by rw [hz]; exact hl0
        have hzb : Bytes z := by rw [hz]; exact hb0
        have hzl' : (bv z).length = 16 := by rw [bv_length, hzl]
        obtain ⟨s2, hs2⟩ : ∃ s2, s2 = shL z 3 := ⟨_, rfl⟩
        have hl2 : s2.length = 16 := by rw [hs2, shL_length]
        have hb2s : Bytes s2 := by rw [hs2]; exact shL_bytes _ hzb _
        obtain ⟨ys, hys⟩ : ∃ ys, ys = s2.map bk := ⟨_, rfl⟩
        have hyl' : (bv ys).length = 16 := by rw [bv_length, hys, List.length_map, hl2]
        have hye : decF rk l (j + 1) = ys := by
          rw [hys, hs2, hz, HS0.out, HX.out, HN.out]
          simp only [decF]
          rw [if_neg (by omega)]
        have HY := Lib.hid hye
        have CS : RowKit.Hid (∀ w, Calls Try.prog 110 #[.agg (bv z).toArray, .int .i64 3] w (RetB (blk s2) w)) := Lib.hid (fun w => hs2 ▸ shifted_calls z hzb hzl 3 (N := 3) rfl (by omega) w)
        have CP : RowKit.Hid (∀ w, Calls Try.prog 111 #[blk s2, .func (.func 31) #[] #[]] w (RetB (blk ys) w)) := Lib.hid (fun w => hys ▸ put_back_calls s2 hb2s hl2 w)
        clear CM
        rw [hz] at hzl'
        have CS' : RowKit.Hid (∀ w, Calls Try.prog 110 #[.agg (bv s0).toArray, .int .i64 3] w (RetB (blk s2) w)) := hz ▸ CS
        clear hs2 hye hys CS
        go_wp2_with (first
          | (go_at_call 109; refine (CA.out _).mono ?_; rintro e w4 ⟨rfl, hb4⟩; have hr4 := hrqd.next hb4)
          | (apply wpList_storeRow hr4 (bv s0).toArray; rfl; rfl; rfl; rfl; (rw [List.size_toArray, hl0']; exact size_a16); (rw [List.size_toArray, List.size_toArray, hl0', hxl']); exact bv_all s0; intro w7 hw7 hr7 hs7; have HW7 := Lib.hid hw7; clear hw7 hs7)
          | (apply wpList_loadRow hr7 hl0' Try.underlying49 size_a16; rfl; rfl; rfl)
          | (go_at_call 110; refine (CS'.out _).mono ?_; rintro e w8 ⟨rfl, hb8⟩)
          | (go_at_call 111; refine (CP.out _).mono ?_; rintro e w9 ⟨rfl, hb9⟩; have hr9 := (hr7.next hb8).next hb9)
          | (apply wpList_storeRow hr9 (bv ys).toArray; rfl; rfl; rfl; rfl; (rw [List.size_toArray, hyl']; exact size_a16); (rw [List.size_toArray, List.size_toArray, hyl', hl0']); exact bv_all ys; intro w10 hw10 hr10 hs10; have HW10 := Lib.hid hw10; clear hw10 hs10))
        have hb7 : Below w.heap.size w w7 := by rw [HW7.out]; exact (hbqd.trans (hb4.mono hwd)).trans (below_row _ hg1)
        have hs7 := hb7.size
        have hb10 : Below w.heap.size w w10 := by rw [HW10.out]; exact ((hb7.trans (hb8.mono hs7)).trans (hb9.mono (Nat.le_trans hs7 hb8.size))).trans (below_row _ hg1)
        go_roundw
        case rel => exact ⟨j + 1, by omega, by rw [show 14 - (j + 1) = n - 1 from by omega]; go_num, by rw [HY.out]; exact hr10, hb10⟩
        case measure => simp [intOf]; omega
    · obtain rfl : j = 14 := by omega
      have hkl : (bv (rkF rk 0)).length = 16 := by rw [bv_length, rkF_length rk hrl 0 (by omega)]
      obtain ⟨s0, hs0⟩ : ∃ s0, s0 = xorL x (rkF rk 0) := ⟨_, rfl⟩
      have hl0 : s0.length = 16 := by rw [hs0, xorL_length _ _ (by rw [hxl, rkF_length rk hrl 0 (by omega)]), hxl]
      have hl0' : (bv s0).length = 16 := by rw [bv_length, hl0]
      have CA : RowKit.Hid (∀ w, Calls Try.prog 109 #[.agg (bv x).toArray, .agg (bv (rkF rk 0)).toArray] w (RetB (blk s0) w)) := Lib.hid (fun w => by rw [hs0]; exact added_calls x (rkF rk 0) hxb (rkF_bytes rk hrb 0) hxl (rkF_length rk hrl 0 (by omega)) w)
      have HE : xorL (decF rk l 14) (rkF rk 0) = s0 := by rw [hs0, HX.out]
      have HE' := Lib.hid HE
      clear hs0 HE
      go_wp2_with fail
      have hkq := hkc.next hbn.drew
      have hcz : ∀ i u, (bv x)[i]? = some u → wr.drew.cell? ((⟨g, 0, none⟩ : Addr).add i) = some u := fun i u hx => by rw [Addr.add_lit, Nat.zero_add]; exact Row.cell (w := wr.drew) (g := g) (c := (bv x).toArray) hrn (by rwa [List.getElem?_toArray])
      have htop := hkq.top
      have hrqd : Row wr.drew g 49 (bv x).toArray := hrn
      have hbqd := hbn.drew
      refine wp_region_still_tail 7 (by kernel_rfl) (by kernel_rfl) ?_
      simp only [List.take_succ_cons, List.take_zero, List.drop_succ_cons, List.drop_zero]
      refine wpStill_loadArr (bv x) (by rfl) rfl Try.underlying49 size_a16 rfl hxl' hcz ?_
      (try simp only [Act.put, List.setIfInBounds_toArray, List.set_cons_zero, List.set_cons_succ])
      still_step
      still_step
      still_step
      still_step
      refine wpStill_indexS 0 (by rfl) rfl Try.underlying51 size_a16 rfl rfl rfl (by omega) ?_
      (try simp only [Act.put, List.setIfInBounds_toArray, List.set_cons_zero, List.set_cons_succ])
      refine wpStill_loadArr (bv (rkF rk 0)) (by rfl) rfl Try.underlying49 size_a16 rfl hkl (hkq.round 0) ?_
      (try simp only [Act.put, List.setIfInBounds_toArray, List.set_cons_zero, List.set_cons_succ])
      refine wpStill_nil ?_
      change wpList _ _ _ _ _ wr.drew
      clear hcz htop hkq
      generalize wr.drew = wd at *
      have hwd := hbqd.size
      go_wp2_with (first
        | (go_at_call 109; refine (CA.out _).mono ?_; rintro e w4 ⟨rfl, hb4⟩; have hr4 := hrqd.next hb4)
        | (apply wpList_storeRow hr4 (bv s0).toArray; rfl; rfl; rfl; rfl; (rw [List.size_toArray, hl0']; exact size_a16); (rw [List.size_toArray, List.size_toArray, hl0', hxl']); exact bv_all s0; intro w5 hw5 hr5 hs5; have HW5 := Lib.hid hw5; clear hw5 hs5)
        | (apply wpList_buildB []; exact of_decide_eq_true rfl; rfl; rfl; rfl; intro gb w6 hgb1 hgb2 hob hb6)
        | (apply wpList_cutArrL 0 16 16; rfl; rfl; exact Try.underlying49; exact size_u8; rfl; exact .inl ⟨rfl, rfl⟩; exact .inl ⟨rfl, rfl, rfl⟩; exact .inl ⟨rfl, rfl⟩; omega; omega; omega)
        | (at_builtin; apply wpList_appendB hob (rdb_of_row (hr5.next hb6) hl0); rfl; rfl; rfl; rfl; (rw [hl0]; exact of_decide_eq_true rfl); (have := hb6.size; omega); intro v7 w7 ho7 hg7))
      go_ret2
      have hb5 : Below w.heap.size w w5 := by rw [HW5.out]; exact (hbqd.trans (hb4.mono hwd)).trans (below_row _ hg1)
      have s5 := hb5.size
      have s6 := hb6.size
      refine ⟨v7, rfl, ?_, (hb5.trans (hb6.mono s5)).trans (below_own hg7 hob s5 (by omega))⟩
      rw [HE'.out]
      exact own_base ho7 s5
end Go.Proofs.Ytfinekmegiengaa
