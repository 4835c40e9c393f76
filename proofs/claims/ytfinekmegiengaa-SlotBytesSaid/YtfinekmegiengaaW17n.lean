/- The walk of layer 17: the reference's Read. -/
import Derived.Test.YtfinekmegiengaaW17i
namespace Go.Proofs.Ytfinekmegiengaa
open Go.RowKit Nep
set_option maxRecDepth 100000
set_option linter.unusedVariables false
set_option linter.unusedSimpArgs false
set_option maxHeartbeats 2000000

/-- it returns a slot that reads these bytes, and a word -/
def RetRd (u : Bool) (s : Int) (e c : Nat) (ys : List Nat) (ok : Bool) (w : World) (x : Ending) (w' : World) : Prop := ∃ av k, x = .returned (.tuple #[slotV u s e c (.slice av ys.length k), .bool ok]) ∧ RdB w'.heap.size w' (.slice av ys.length k) ys ∧ Below w.heap.size w w'
/-- bytes that are noughts or not, a first byte of one or not -/
theorem same_at (a b : List Nat) (h : a.length ≤ 140737488351232) (r : Bool) (hr : decide (a = b) = r) : RowKit.Hid (∀ va vb w, RdB w.heap.size w va a → RdB w.heap.size w vb b → Calls Try.prog 43 #[va, vb] w (RetB (.bool r) w)) := Lib.hid (fun va vb w h1 h2 => hr ▸ same_calls va vb a b w h1 h2 h)

theorem rread_zero (v : Value) (b : List Nat) (w : World) (hb : Bytes b) (hr : RdB w.heap.size w v b) (hl : b.length = 128) (h1 : b.getD 0 0 ≠ 1) (hz : List.replicate 128 0 = b) : Calls Try.prog 61 #[v] w (RetRd false 0 0 0 [] true w) := by
  obtain ⟨x, hx⟩ : ∃ x, x = b.getD 0 0 := ⟨_, rfl⟩
  have f1 : ((x : Int) == 1) = false := by rw [beq_eq_false_iff_ne]; omega
  have HX := Lib.hid hx.symm
  have HBL := Lib.hid hl
  have CR : RowKit.Hid (∀ w, Calls Try.prog 65 #[.agg #[.bool false, .int .i64 0, .int .u64 0, .int .u64 0, .slice none 0 0]] w (RetB (.bool true) w)) := Lib.hid (fun w => rsright_calls false 0 0 0 (.slice none 0 0) [] w (RdS.nil _ _ _))
  obtain ⟨z, hzz⟩ : ∃ z, z = List.replicate 128 0 := ⟨_, rfl⟩
  have CB : RowKit.Hid (∀ w, Calls Try.prog 66 #[.agg #[.bool false, .int .i64 0, .int .u64 0, .int .u64 0, .slice none 0 0]] w (RetS z w)) := Lib.hid (fun w => hzz ▸ rbytes_none 0 0 0 (.slice none 0 0) [] w)
  have CS := same_at z b (by rw [hzz]; simp) true (by rw [hzz]; exact decide_eq_true hz)
  clear hx h1 hz hzz hl
  go_enter Try.func61, Try.ntmps61
  go_wp2_with (first
    | (apply wpList_allocR (w := w) (.agg #[.bool false, .int .i64 0, .int .u64 0, .int .u64 0, .slice none 0 0]) 5; kernel_rfl; rfl; rfl; intro g1 w1 hg1 hg1' hr1 hb1; have ha1 := hr.next hb1)
    | (refine wpList_buildP [] #[.bool false, .int .i64 0, .int .u64 0, .int .u64 0, .slice none 0 0] (by kernel_rfl) rfl rfl rfl ?_)
    | (apply wpList_allocR (w := w1) (.agg #[.bool false, .int .i64 0, .int .u64 0, .int .u64 0, .slice none 0 0]) 5; kernel_rfl; rfl; rfl; intro g2 w2 hg2 hg2' hr2 hb2)
    | (apply wpList_storeRow hr2 #[.bool false, .int .i64 0, .int .u64 0, .int .u64 0, .slice none 0 0]; rfl; rfl; rfl; rfl; kernel_rfl; rfl; kernel_rfl; intro w3 hw3 hr3 hs3; have hb13 : Below w1.heap.size w1 w3 := hb2.trans (by rw [hw3]; exact below_row _ hg2); have ha3 := ha1.next hb13; have ha31 := hr.mono (hb1.trans (hb13.mono hb1.size)); have hr13 := hr1.next hb13; clear hw3; obtain ⟨a0, a1, a2, a3, a4⟩ := row5 hr3)
    | (apply wpList_indexB ha3 0 (by rw [HBL.out]; omega); rfl; rfl; rfl; rfl; rfl; rw [HX.out]; intro p hp hcell)
    | (go_at_call 65; (with_reducible refine (CR.out _).mono ?_); rintro x w4 ⟨rfl, hb4⟩; have hr14 := hr13.next hb4; have hr4 := hr3.next hb4; have ha4 := ha3.next hb4; obtain ⟨c0, c1, c2, c3, c4⟩ := row5 hr4)
    | (go_at_call 66; (with_reducible refine (CB.out _).mono ?_); rintro x w5 ⟨vz, rfl, hz5, hb5⟩; have hr15 := hr14.next hb5; have hr5 := hr4.next hb5; have ha5 := ha4.next hb5)
    | (go_at_call 43; (with_reducible refine (CS.out _ _ _ (RdB.of_own hz5) ha5).mono ?_); rintro x w6 ⟨rfl, hb6⟩; have hr16 := hr15.next hb6; have hr6 := hr5.next hb6; obtain ⟨d0, d1, d2, d3, d4⟩ := row5 hr6)
    | (apply wpList_storeRow hr16 #[.bool false, .int .i64 0, .int .u64 0, .int .u64 0, .slice none 0 0]; rfl; rfl; rfl; rfl; kernel_rfl; rfl; kernel_rfl; intro w7 hw7 hr7 hs7; have HW7 := Lib.hid hw7; clear hw7))
  refine ret_rowT rfl hr7 Try.underlying60 (n := 5) (by kernel_rfl) rfl rfl rfl ?_
  have s1 := hb1.size
  have s3 := hb13.size
  have s4 := hb4.size
  have s5 := hb5.size
  exact ⟨none, 0, rfl, RdS.nil _ _ _, by rw [HW7.out]; exact hb1.trans ((hb13.mono s1).trans ((hb4.mono (by omega)).trans ((hb5.mono (by omega)).trans ((hb6.mono (by omega)).trans (below_row _ hg1)))))⟩
theorem rread_form1 (v : Value) (b : List Nat) (w : World) (hb : Bytes b) (hr : RdB w.heap.size w v b) (hl : b.length = 128) (h1 : b.getD 0 0 ≠ 1) (hz : List.replicate 128 0 ≠ b) : Calls Try.prog 61 #[v] w (RetRd false 0 0 0 [] false w) := by
  obtain ⟨x, hx⟩ : ∃ x, x = b.getD 0 0 := ⟨_, rfl⟩
  have f1 : ((x : Int) == 1) = false := by rw [beq_eq_false_iff_ne]; omega
  have HX := Lib.hid hx.symm
  have HBL := Lib.hid hl
  have CR : RowKit.Hid (∀ w, Calls Try.prog 65 #[.agg #[.bool false, .int .i64 0, .int .u64 0, .int .u64 0, .slice none 0 0]] w (RetB (.bool true) w)) := Lib.hid (fun w => rsright_calls false 0 0 0 (.slice none 0 0) [] w (RdS.nil _ _ _))
  obtain ⟨z, hzz⟩ : ∃ z, z = List.replicate 128 0 := ⟨_, rfl⟩
  have CB : RowKit.Hid (∀ w, Calls Try.prog 66 #[.agg #[.bool false, .int .i64 0, .int .u64 0, .int .u64 0, .slice none 0 0]] w (RetS z w)) := Lib.hid (fun w => hzz ▸ rbytes_none 0 0 0 (.slice none 0 0) [] w)
  have CS := same_at z b (by rw [hzz]; simp) false (by rw [hzz]; exact decide_eq_false hz)
  clear hx h1 hz hzz hl
  go_enter Try.func61, Try.ntmps61
  go_wp2_with (first
    | (apply wpList_allocR (w := w) (.agg #[.bool false, .int .i64 0, .int .u64 0, .int .u64 0, .slice none 0 0]) 5; kernel_rfl; rfl; rfl; intro g1 w1 hg1 hg1' hr1 hb1; have ha1 := hr.next hb1)
    | (refine wpList_buildP [] #[.bool false, .int .i64 0, .int .u64 0, .int .u64 0, .slice none 0 0] (by kernel_rfl) rfl rfl rfl ?_)
    | (apply wpList_allocR (w := w1) (.agg #[.bool false, .int .i64 0, .int .u64 0, .int .u64 0, .slice none 0 0]) 5; kernel_rfl; rfl; rfl; intro g2 w2 hg2 hg2' hr2 hb2)
    | (apply wpList_storeRow hr2 #[.bool false, .int .i64 0, .int .u64 0, .int .u64 0, .slice none 0 0]; rfl; rfl; rfl; rfl; kernel_rfl; rfl; kernel_rfl; intro w3 hw3 hr3 hs3; have hb13 : Below w1.heap.size w1 w3 := hb2.trans (by rw [hw3]; exact below_row _ hg2); have ha3 := ha1.next hb13; have ha31 := hr.mono (hb1.trans (hb13.mono hb1.size)); have hr13 := hr1.next hb13; clear hw3; obtain ⟨a0, a1, a2, a3, a4⟩ := row5 hr3)
    | (apply wpList_indexB ha3 0 (by rw [HBL.out]; omega); rfl; rfl; rfl; rfl; rfl; rw [HX.out]; intro p hp hcell)
    | (go_at_call 65; (with_reducible refine (CR.out _).mono ?_); rintro x w4 ⟨rfl, hb4⟩; have hr14 := hr13.next hb4; have hr4 := hr3.next hb4; have ha4 := ha3.next hb4; obtain ⟨c0, c1, c2, c3, c4⟩ := row5 hr4)
    | (go_at_call 66; (with_reducible refine (CB.out _).mono ?_); rintro x w5 ⟨vz, rfl, hz5, hb5⟩; have hr15 := hr14.next hb5; have hr5 := hr4.next hb5; have ha5 := ha4.next hb5)
    | (go_at_call 43; (with_reducible refine (CS.out _ _ _ (RdB.of_own hz5) ha5).mono ?_); rintro x w6 ⟨rfl, hb6⟩; have hr16 := hr15.next hb6; have hr6 := hr5.next hb6; obtain ⟨d0, d1, d2, d3, d4⟩ := row5 hr6)
    | (apply wpList_storeRow hr16 #[.bool false, .int .i64 0, .int .u64 0, .int .u64 0, .slice none 0 0]; rfl; rfl; rfl; rfl; kernel_rfl; rfl; kernel_rfl; intro w7 hw7 hr7 hs7; have HW7 := Lib.hid hw7; clear hw7))
  refine ret_rowT rfl hr7 Try.underlying60 (n := 5) (by kernel_rfl) rfl rfl rfl ?_
  have s1 := hb1.size
  have s3 := hb13.size
  have s4 := hb4.size
  have s5 := hb5.size
  exact ⟨none, 0, rfl, RdS.nil _ _ _, by rw [HW7.out]; exact hb1.trans ((hb13.mono s1).trans ((hb4.mono (by omega)).trans ((hb5.mono (by omega)).trans ((hb6.mono (by omega)).trans (below_row _ hg1)))))⟩
theorem rread_form2 (v : Value) (b : List Nat) (w : World) (hb : Bytes b) (hr : RdB w.heap.size w v b) (hl : b.length = 128) (h1 : b.getD 0 0 = 1) (hok : (slotOk true ((num ((b.drop 4).take 4) : Nat) : Int) (num ((b.drop 8).take 8)) (num ((b.drop 16).take 8)) 104 = false)) : Calls Try.prog 61 #[v] w (RetRd false 0 0 0 [] false w) := by
  have hd : ∀ i k, Bytes ((b.drop i).take k) := fun i k => (hb.drop i).take k
  have hlt : ∀ i, num ((b.drop i).take 8) < 18446744073709551616 := fun i => by
    have h := num_lt ((b.drop i).take 8) (hd i 8)
    have h2 : 256 ^ ((b.drop i).take 8).length ≤ 256 ^ 8 := Nat.pow_le_pow_right (by omega) (by rw [List.length_take]; omega)
    omega
  have hlt4 : num ((b.drop 4).take 4) < 4294967296 := by
    have h := num_lt ((b.drop 4).take 4) (hd 4 4)
    have h2 : 256 ^ ((b.drop 4).take 4).length ≤ 256 ^ 4 := Nat.pow_le_pow_right (by omega) (by rw [List.length_take]; omega)
    omega
  have C1 : RowKit.Hid (∀ va w, RdB w.heap.size w va ((b.drop 4).take (8 - 4)) → Calls Try.prog 41 #[va] w (RetB (.int .u64 (num ((b.drop 4).take 4) : Nat)) w)) := Lib.hid (fun va w h => rnum_calls va _ w (hd 4 4) h (by rw [List.length_take]; omega))
  have C2 : RowKit.Hid (∀ va w, RdB w.heap.size w va ((b.drop 8).take (16 - 8)) → Calls Try.prog 41 #[va] w (RetB (.int .u64 (num ((b.drop 8).take 8) : Nat)) w)) := Lib.hid (fun va w h => rnum_calls va _ w (hd 8 8) h (by rw [List.length_take]; omega))
  have C3 : RowKit.Hid (∀ va w, RdB w.heap.size w va ((b.drop 16).take (24 - 16)) → Calls Try.prog 41 #[va] w (RetB (.int .u64 (num ((b.drop 16).take 8) : Nat)) w)) := Lib.hid (fun va w h => rnum_calls va _ w (hd 16 8) h (by rw [List.length_take]; omega))
  have hl2 := hlt 8
  have hl3 := hlt 16
  obtain ⟨m1, hm1⟩ : ∃ m, m = num ((b.drop 4).take 4) := ⟨_, rfl⟩
  obtain ⟨m2, hm2⟩ : ∃ m, m = num ((b.drop 8).take 8) := ⟨_, rfl⟩
  obtain ⟨m3, hm3⟩ : ∃ m, m = num ((b.drop 16).take 8) := ⟨_, rfl⟩
  rw [← hm1] at C1 hok hlt4
  rw [← hm2] at C2 hok hl2
  rw [← hm3] at C3 hok hl3
  obtain ⟨y, hy⟩ : ∃ y, y = b.drop 24 := ⟨_, rfl⟩
  have hyl : y.length = 104 := by rw [hy, List.length_drop]; omega
  have hycut : (b.drop 24).take (128 - 24) = y := by rw [hy, List.take_of_length_le (by rw [List.length_drop]; omega)]
  have hw1 : IntKind.i64.wrap (m1 : Int) = m1 := IntWalk.i64_in _ (by omega)
  obtain ⟨x, hx⟩ : ∃ x, x = b.getD 0 0 := ⟨_, rfl⟩
  have f1 : ((x : Int) == 1) = true := by rw [beq_iff_eq]; omega
  have HX := Lib.hid hx.symm
  have HBL := Lib.hid hl
  have HYC := Lib.hid hycut
  have HYL := Lib.hid hyl
  have CR : RowKit.Hid (∀ av kk w, RdB w.heap.size w (.slice av y.length kk) y → Calls Try.prog 65 #[.agg #[.bool true, .int .i64 (m1 : Int), .int .u64 (m2 : Int), .int .u64 (m3 : Int), .slice av y.length kk]] w (RetB (.bool false) w)) := Lib.hid (fun av kk w hh => by have h2 := rsright_calls true (m1 : Int) m2 m3 (.slice av y.length kk) y w hh; rw [hyl, hok, ← hyl] at h2; exact h2)
  clear hx h1 hl hok hm1 hm2 hm3 hy hyl hycut hlt hd hlt4 hl2 hl3
  go_enter Try.func61, Try.ntmps61
  go_wp2_with (first
    | (apply wpList_allocR (w := w) (.agg #[.bool false, .int .i64 0, .int .u64 0, .int .u64 0, .slice none 0 0]) 5; kernel_rfl; rfl; rfl; intro g1 w1 hg1 hg1' hr1 hb1; have ha1 := hr.next hb1)
    | (refine wpList_buildP [] #[.bool false, .int .i64 0, .int .u64 0, .int .u64 0, .slice none 0 0] (by kernel_rfl) rfl rfl rfl ?_)
    | (apply wpList_allocR (w := w1) (.agg #[.bool false, .int .i64 0, .int .u64 0, .int .u64 0, .slice none 0 0]) 5; kernel_rfl; rfl; rfl; intro g2 w2 hg2 hg2' hr2 hb2)
    | (apply wpList_storeRow hr2 #[.bool false, .int .i64 0, .int .u64 0, .int .u64 0, .slice none 0 0]; rfl; rfl; rfl; rfl; kernel_rfl; rfl; kernel_rfl; intro w3 hw3 hr3 hs3; have hb13 : Below w1.heap.size w1 w3 := hb2.trans (by rw [hw3]; exact below_row _ hg2); have ha3 := ha1.next hb13; have ha31 := hr.mono (hb1.trans (hb13.mono hb1.size)); have hr13 := hr1.next hb13; clear hw3; obtain ⟨a0, a1, a2, a3, a4⟩ := row5 hr3)
    | (apply wpList_indexB ha3 0 (by rw [HBL.out]; omega); rfl; rfl; rfl; rfl; rfl; rw [HX.out]; intro p hp hcell))
  obtain ⟨va, hva, hra⟩ := run_cutM ha31 4 8 (by omega) (by rw [HBL.out]; omega) (N := 4) (M := 8) rfl rfl
  obtain ⟨vb, hvb, hrb⟩ := run_cutM ha31 8 16 (by omega) (by rw [HBL.out]; omega) (N := 8) (M := 16) rfl rfl
  obtain ⟨vc, hvc, hrc⟩ := run_cutM ha31 16 24 (by omega) (by rw [HBL.out]; omega) (N := 16) (M := 24) rfl rfl
  obtain ⟨vd, hvd, hrd⟩ := run_cutM ha31 24 128 (by omega) (by rw [HBL.out]; omega) (N := 24) (M := 128) rfl rfl
  rw [HYC.out] at hrd
  have hrd2 := hrd
  obtain ⟨_, av, kk, rfl, _⟩ := hrd2
  have s13 := hb13.size
  have s01 := hb1.size
  have s03 := Nat.le_trans s01 s13
  have s03d : w.heap.size ≤ w3.drew.heap.size := s03
  have s13d : w1.heap.size ≤ w3.drew.heap.size := s13
  have hSd : Below w1.heap.size w3 w3.drew := (Below.refl _ _).drew
  clear a0 a1 a2 a3 a4 hcell
  go_region_held3 (fun w' => Below w1.heap.size w3 w')
    (first | (with_reducible exact hSd) | (with_reducible exact hS5) | (with_reducible exact hS6) | (with_reducible exact hS7) | (with_reducible exact below5 hS7 hg2) | fail)
    (first
      | (go_at_call 41; (with_reducible refine (C1.out _ _ ((hra.mono (hSd.mono s01)).up s03d)).mono ?_); rintro x w5 ⟨rfl, hb5⟩; have hS5 := hSd.trans (hb5.mono s13d); have hr5 := (Row.drewn hr3).next hb5; have t5 := Nat.le_trans s13 hS5.size)
      | (go_at_call 41; (with_reducible refine (C2.out _ _ ((hrb.mono (hS5.mono s01)).up (Nat.le_trans s01 t5))).mono ?_); rintro x w6 ⟨rfl, hb6⟩; have hS6 := hS5.trans (hb6.mono t5); have hr6 := hr5.next hb6; have t6 := Nat.le_trans s13 hS6.size)
      | (go_at_call 41; (with_reducible refine (C3.out _ _ ((hrc.mono (hS6.mono s01)).up (Nat.le_trans s01 t6))).mono ?_); rintro x w7 ⟨rfl, hb7⟩; have hS7 := hS6.trans (hb7.mono t6); have hr7 := hr6.next hb7; obtain ⟨b0, b1, b2, b3, b4⟩ := row5 hr7; have q0 := hr7.free 0; have q1 := hr7.free 1; have q2 := hr7.free 2; have q3 := hr7.free 3; have q4 := hr7.free 4)
      | fail)
  have hR := row_set5 (v0 := .bool true) (v1 := .int .i64 (m1 : Int)) (v2 := .int .u64 (m2 : Int)) (v3 := .int .u64 (m3 : Int)) (v4 := .slice av y.length kk) hr7
  have hBW := below5 (v0 := .bool true) (v1 := .int .i64 (m1 : Int)) (v2 := .int .u64 (m2 : Int)) (v3 := .int .u64 (m3 : Int)) (v4 := .slice av y.length kk) hS7 hg2
  clear hS5 hS6 hS7 b0 b1 b2 b3 b4 q0 q1 q2 q3 q4 hr5 hr6 hr7 hb5 hb6 hb7 t5 t6
  generalize (((((w7.setCell ⟨g2, 0, none⟩ (.bool true)).setCell ⟨g2, 1, none⟩ (.int .i64 (m1 : Int))).setCell ⟨g2, 2, none⟩ (.int .u64 (m2 : Int))).setCell ⟨g2, 3, none⟩ (.int .u64 (m3 : Int))).setCell ⟨g2, 4, none⟩ (.slice av y.length kk)) = W at *
  have hr1W := hr13.mono hBW (by have := hr1.lt; omega)
  have s1W := Nat.le_trans s13 hBW.size
  have hyW := (hrd.mono (hBW.mono s01)).up (Nat.le_trans s01 s1W)
  have haW := (ha31.mono (hBW.mono s01)).up (Nat.le_trans s01 s1W)
  obtain ⟨b0, b1, b2, b3, b4⟩ := row5 hR
  go_wp2_with (first
    | (go_at_call 65; (with_reducible refine (CR.out _ _ _ hyW).mono ?_); rintro x w8 ⟨rfl, hb8⟩; have hr18 := hr1W.next hb8; have hr8 := hR.next hb8; have hy8 := hyW.next hb8; have ha8 := haW.next hb8; obtain ⟨c0, c1, c2, c3, c4⟩ := row5 hr8)
    | (refine wpList_buildP [] #[.bool false, .int .i64 0, .int .u64 0, .int .u64 0, .slice none 0 0] (by kernel_rfl) rfl rfl rfl ?_)
    | (apply wpList_storeRow hr18 #[.bool false, .int .i64 0, .int .u64 0, .int .u64 0, .slice none 0 0]; rfl; rfl; rfl; rfl; kernel_rfl; rfl; kernel_rfl; intro wb hwb hrwb hsb; have HWB := Lib.hid hwb; clear hwb))
  refine ret_rowT rfl hrwb Try.underlying60 (n := 5) (by kernel_rfl) rfl rfl rfl ?_
  have s1 := hb1.size
  have hb0W : Below w.heap.size w W := hb1.trans ((hb13.mono s1).trans (hBW.mono s1))
  have s0 := hb0W.size
  have s8 := hb8.size
  have hbl : Below w.heap.size w wb := by rw [HWB.out]; exact hb0W.trans ((hb8.mono s0).trans (below_row _ hg1))
  exact ⟨none, 0, rfl, RdS.nil _ _ _, hbl⟩
theorem rread_ok (v : Value) (b : List Nat) (w : World) (hb : Bytes b) (hr : RdB w.heap.size w v b) (hl : b.length = 128) (h1 : b.getD 0 0 = 1) (hok : (slotOk true ((num ((b.drop 4).take 4) : Nat) : Int) (num ((b.drop 8).take 8)) (num ((b.drop 16).take 8)) 104 = true)) (hs : b.take 4 = [1, 0, 0, 0]) : Calls Try.prog 61 #[v] w (RetRd true ((num ((b.drop 4).take 4) : Nat) : Int) (num ((b.drop 8).take 8)) (num ((b.drop 16).take 8)) (b.drop 24) true w) := by
  have hsame := slotB_again' b hb hl hs
  have hd : ∀ i k, Bytes ((b.drop i).take k) := fun i k => (hb.drop i).take k
  have hlt : ∀ i, num ((b.drop i).take 8) < 18446744073709551616 := fun i => by
    have h := num_lt ((b.drop i).take 8) (hd i 8)
    have h2 : 256 ^ ((b.drop i).take 8).length ≤ 256 ^ 8 := Nat.pow_le_pow_right (by omega) (by rw [List.length_take]; omega)
    omega
  have hlt4 : num ((b.drop 4).take 4) < 4294967296 := by
    have h := num_lt ((b.drop 4).take 4) (hd 4 4)
    have h2 : 256 ^ ((b.drop 4).take 4).length ≤ 256 ^ 4 := Nat.pow_le_pow_right (by omega) (by rw [List.length_take]; omega)
    omega
  have C1 : RowKit.Hid (∀ va w, RdB w.heap.size w va ((b.drop 4).take (8 - 4)) → Calls Try.prog 41 #[va] w (RetB (.int .u64 (num ((b.drop 4).take 4) : Nat)) w)) := Lib.hid (fun va w h => rnum_calls va _ w (hd 4 4) h (by rw [List.length_take]; omega))
  have C2 : RowKit.Hid (∀ va w, RdB w.heap.size w va ((b.drop 8).take (16 - 8)) → Calls Try.prog 41 #[va] w (RetB (.int .u64 (num ((b.drop 8).take 8) : Nat)) w)) := Lib.hid (fun va w h => rnum_calls va _ w (hd 8 8) h (by rw [List.length_take]; omega))
  have C3 : RowKit.Hid (∀ va w, RdB w.heap.size w va ((b.drop 16).take (24 - 16)) → Calls Try.prog 41 #[va] w (RetB (.int .u64 (num ((b.drop 16).take 8) : Nat)) w)) := Lib.hid (fun va w h => rnum_calls va _ w (hd 16 8) h (by rw [List.length_take]; omega))
  have hl2 := hlt 8
  have hl3 := hlt 16
  obtain ⟨m1, hm1⟩ : ∃ m, m = num ((b.drop 4).take 4) := ⟨_, rfl⟩
  obtain ⟨m2, hm2⟩ : ∃ m, m = num ((b.drop 8).take 8) := ⟨_, rfl⟩
  obtain ⟨m3, hm3⟩ : ∃ m, m = num ((b.drop 16).take 8) := ⟨_, rfl⟩
  rw [← hm1] at C1 hok hlt4
  rw [← hm2] at C2 hok hl2
  rw [← hm3] at C3 hok hl3
  rw [← hm1, ← hm2, ← hm3] at hsame
  rw [← hm1, ← hm2, ← hm3]
  obtain ⟨y, hy⟩ : ∃ y, y = b.drop 24 := ⟨_, rfl⟩
  have hyl : y.length = 104 := by rw [hy, List.length_drop]; omega
  have hycut : (b.drop 24).take (128 - 24) = y := by rw [hy, List.take_of_length_le (by rw [List.length_drop]; omega)]
  have hw1 : IntKind.i64.wrap (m1 : Int) = m1 := IntWalk.i64_in _ (by omega)
  obtain ⟨x, hx⟩ : ∃ x, x = b.getD 0 0 := ⟨_, rfl⟩
  have f1 : ((x : Int) == 1) = true := by rw [beq_iff_eq]; omega
  have HX := Lib.hid hx.symm
  have HBL := Lib.hid hl
  have HYC := Lib.hid hycut
  have HYL := Lib.hid hyl
  have CR : RowKit.Hid (∀ av kk w, RdB w.heap.size w (.slice av y.length kk) y → Calls Try.prog 65 #[.agg #[.bool true, .int .i64 (m1 : Int), .int .u64 (m2 : Int), .int .u64 (m3 : Int), .slice av y.length kk]] w (RetB (.bool true) w)) := Lib.hid (fun av kk w hh => by have h2 := rsright_calls true (m1 : Int) m2 m3 (.slice av y.length kk) y w hh; rw [hyl, hok, ← hyl] at h2; exact h2)
  rw [← hy] at hsame
  rw [← hy]
  obtain ⟨z, hzz⟩ : ∃ z, z = slotB true (m1 : Int) m2 m3 y := ⟨_, rfl⟩
  rw [← hzz] at hsame
  have CB : RowKit.Hid (∀ av kk w, RdB w.heap.size w (.slice av y.length kk) y → Calls Try.prog 66 #[.agg #[.bool true, .int .i64 (m1 : Int), .int .u64 (m2 : Int), .int .u64 (m3 : Int), .slice av y.length kk]] w (RetS z w)) := Lib.hid (fun av kk w hh => hzz ▸ rbytes_yes (m1 : Int) m2 m3 (.slice av y.length kk) y w hl2 hl3 hh (by rw [hyl]; exact hok))
  have CS := same_at z b (by rw [hzz, slotB_length (by rw [hyl]; exact hok)]; omega) true (decide_eq_true hsame)
  clear hx h1 hl hok hm1 hm2 hm3 hy hyl hycut hlt hd hlt4 hl2 hl3 hsame hzz hs
  go_enter Try.func61, Try.ntmps61
  go_wp2_with (first
    | (apply wpList_allocR (w := w) (.agg #[.bool false, .int .i64 0, .int .u64 0, .int .u64 0, .slice none 0 0]) 5; kernel_rfl; rfl; rfl; intro g1 w1 hg1 hg1' hr1 hb1; have ha1 := hr.next hb1)
    | (refine wpList_buildP [] #[.bool false, .int .i64 0, .int .u64 0, .int .u64 0, .slice none 0 0] (by kernel_rfl) rfl rfl rfl ?_)
    | (apply wpList_allocR (w := w1) (.agg #[.bool false, .int .i64 0, .int .u64 0, .int .u64 0, .slice none 0 0]) 5; kernel_rfl; rfl; rfl; intro g2 w2 hg2 hg2' hr2 hb2)
    | (apply wpList_storeRow hr2 #[.bool false, .int .i64 0, .int .u64 0, .int .u64 0, .slice none 0 0]; rfl; rfl; rfl; rfl; kernel_rfl; rfl; kernel_rfl; intro w3 hw3 hr3 hs3; have hb13 : Below w1.heap.size w1 w3 := hb2.trans (by rw [hw3]; exact below_row _ hg2); have ha3 := ha1.next hb13; have ha31 := hr.mono (hb1.trans (hb13.mono hb1.size)); have hr13 := hr1.next hb13; clear hw3; obtain ⟨a0, a1, a2, a3, a4⟩ := row5 hr3)
    | (apply wpList_indexB ha3 0 (by rw [HBL.out]; omega); rfl; rfl; rfl; rfl; rfl; rw [HX.out]; intro p hp hcell))
  obtain ⟨va, hva, hra⟩ := run_cutM ha31 4 8 (by omega) (by rw [HBL.out]; omega) (N := 4) (M := 8) rfl rfl
  obtain ⟨vb, hvb, hrb⟩ := run_cutM ha31 8 16 (by omega) (by rw [HBL.out]; omega) (N := 8) (M := 16) rfl rfl
  obtain ⟨vc, hvc, hrc⟩ := run_cutM ha31 16 24 (by omega) (by rw [HBL.out]; omega) (N := 16) (M := 24) rfl rfl
  obtain ⟨vd, hvd, hrd⟩ := run_cutM ha31 24 128 (by omega) (by rw [HBL.out]; omega) (N := 24) (M := 128) rfl rfl
  rw [HYC.out] at hrd
  have hrd2 := hrd
  obtain ⟨_, av, kk, rfl, _⟩ := hrd2
  have s13 := hb13.size
  have s01 := hb1.size
  have s03 := Nat.le_trans s01 s13
  have s03d : w.heap.size ≤ w3.drew.heap.size := s03
  have s13d : w1.heap.size ≤ w3.drew.heap.size := s13
  have hSd : Below w1.heap.size w3 w3.drew := (Below.refl _ _).drew
  clear a0 a1 a2 a3 a4 hcell
  go_region_held3 (fun w' => Below w1.heap.size w3 w')
    (first | (with_reducible exact hSd) | (with_reducible exact hS5) | (with_reducible exact hS6) | (with_reducible exact hS7) | (with_reducible exact below5 hS7 hg2) | fail)
    (first
      | (go_at_call 41; (with_reducible refine (C1.out _ _ ((hra.mono (hSd.mono s01)).up s03d)).mono ?_); rintro x w5 ⟨rfl, hb5⟩; have hS5 := hSd.trans (hb5.mono s13d); have hr5 := (Row.drewn hr3).next hb5; have t5 := Nat.le_trans s13 hS5.size)
      | (go_at_call 41; (with_reducible refine (C2.out _ _ ((hrb.mono (hS5.mono s01)).up (Nat.le_trans s01 t5))).mono ?_); rintro x w6 ⟨rfl, hb6⟩; have hS6 := hS5.trans (hb6.mono t5); have hr6 := hr5.next hb6; have t6 := Nat.le_trans s13 hS6.size)
      | (go_at_call 41; (with_reducible refine (C3.out _ _ ((hrc.mono (hS6.mono s01)).up (Nat.le_trans s01 t6))).mono ?_); rintro x w7 ⟨rfl, hb7⟩; have hS7 := hS6.trans (hb7.mono t6); have hr7 := hr6.next hb7; obtain ⟨b0, b1, b2, b3, b4⟩ := row5 hr7; have q0 := hr7.free 0; have q1 := hr7.free 1; have q2 := hr7.free 2; have q3 := hr7.free 3; have q4 := hr7.free 4)
      | fail)
  have hR := row_set5 (v0 := .bool true) (v1 := .int .i64 (m1 : Int)) (v2 := .int .u64 (m2 : Int)) (v3 := .int .u64 (m3 : Int)) (v4 := .slice av y.length kk) hr7
  have hBW := below5 (v0 := .bool true) (v1 := .int .i64 (m1 : Int)) (v2 := .int .u64 (m2 : Int)) (v3 := .int .u64 (m3 : Int)) (v4 := .slice av y.length kk) hS7 hg2
  clear hS5 hS6 hS7 b0 b1 b2 b3 b4 q0 q1 q2 q3 q4 hr5 hr6 hr7 hb5 hb6 hb7 t5 t6
  generalize (((((w7.setCell ⟨g2, 0, none⟩ (.bool true)).setCell ⟨g2, 1, none⟩ (.int .i64 (m1 : Int))).setCell ⟨g2, 2, none⟩ (.int .u64 (m2 : Int))).setCell ⟨g2, 3, none⟩ (.int .u64 (m3 : Int))).setCell ⟨g2, 4, none⟩ (.slice av y.length kk)) = W at *
  have hr1W := hr13.mono hBW (by have := hr1.lt; omega)
  have s1W := Nat.le_trans s13 hBW.size
  have hyW := (hrd.mono (hBW.mono s01)).up (Nat.le_trans s01 s1W)
  have haW := (ha31.mono (hBW.mono s01)).up (Nat.le_trans s01 s1W)
  obtain ⟨b0, b1, b2, b3, b4⟩ := row5 hR
  go_wp2_with (first
    | (go_at_call 65; (with_reducible refine (CR.out _ _ _ hyW).mono ?_); rintro x w8 ⟨rfl, hb8⟩; have hr18 := hr1W.next hb8; have hr8 := hR.next hb8; have hy8 := hyW.next hb8; have ha8 := haW.next hb8; obtain ⟨c0, c1, c2, c3, c4⟩ := row5 hr8)
    | (go_at_call 66; (with_reducible refine (CB.out _ _ _ hy8).mono ?_); rintro x w9 ⟨vz, rfl, hz9, hb9⟩; have hr19 := hr18.next hb9; have hr9 := hr8.next hb9; have ha9 := ha8.next hb9; have hy9 := hy8.next hb9)
    | (go_at_call 43; (with_reducible refine (CS.out _ _ _ (RdB.of_own hz9) ha9).mono ?_); rintro x wa ⟨rfl, hba⟩; have hr1a := hr19.next hba; have hra9 := hr9.next hba; have hya := hy9.next hba; obtain ⟨d0, d1, d2, d3, d4⟩ := row5 hra9)
    | (apply wpList_storeRow hr1a #[.bool true, .int .i64 (m1 : Int), .int .u64 (m2 : Int), .int .u64 (m3 : Int), .slice av y.length kk]; rfl; rfl; rfl; rfl; kernel_rfl; rfl; (simp [Value.oneCell']); intro wb hwb hrwb hsb; have HWB := Lib.hid hwb; clear hwb))
  refine ret_rowT rfl hrwb Try.underlying60 (n := 5) (by kernel_rfl) rfl rfl rfl ?_
  have s1 := hb1.size
  have hb0W : Below w.heap.size w W := hb1.trans ((hb13.mono s1).trans (hBW.mono s1))
  have s0 := hb0W.size
  have s8 := hb8.size
  have s9 := hb9.size
  have hbl : Below w.heap.size w wb := by rw [HWB.out]; exact hb0W.trans ((hb8.mono s0).trans ((hb9.mono (by omega)).trans ((hba.mono (by omega)).trans (below_row _ hg1))))
  have hbl3 : Below w.heap.size w3 wb := by rw [HWB.out]; exact (hBW.mono s1).trans ((hb8.mono s0).trans ((hb9.mono (by omega)).trans ((hba.mono (by omega)).trans (below_row _ hg1))))
  exact ⟨av, kk, rfl, (hrd.mono hbl3).up hbl.size, hbl⟩
theorem rread_form3 (v : Value) (b : List Nat) (w : World) (hb : Bytes b) (hr : RdB w.heap.size w v b) (hl : b.length = 128) (h1 : b.getD 0 0 = 1) (hok : (slotOk true ((num ((b.drop 4).take 4) : Nat) : Int) (num ((b.drop 8).take 8)) (num ((b.drop 16).take 8)) 104 = true)) (hs : b.take 4 ≠ [1, 0, 0, 0]) : Calls Try.prog 61 #[v] w (RetRd false 0 0 0 [] false w) := by
  have hsame := slotB_not b hb hl hs
  have hd : ∀ i k, Bytes ((b.drop i).take k) := fun i k => (hb.drop i).take k
  have hlt : ∀ i, num ((b.drop i).take 8) < 18446744073709551616 := fun i => by
    have h := num_lt ((b.drop i).take 8) (hd i 8)
    have h2 : 256 ^ ((b.drop i).take 8).length ≤ 256 ^ 8 := Nat.pow_le_pow_right (by omega) (by rw [List.length_take]; omega)
    omega
  have hlt4 : num ((b.drop 4).take 4) < 4294967296 := by
    have h := num_lt ((b.drop 4).take 4) (hd 4 4)
    have h2 : 256 ^ ((b.drop 4).take 4).length ≤ 256 ^ 4 := Nat.pow_le_pow_right (by omega) (by rw [List.length_take]; omega)
    omega
  have C1 : RowKit.Hid (∀ va w, RdB w.heap.size w va ((b.drop 4).take (8 - 4)) → Calls Try.prog 41 #[va] w (RetB (.int .u64 (num ((b.drop 4).take 4) : Nat)) w)) := Lib.hid (fun va w h => rnum_calls va _ w (hd 4 4) h (by rw [List.length_take]; omega))
  have C2 : RowKit.Hid (∀ va w, RdB w.heap.size w va ((b.drop 8).take (16 - 8)) → Calls Try.prog 41 #[va] w (RetB (.int .u64 (num ((b.drop 8).take 8) : Nat)) w)) := Lib.hid (fun va w h => rnum_calls va _ w (hd 8 8) h (by rw [List.length_take]; omega))
  have C3 : RowKit.Hid (∀ va w, RdB w.heap.size w va ((b.drop 16).take (24 - 16)) → Calls Try.prog 41 #[va] w (RetB (.int .u64 (num ((b.drop 16).take 8) : Nat)) w)) := Lib.hid (fun va w h => rnum_calls va _ w (hd 16 8) h (by rw [List.length_take]; omega))
  have hl2 := hlt 8
  have hl3 := hlt 16
  obtain ⟨m1, hm1⟩ : ∃ m, m = num ((b.drop 4).take 4) := ⟨_, rfl⟩
  obtain ⟨m2, hm2⟩ : ∃ m, m = num ((b.drop 8).take 8) := ⟨_, rfl⟩
  obtain ⟨m3, hm3⟩ : ∃ m, m = num ((b.drop 16).take 8) := ⟨_, rfl⟩
  rw [← hm1] at C1 hok hlt4
  rw [← hm2] at C2 hok hl2
  rw [← hm3] at C3 hok hl3
  rw [← hm1, ← hm2, ← hm3] at hsame
  obtain ⟨y, hy⟩ : ∃ y, y = b.drop 24 := ⟨_, rfl⟩
  have hyl : y.length = 104 := by rw [hy, List.length_drop]; omega
  have hycut : (b.drop 24).take (128 - 24) = y := by rw [hy, List.take_of_length_le (by rw [List.length_drop]; omega)]
  have hw1 : IntKind.i64.wrap (m1 : Int) = m1 := IntWalk.i64_in _ (by omega)
  obtain ⟨x, hx⟩ : ∃ x, x = b.getD 0 0 := ⟨_, rfl⟩
  have f1 : ((x : Int) == 1) = true := by rw [beq_iff_eq]; omega
  have HX := Lib.hid hx.symm
  have HBL := Lib.hid hl
  have HYC := Lib.hid hycut
  have HYL := Lib.hid hyl
  have CR : RowKit.Hid (∀ av kk w, RdB w.heap.size w (.slice av y.length kk) y → Calls Try.prog 65 #[.agg #[.bool true, .int .i64 (m1 : Int), .int .u64 (m2 : Int), .int .u64 (m3 : Int), .slice av y.length kk]] w (RetB (.bool true) w)) := Lib.hid (fun av kk w hh => by have h2 := rsright_calls true (m1 : Int) m2 m3 (.slice av y.length kk) y w hh; rw [hyl, hok, ← hyl] at h2; exact h2)
  rw [← hy] at hsame
  obtain ⟨z, hzz⟩ : ∃ z, z = slotB true (m1 : Int) m2 m3 y := ⟨_, rfl⟩
  rw [← hzz] at hsame
  have CB : RowKit.Hid (∀ av kk w, RdB w.heap.size w (.slice av y.length kk) y → Calls Try.prog 66 #[.agg #[.bool true, .int .i64 (m1 : Int), .int .u64 (m2 : Int), .int .u64 (m3 : Int), .slice av y.length kk]] w (RetS z w)) := Lib.hid (fun av kk w hh => hzz ▸ rbytes_yes (m1 : Int) m2 m3 (.slice av y.length kk) y w hl2 hl3 hh (by rw [hyl]; exact hok))
  have CS := same_at z b (by rw [hzz, slotB_length (by rw [hyl]; exact hok)]; omega) false (decide_eq_false hsame)
  clear hx h1 hl hok hm1 hm2 hm3 hy hyl hycut hlt hd hlt4 hl2 hl3 hsame hzz hs
  go_enter Try.func61, Try.ntmps61
  go_wp2_with (first
    | (apply wpList_allocR (w := w) (.agg #[.bool false, .int .i64 0, .int .u64 0, .int .u64 0, .slice none 0 0]) 5; kernel_rfl; rfl; rfl; intro g1 w1 hg1 hg1' hr1 hb1; have ha1 := hr.next hb1)
    | (refine wpList_buildP [] #[.bool false, .int .i64 0, .int .u64 0, .int .u64 0, .slice none 0 0] (by kernel_rfl) rfl rfl rfl ?_)
    | (apply wpList_allocR (w := w1) (.agg #[.bool false, .int .i64 0, .int .u64 0, .int .u64 0, .slice none 0 0]) 5; kernel_rfl; rfl; rfl; intro g2 w2 hg2 hg2' hr2 hb2)
    | (apply wpList_storeRow hr2 #[.bool false, .int .i64 0, .int .u64 0, .int .u64 0, .slice none 0 0]; rfl; rfl; rfl; rfl; kernel_rfl; rfl; kernel_rfl; intro w3 hw3 hr3 hs3; have hb13 : Below w1.heap.size w1 w3 := hb2.trans (by rw [hw3]; exact below_row _ hg2); have ha3 := ha1.next hb13; have ha31 := hr.mono (hb1.trans (hb13.mono hb1.size)); have hr13 := hr1.next hb13; clear hw3; obtain ⟨a0, a1, a2, a3, a4⟩ := row5 hr3)
    | (apply wpList_indexB ha3 0 (by rw [HBL.out]; omega); rfl; rfl; rfl; rfl; rfl; rw [HX.out]; intro p hp hcell))
  obtain ⟨va, hva, hra⟩ := run_cutM ha31 4 8 (by omega) (by rw [HBL.out]; omega) (N := 4) (M := 8) rfl rfl
  obtain ⟨vb, hvb, hrb⟩ := run_cutM ha31 8 16 (by omega) (by rw [HBL.out]; omega) (N := 8) (M := 16) rfl rfl
  obtain ⟨vc, hvc, hrc⟩ := run_cutM ha31 16 24 (by omega) (by rw [HBL.out]; omega) (N := 16) (M := 24) rfl rfl
  obtain ⟨vd, hvd, hrd⟩ := run_cutM ha31 24 128 (by omega) (by rw [HBL.out]; omega) (N := 24) (M := 128) rfl rfl
  rw [HYC.out] at hrd
  have hrd2 := hrd
  obtain ⟨_, av, kk, rfl, _⟩ := hrd2
  have s13 := hb13.size
  have s01 := hb1.size
  have s03 := Nat.le_trans s01 s13
  have s03d : w.heap.size ≤ w3.drew.heap.size := s03
  have s13d : w1.heap.size ≤ w3.drew.heap.size := s13
  have hSd : Below w1.heap.size w3 w3.drew := (Below.refl _ _).drew
  clear a0 a1 a2 a3 a4 hcell
  go_region_held3 (fun w' => Below w1.heap.size w3 w')
    (first | (with_reducible exact hSd) | (with_reducible exact hS5) | (with_reducible exact hS6) | (with_reducible exact hS7) | (with_reducible exact below5 hS7 hg2) | fail)
    (first
      | (go_at_call 41; (with_reducible refine (C1.out _ _ ((hra.mono (hSd.mono s01)).up s03d)).mono ?_); rintro x w5 ⟨rfl, hb5⟩; have hS5 := hSd.trans (hb5.mono s13d); have hr5 := (Row.drewn hr3).next hb5; have t5 := Nat.le_trans s13 hS5.size)
      | (go_at_call 41; (with_reducible refine (C2.out _ _ ((hrb.mono (hS5.mono s01)).up (Nat.le_trans s01 t5))).mono ?_); rintro x w6 ⟨rfl, hb6⟩; have hS6 := hS5.trans (hb6.mono t5); have hr6 := hr5.next hb6; have t6 := Nat.le_trans s13 hS6.size)
      | (go_at_call 41; (with_reducible refine (C3.out _ _ ((hrc.mono (hS6.mono s01)).up (Nat.le_trans s01 t6))).mono ?_); rintro x w7 ⟨rfl, hb7⟩; have hS7 := hS6.trans (hb7.mono t6); have hr7 := hr6.next hb7; obtain ⟨b0, b1, b2, b3, b4⟩ := row5 hr7; have q0 := hr7.free 0; have q1 := hr7.free 1; have q2 := hr7.free 2; have q3 := hr7.free 3; have q4 := hr7.free 4)
      | fail)
  have hR := row_set5 (v0 := .bool true) (v1 := .int .i64 (m1 : Int)) (v2 := .int .u64 (m2 : Int)) (v3 := .int .u64 (m3 : Int)) (v4 := .slice av y.length kk) hr7
  have hBW := below5 (v0 := .bool true) (v1 := .int .i64 (m1 : Int)) (v2 := .int .u64 (m2 : Int)) (v3 := .int .u64 (m3 : Int)) (v4 := .slice av y.length kk) hS7 hg2
  clear hS5 hS6 hS7 b0 b1 b2 b3 b4 q0 q1 q2 q3 q4 hr5 hr6 hr7 hb5 hb6 hb7 t5 t6
  generalize (((((w7.setCell ⟨g2, 0, none⟩ (.bool true)).setCell ⟨g2, 1, none⟩ (.int .i64 (m1 : Int))).setCell ⟨g2, 2, none⟩ (.int .u64 (m2 : Int))).setCell ⟨g2, 3, none⟩ (.int .u64 (m3 : Int))).setCell ⟨g2, 4, none⟩ (.slice av y.length kk)) = W at *
  have hr1W := hr13.mono hBW (by have := hr1.lt; omega)
  have s1W := Nat.le_trans s13 hBW.size
  have hyW := (hrd.mono (hBW.mono s01)).up (Nat.le_trans s01 s1W)
  have haW := (ha31.mono (hBW.mono s01)).up (Nat.le_trans s01 s1W)
  obtain ⟨b0, b1, b2, b3, b4⟩ := row5 hR
  go_wp2_with (first
    | (go_at_call 65; (with_reducible refine (CR.out _ _ _ hyW).mono ?_); rintro x w8 ⟨rfl, hb8⟩; have hr18 := hr1W.next hb8; have hr8 := hR.next hb8; have hy8 := hyW.next hb8; have ha8 := haW.next hb8; obtain ⟨c0, c1, c2, c3, c4⟩ := row5 hr8)
    | (go_at_call 66; (with_reducible refine (CB.out _ _ _ hy8).mono ?_); rintro x w9 ⟨vz, rfl, hz9, hb9⟩; have hr19 := hr18.next hb9; have hr9 := hr8.next hb9; have ha9 := ha8.next hb9; have hy9 := hy8.next hb9)
    | (go_at_call 43; (with_reducible refine (CS.out _ _ _ (RdB.of_own hz9) ha9).mono ?_); rintro x wa ⟨rfl, hba⟩; have hr1a := hr19.next hba; have hra9 := hr9.next hba; have hya := hy9.next hba; obtain ⟨d0, d1, d2, d3, d4⟩ := row5 hra9)
    | (refine wpList_buildP [] #[.bool false, .int .i64 0, .int .u64 0, .int .u64 0, .slice none 0 0] (by kernel_rfl) rfl rfl rfl ?_)
    | (apply wpList_storeRow hr1a #[.bool false, .int .i64 0, .int .u64 0, .int .u64 0, .slice none 0 0]; rfl; rfl; rfl; rfl; kernel_rfl; rfl; kernel_rfl; intro wb hwb hrwb hsb; have HWB := Lib.hid hwb; clear hwb))
  refine ret_rowT rfl hrwb Try.underlying60 (n := 5) (by kernel_rfl) rfl rfl rfl ?_
  have s1 := hb1.size
  have hb0W : Below w.heap.size w W := hb1.trans ((hb13.mono s1).trans (hBW.mono s1))
  have s0 := hb0W.size
  have s8 := hb8.size
  have s9 := hb9.size
  have hbl : Below w.heap.size w wb := by rw [HWB.out]; exact hb0W.trans ((hb8.mono s0).trans ((hb9.mono (by omega)).trans ((hba.mono (by omega)).trans (below_row _ hg1))))
  exact ⟨none, 0, rfl, RdS.nil _ _ _, hbl⟩
end Go.Proofs.Ytfinekmegiengaa
