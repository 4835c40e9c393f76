/- The walk of the law SlotMakes. -/
import Derived.Test.YtfinekmegiengaaW17g
import Derived.Test.YtfinekmegiengaaLawF
namespace Go.Proofs.Ytfinekmegiengaa
open Go.RowKit Nep
set_option maxRecDepth 100000
set_option linter.unusedVariables false
set_option linter.unusedSimpArgs false
set_option maxHeartbeats 4000000

theorem smake_bad (v1 v3 v4 : Value) (s : Int) (kek l : List Nat) (w : World) (hkb : Bytes kek) (hr1 : RdB w.heap.size w v1 kek) (hr4 : RdB w.heap.size w v4 l) (h : s < 1 ∨ 65535 < s ∨ l.length ≠ 96 ∨ kek.length ≠ 32) : Calls Try.prog 75 #[v1, .int .i64 s, v3, v4] w (RetSlE 2 w) := by
  by_cases h1 : s < 1
  · exact smake_bad1 v1 v3 v4 s w (by simp [h1])
  · by_cases h2 : 65535 < s
    · exact smake_bad2 v1 v3 v4 s w (by simp [h1]) (by simp [h2])
    · by_cases h3 : l.length ≠ 96
      · exact smake_bad3 v1 v3 v4 s l w (by simp [h1]) (by simp [h2]) hr4 (by simp; omega)
      · exact smake_bad4 v1 v3 v4 s kek l w (by simp [h1]) (by simp [h2]) hkb hr1 hr4 (by simp; omega) (by omega)
theorem row2 {w : World} {g : Nat} {t : TypeId} {v0 v1 : Value} (h : Row w g t #[v0, v1]) : w.cell? ⟨g, 0, none⟩ = some v0 ∧ w.cell? ⟨g, 1, none⟩ = some v1 := ⟨h.cell rfl, h.cell rfl⟩
theorem row2_at {w : World} {g : Nat} {t : TypeId} {v0 v1 : Value} (h : Row w g t #[v0, v1]) :
    (∀ w', Below w.heap.size w.drew w' → w'.cell? ⟨g, 0, none⟩ = some v0) ∧ (∀ w', Below w.heap.size w.drew w' → w'.cell? ⟨g, 1, none⟩ = some v1) :=
  ⟨fun w' hb => (h.next ((Below.refl _ _).drew.trans hb)).cell rfl, fun w' hb => (h.next ((Below.refl _ _).drew.trans hb)).cell rfl⟩

theorem smakes_1 (va vb : Value) (kek keys : List Nat) (s : Int) (k n ct b : Int) (e c : Nat) (w : World) (hkb : Bytes kek) (hkeb : Bytes keys) (hra : RdB w.heap.size w va kek) (hrb : RdB w.heap.size w vb keys) (f1 : ((kek.length : Int) != 32) = true) (h0 : s < 1 ∨ 65535 < s ∨ keys.length ≠ 96 ∨ kek.length ≠ 32) : Calls Try.prog 23 #[twoV va vb, .int .i64 s, headV k n ct b e c] w (RetB (.bool true) w) := by
  obtain ⟨v1, hv1⟩ : ∃ v1, v1 = twoV va vb := ⟨_, rfl⟩
  obtain ⟨v3, hv3⟩ : ∃ v3, v3 = headV k n ct b e c := ⟨_, rfl⟩
  have HV1 := Lib.hid hv1
  have HV3 := Lib.hid hv3
  rw [← hv1, ← hv3]
  clear hv1 hv3
  have CK : RowKit.Hid (∀ w, RdB w.heap.size w va kek → RdB w.heap.size w vb keys → Calls Try.prog 75 #[va, .int .i64 s, .agg #[.int .i64 k, .int .i64 n, .int .i64 ct, .int .u32 b, .int .u64 (e : Int), .int .u64 (c : Int)], vb] w (RetSlE 2 w)) := Lib.hid (fun w a d => smake_bad va _ vb s kek keys w hkb a d h0)
  have CO : RowKit.Hid (∀ w, Calls Try.prog 52 #[.agg #[.bool false, .int .i64 0, .int .u64 0, .int .u64 0, .slice none 0 0]] w (RetB (.agg #[.bool false, .int .i64 0, .int .u64 0, .int .u64 0, .slice none 0 0]) w)) := Lib.hid (fun w => of_calls false 0 0 0 none 0 0 w)
  have CS : RowKit.Hid (∀ w, Calls Try.prog 60 #[.agg #[.bool false, .int .i64 0, .int .u64 0, .int .u64 0, .slice none 0 0], .agg #[.bool false, .int .i64 0, .int .u64 0, .int .u64 0, .slice none 0 0]] w (RetB (.bool true) w)) := Lib.hid (fun w => rsame_true false 0 0 0 (.slice none 0 0) (.slice none 0 0) [] w (by simp) (RdS.nil _ _ _) (RdS.nil _ _ _))
  clear h0
  go_enter Try.func23, Try.ntmps23
  go_wp2_with (first
    | (apply wpList_boxR v1; rfl; rfl; rfl; intro g1 w1 hg1 hg1' hr1 hb1; rw [HV1.out] at hr1; have ha1 := hra.next hb1; have hd1 := hrb.next hb1)
    | (apply wpList_boxR v3; rfl; rfl; rfl; intro g2 w2 hg2 hg2' hr2 hb2; rw [HV3.out] at hr2; have ha2 := ha1.next hb2; have hd2 := hd1.next hb2; have hr12 := hr1.next hb2; obtain ⟨a0, a1⟩ := row2 hr12; obtain ⟨b0, b1, b2, b3, b4, b5⟩ := row6 hr2)
    | (go_at_call 75; (with_reducible refine (CK.out _ ha2 hd2).mono ?_); rintro x w3 ⟨rfl, hb3⟩; have ha3 := ha2.next hb3; have hd3 := hd2.next hb3; have hr13 := hr12.next hb3; unfold slotV)
    | (apply wpList_allocR (.agg #[.bool false, .int .i64 0, .int .u64 0, .int .u64 0, .slice none 0 0]) 5; kernel_rfl; rfl; rfl; intro g4 w4 hg4 hg4' hr4 hb4; have ha4 := ha3.next hb4; have hd4 := hd3.next hb4; have hr14 := hr13.next hb4)
    | (apply wpList_storeRow hr4 #[.bool false, .int .i64 0, .int .u64 0, .int .u64 0, .slice none 0 0]; rfl; rfl; rfl; rfl; kernel_rfl; rfl; kernel_rfl; intro w5 hw5 hr5 hs5; have hb5 : Below w3.heap.size w4 w5 := (by rw [hw5]; exact below_row _ hg4); have hb35 := hb4.trans hb5; have ha5 := ha3.next hb35; have hd5 := hd3.next hb35; have hr15 := hr13.next hb35; obtain ⟨c0, c1⟩ := row2 hr15; obtain ⟨d0, d1, d2, d3, d4⟩ := row5 hr5; clear hw5)
    | (refine wpList_lenB ha5 rfl rfl rfl ?_; clear ha5)
    | (go_at_call 52; (with_reducible refine (CO.out _).mono ?_); rintro x w6 ⟨rfl, hb6⟩)
    | (refine wpList_buildP [] #[.bool false, .int .i64 0, .int .u64 0, .int .u64 0, .slice none 0 0] (by kernel_rfl) rfl rfl rfl ?_)
    | (go_at_call 60; (with_reducible refine (CS.out _).mono ?_); rintro x w7 ⟨rfl, hb7⟩)
    | (go_at_call 53; refine (awake17 _).mono ?_; rintro x w8 ⟨rfl, hb8⟩))
  go_ret
  have s1 := hb1.size
  have s2 := hb2.size
  have s3 := hb3.size
  have s5 := hb35.size
  have s6 := hb6.size
  have s7 := hb7.size
  exact RetB.mk rfl (hb1.trans ((hb2.mono s1).trans ((hb3.mono (by omega)).trans ((hb35.mono (by omega)).trans ((hb6.mono (by omega)).trans ((hb7.mono (by omega)).trans (hb8.mono (by omega))))))))
theorem smakes_2 (va vb : Value) (kek keys : List Nat) (s : Int) (k n ct b : Int) (e c : Nat) (w : World) (hkb : Bytes kek) (hkeb : Bytes keys) (hra : RdB w.heap.size w va kek) (hrb : RdB w.heap.size w vb keys) (f1 : ((kek.length : Int) != 32) = false) (f2 : ((keys.length : Int) != 96) = true) (h0 : s < 1 ∨ 65535 < s ∨ keys.length ≠ 96 ∨ kek.length ≠ 32) : Calls Try.prog 23 #[twoV va vb, .int .i64 s, headV k n ct b e c] w (RetB (.bool true) w) := by
  obtain ⟨v1, hv1⟩ : ∃ v1, v1 = twoV va vb := ⟨_, rfl⟩
  obtain ⟨v3, hv3⟩ : ∃ v3, v3 = headV k n ct b e c := ⟨_, rfl⟩
  have HV1 := Lib.hid hv1
  have HV3 := Lib.hid hv3
  rw [← hv1, ← hv3]
  clear hv1 hv3
  have CK : RowKit.Hid (∀ w, RdB w.heap.size w va kek → RdB w.heap.size w vb keys → Calls Try.prog 75 #[va, .int .i64 s, .agg #[.int .i64 k, .int .i64 n, .int .i64 ct, .int .u32 b, .int .u64 (e : Int), .int .u64 (c : Int)], vb] w (RetSlE 2 w)) := Lib.hid (fun w a d => smake_bad va _ vb s kek keys w hkb a d h0)
  have CO : RowKit.Hid (∀ w, Calls Try.prog 52 #[.agg #[.bool false, .int .i64 0, .int .u64 0, .int .u64 0, .slice none 0 0]] w (RetB (.agg #[.bool false, .int .i64 0, .int .u64 0, .int .u64 0, .slice none 0 0]) w)) := Lib.hid (fun w => of_calls false 0 0 0 none 0 0 w)
  have CS : RowKit.Hid (∀ w, Calls Try.prog 60 #[.agg #[.bool false, .int .i64 0, .int .u64 0, .int .u64 0, .slice none 0 0], .agg #[.bool false, .int .i64 0, .int .u64 0, .int .u64 0, .slice none 0 0]] w (RetB (.bool true) w)) := Lib.hid (fun w => rsame_true false 0 0 0 (.slice none 0 0) (.slice none 0 0) [] w (by simp) (RdS.nil _ _ _) (RdS.nil _ _ _))
  clear h0
  go_enter Try.func23, Try.ntmps23
  go_wp2_with (first
    | (apply wpList_boxR v1; rfl; rfl; rfl; intro g1 w1 hg1 hg1' hr1 hb1; rw [HV1.out] at hr1; have ha1 := hra.next hb1; have hd1 := hrb.next hb1)
    | (apply wpList_boxR v3; rfl; rfl; rfl; intro g2 w2 hg2 hg2' hr2 hb2; rw [HV3.out] at hr2; have ha2 := ha1.next hb2; have hd2 := hd1.next hb2; have hr12 := hr1.next hb2; obtain ⟨a0, a1⟩ := row2 hr12; obtain ⟨b0, b1, b2, b3, b4, b5⟩ := row6 hr2)
    | (go_at_call 75; (with_reducible refine (CK.out _ ha2 hd2).mono ?_); rintro x w3 ⟨rfl, hb3⟩; have ha3 := ha2.next hb3; have hd3 := hd2.next hb3; have hr13 := hr12.next hb3; unfold slotV)
    | (apply wpList_allocR (.agg #[.bool false, .int .i64 0, .int .u64 0, .int .u64 0, .slice none 0 0]) 5; kernel_rfl; rfl; rfl; intro g4 w4 hg4 hg4' hr4 hb4; have ha4 := ha3.next hb4; have hd4 := hd3.next hb4; have hr14 := hr13.next hb4)
    | (apply wpList_storeRow hr4 #[.bool false, .int .i64 0, .int .u64 0, .int .u64 0, .slice none 0 0]; rfl; rfl; rfl; rfl; kernel_rfl; rfl; kernel_rfl; intro w5 hw5 hr5 hs5; have hb5 : Below w3.heap.size w4 w5 := (by rw [hw5]; exact below_row _ hg4); have hb35 := hb4.trans hb5; have ha5 := ha3.next hb35; have hd5 := hd3.next hb35; have hr15 := hr13.next hb35; obtain ⟨c0, c1⟩ := row2 hr15; obtain ⟨d0, d1, d2, d3, d4⟩ := row5 hr5; clear hw5)
    | (refine wpList_lenB ha5 rfl rfl rfl ?_; clear ha5)
    | (refine wpList_lenB hd5 rfl rfl rfl ?_; clear hd5)
    | (go_at_call 52; (with_reducible refine (CO.out _).mono ?_); rintro x w6 ⟨rfl, hb6⟩)
    | (refine wpList_buildP [] #[.bool false, .int .i64 0, .int .u64 0, .int .u64 0, .slice none 0 0] (by kernel_rfl) rfl rfl rfl ?_)
    | (go_at_call 60; (with_reducible refine (CS.out _).mono ?_); rintro x w7 ⟨rfl, hb7⟩)
    | (go_at_call 53; refine (awake17 _).mono ?_; rintro x w8 ⟨rfl, hb8⟩))
  go_ret
  have s1 := hb1.size
  have s2 := hb2.size
  have s3 := hb3.size
  have s5 := hb35.size
  have s6 := hb6.size
  have s7 := hb7.size
  exact RetB.mk rfl (hb1.trans ((hb2.mono s1).trans ((hb3.mono (by omega)).trans ((hb35.mono (by omega)).trans ((hb6.mono (by omega)).trans ((hb7.mono (by omega)).trans (hb8.mono (by omega))))))))
theorem smakes_3 (va vb : Value) (kek keys : List Nat) (s : Int) (k n ct b : Int) (e c : Nat) (w : World) (hkb : Bytes kek) (hkeb : Bytes keys) (hra : RdB w.heap.size w va kek) (hrb : RdB w.heap.size w vb keys) (f1 : ((kek.length : Int) != 32) = false) (f2 : ((keys.length : Int) != 96) = false) (f3 : decide (s < 1) = true) (h0 : s < 1 ∨ 65535 < s ∨ keys.length ≠ 96 ∨ kek.length ≠ 32) : Calls Try.prog 23 #[twoV va vb, .int .i64 s, headV k n ct b e c] w (RetB (.bool true) w) := by
  obtain ⟨v1, hv1⟩ : ∃ v1, v1 = twoV va vb := ⟨_, rfl⟩
  obtain ⟨v3, hv3⟩ : ∃ v3, v3 = headV k n ct b e c := ⟨_, rfl⟩
  have HV1 := Lib.hid hv1
  have HV3 := Lib.hid hv3
  rw [← hv1, ← hv3]
  clear hv1 hv3
  have CK : RowKit.Hid (∀ w, RdB w.heap.size w va kek → RdB w.heap.size w vb keys → Calls Try.prog 75 #[va, .int .i64 s, .agg #[.int .i64 k, .int .i64 n, .int .i64 ct, .int .u32 b, .int .u64 (e : Int), .int .u64 (c : Int)], vb] w (RetSlE 2 w)) := Lib.hid (fun w a d => smake_bad va _ vb s kek keys w hkb a d h0)
  have CO : RowKit.Hid (∀ w, Calls Try.prog 52 #[.agg #[.bool false, .int .i64 0, .int .u64 0, .int .u64 0, .slice none 0 0]] w (RetB (.agg #[.bool false, .int .i64 0, .int .u64 0, .int .u64 0, .slice none 0 0]) w)) := Lib.hid (fun w => of_calls false 0 0 0 none 0 0 w)
  have CS : RowKit.Hid (∀ w, Calls Try.prog 60 #[.agg #[.bool false, .int .i64 0, .int .u64 0, .int .u64 0, .slice none 0 0], .agg #[.bool false, .int .i64 0, .int .u64 0, .int .u64 0, .slice none 0 0]] w (RetB (.bool true) w)) := Lib.hid (fun w => rsame_true false 0 0 0 (.slice none 0 0) (.slice none 0 0) [] w (by simp) (RdS.nil _ _ _) (RdS.nil _ _ _))
  clear h0
  go_enter Try.func23, Try.ntmps23
  go_wp2_with (first
    | (apply wpList_boxR v1; rfl; rfl; rfl; intro g1 w1 hg1 hg1' hr1 hb1; rw [HV1.out] at hr1; have ha1 := hra.next hb1; have hd1 := hrb.next hb1)
    | (apply wpList_boxR v3; rfl; rfl; rfl; intro g2 w2 hg2 hg2' hr2 hb2; rw [HV3.out] at hr2; have ha2 := ha1.next hb2; have hd2 := hd1.next hb2; have hr12 := hr1.next hb2; obtain ⟨a0, a1⟩ := row2 hr12; obtain ⟨b0, b1, b2, b3, b4, b5⟩ := row6 hr2)
    | (go_at_call 75; (with_reducible refine (CK.out _ ha2 hd2).mono ?_); rintro x w3 ⟨rfl, hb3⟩; have ha3 := ha2.next hb3; have hd3 := hd2.next hb3; have hr13 := hr12.next hb3; unfold slotV)
    | (apply wpList_allocR (.agg #[.bool false, .int .i64 0, .int .u64 0, .int .u64 0, .slice none 0 0]) 5; kernel_rfl; rfl; rfl; intro g4 w4 hg4 hg4' hr4 hb4; have ha4 := ha3.next hb4; have hd4 := hd3.next hb4; have hr14 := hr13.next hb4)
    | (apply wpList_storeRow hr4 #[.bool false, .int .i64 0, .int .u64 0, .int .u64 0, .slice none 0 0]; rfl; rfl; rfl; rfl; kernel_rfl; rfl; kernel_rfl; intro w5 hw5 hr5 hs5; have hb5 : Below w3.heap.size w4 w5 := (by rw [hw5]; exact below_row _ hg4); have hb35 := hb4.trans hb5; have ha5 := ha3.next hb35; have hd5 := hd3.next hb35; have hr15 := hr13.next hb35; obtain ⟨c0, c1⟩ := row2 hr15; obtain ⟨d0, d1, d2, d3, d4⟩ := row5 hr5; clear hw5)
    | (refine wpList_lenB ha5 rfl rfl rfl ?_; clear ha5)
    | (refine wpList_lenB hd5 rfl rfl rfl ?_; clear hd5)
    | (go_at_call 52; (with_reducible refine (CO.out _).mono ?_); rintro x w6 ⟨rfl, hb6⟩)
    | (refine wpList_buildP [] #[.bool false, .int .i64 0, .int .u64 0, .int .u64 0, .slice none 0 0] (by kernel_rfl) rfl rfl rfl ?_)
    | (go_at_call 60; (with_reducible refine (CS.out _).mono ?_); rintro x w7 ⟨rfl, hb7⟩)
    | (go_at_call 53; refine (awake17 _).mono ?_; rintro x w8 ⟨rfl, hb8⟩))
  go_ret
  have s1 := hb1.size
  have s2 := hb2.size
  have s3 := hb3.size
  have s5 := hb35.size
  have s6 := hb6.size
  have s7 := hb7.size
  exact RetB.mk rfl (hb1.trans ((hb2.mono s1).trans ((hb3.mono (by omega)).trans ((hb35.mono (by omega)).trans ((hb6.mono (by omega)).trans ((hb7.mono (by omega)).trans (hb8.mono (by omega))))))))
theorem smakes_4 (va vb : Value) (kek keys : List Nat) (s : Int) (k n ct b : Int) (e c : Nat) (w : World) (hkb : Bytes kek) (hkeb : Bytes keys) (hra : RdB w.heap.size w va kek) (hrb : RdB w.heap.size w vb keys) (f1 : ((kek.length : Int) != 32) = false) (f2 : ((keys.length : Int) != 96) = false) (f3 : decide (s < 1) = false) (f4 : decide ((65535 : Int) < s) = true) (h0 : s < 1 ∨ 65535 < s ∨ keys.length ≠ 96 ∨ kek.length ≠ 32) : Calls Try.prog 23 #[twoV va vb, .int .i64 s, headV k n ct b e c] w (RetB (.bool true) w) := by
  obtain ⟨v1, hv1⟩ : ∃ v1, v1 = twoV va vb := ⟨_, rfl⟩
  obtain ⟨v3, hv3⟩ : ∃ v3, v3 = headV k n ct b e c := ⟨_, rfl⟩
  have HV1 := Lib.hid hv1
  have HV3 := Lib.hid hv3
  rw [← hv1, ← hv3]
  clear hv1 hv3
  have CK : RowKit.Hid (∀ w, RdB w.heap.size w va kek → RdB w.heap.size w vb keys → Calls Try.prog 75 #[va, .int .i64 s, .agg #[.int .i64 k, .int .i64 n, .int .i64 ct, .int .u32 b, .int .u64 (e : Int), .int .u64 (c : Int)], vb] w (RetSlE 2 w)) := Lib.hid (fun w a d => smake_bad va _ vb s kek keys w hkb a d h0)
  have CO : RowKit.Hid (∀ w, Calls Try.prog 52 #[.agg #[.bool false, .int .i64 0, .int .u64 0, .int .u64 0, .slice none 0 0]] w (RetB (.agg #[.bool false, .int .i64 0, .int .u64 0, .int .u64 0, .slice none 0 0]) w)) := Lib.hid (fun w => of_calls false 0 0 0 none 0 0 w)
  have CS : RowKit.Hid (∀ w, Calls Try.prog 60 #[.agg #[.bool false, .int .i64 0, .int .u64 0, .int .u64 0, .slice none 0 0], .agg #[.bool false, .int .i64 0, .int .u64 0, .int .u64 0, .slice none 0 0]] w (RetB (.bool true) w)) := Lib.hid (fun w => rsame_true false 0 0 0 (.slice none 0 0) (.slice none 0 0) [] w (by simp) (RdS.nil _ _ _) (RdS.nil _ _ _))
  clear h0
  go_enter Try.func23, Try.ntmps23
  go_wp2_with (first
    | (apply wpList_boxR v1; rfl; rfl; rfl; intro g1 w1 hg1 hg1' hr1 hb1; rw [HV1.out] at hr1; have ha1 := hra.next hb1; have hd1 := hrb.next hb1)
    | (apply wpList_boxR v3; rfl; rfl; rfl; intro g2 w2 hg2 hg2' hr2 hb2; rw [HV3.out] at hr2; have ha2 := ha1.next hb2; have hd2 := hd1.next hb2; have hr12 := hr1.next hb2; obtain ⟨a0, a1⟩ := row2 hr12; obtain ⟨b0, b1, b2, b3, b4, b5⟩ := row6 hr2)
    | (go_at_call 75; (with_reducible refine (CK.out _ ha2 hd2).mono ?_); rintro x w3 ⟨rfl, hb3⟩; have ha3 := ha2.next hb3; have hd3 := hd2.next hb3; have hr13 := hr12.next hb3; unfold slotV)
    | (apply wpList_allocR (.agg #[.bool false, .int .i64 0, .int .u64 0, .int .u64 0, .slice none 0 0]) 5; kernel_rfl; rfl; rfl; intro g4 w4 hg4 hg4' hr4 hb4; have ha4 := ha3.next hb4; have hd4 := hd3.next hb4; have hr14 := hr13.next hb4)
    | (apply wpList_storeRow hr4 #[.bool false, .int .i64 0, .int .u64 0, .int .u64 0, .slice none 0 0]; rfl; rfl; rfl; rfl; kernel_rfl; rfl; kernel_rfl; intro w5 hw5 hr5 hs5; have hb5 : Below w3.heap.size w4 w5 := (by rw [hw5]; exact below_row _ hg4); have hb35 := hb4.trans hb5; have ha5 := ha3.next hb35; have hd5 := hd3.next hb35; have hr15 := hr13.next hb35; obtain ⟨c0, c1⟩ := row2 hr15; obtain ⟨d0, d1, d2, d3, d4⟩ := row5 hr5; clear hw5)
    | (refine wpList_lenB ha5 rfl rfl rfl ?_; clear ha5)
    | (refine wpList_lenB hd5 rfl rfl rfl ?_; clear hd5)
    | (go_at_call 52; (with_reducible refine (CO.out _).mono ?_); rintro x w6 ⟨rfl, hb6⟩)
    | (refine wpList_buildP [] #[.bool false, .int .i64 0, .int .u64 0, .int .u64 0, .slice none 0 0] (by kernel_rfl) rfl rfl rfl ?_)
    | (go_at_call 60; (with_reducible refine (CS.out _).mono ?_); rintro x w7 ⟨rfl, hb7⟩)
    | (go_at_call 53; refine (awake17 _).mono ?_; rintro x w8 ⟨rfl, hb8⟩))
  go_ret
  have s1 := hb1.size
  have s2 := hb2.size
  have s3 := hb3.size
  have s5 := hb35.size
  have s6 := hb6.size
  have s7 := hb7.size
  exact RetB.mk rfl (hb1.trans ((hb2.mono s1).trans ((hb3.mono (by omega)).trans ((hb35.mono (by omega)).trans ((hb6.mono (by omega)).trans ((hb7.mono (by omega)).trans (hb8.mono (by omega))))))))
theorem smakes_5 (va vb : Value) (kek keys : List Nat) (s : Int) (k n ct b : Int) (e c : Nat) (w : World) (hkb : Bytes kek) (hkeb : Bytes keys) (hra : RdB w.heap.size w va kek) (hrb : RdB w.heap.size w vb keys) (h32 : kek.length = 32) (h96 : keys.length = 96) (hs1 : 1 ≤ s) (hs2 : s ≤ 65535) : Calls Try.prog 23 #[twoV va vb, .int .i64 s, headV k n ct b e c] w (RetB (.bool true) w) := by
  obtain ⟨v1, hv1⟩ : ∃ v1, v1 = twoV va vb := ⟨_, rfl⟩
  obtain ⟨v3, hv3⟩ : ∃ v3, v3 = headV k n ct b e c := ⟨_, rfl⟩
  have HV1 := Lib.hid hv1
  have HV3 := Lib.hid hv3
  rw [← hv1, ← hv3]
  clear hv1 hv3
  have hyb := wrapT_blk kek keys 12 h32 hkb (by omega) hkeb (by omega)
  have hub : ∀ vx w, RdB w.heap.size w va kek → RdB w.heap.size w vx (wrapT kek keys 12) → Calls Try.prog 71 #[va, vx] w (RetSE keys w) := fun vx w a d => unwrap_back va vx kek keys 12 w hkb a h32 hkeb (by omega) d (by omega) (by omega)
  obtain ⟨y, hy⟩ : ∃ y, y = wrapT kek keys 12 := ⟨_, rfl⟩
  have CM0 : ∀ w, RdB w.heap.size w va kek → RdB w.heap.size w vb keys → Calls Try.prog 75 #[va, .int .i64 s, .agg #[.int .i64 k, .int .i64 n, .int .i64 ct, .int .u32 b, .int .u64 (e : Int), .int .u64 (c : Int)], vb] w (RetSl true s e c y w) := fun w a d => hy ▸ make_calls va vb kek keys s k n ct b e c w hs1 hs2 hkb h32 a hkeb h96 d
  have CM : RowKit.Hid (∀ w, RdB w.heap.size w va kek → RdB w.heap.size w vb keys → Calls Try.prog 75 #[va, .int .i64 s, .agg #[.int .i64 k, .int .i64 n, .int .i64 ct, .int .u32 b, .int .u64 (e : Int), .int .u64 (c : Int)], vb] w (RetSl true s e c y w)) := Lib.hid CM0
  have CR : RowKit.Hid (∀ vt w, RdB w.heap.size w va kek → RdB w.heap.size w vb keys → RdB w.heap.size w vt sboxL → Calls Try.prog 77 #[va, .int .i64 s, .agg #[.int .i64 k, .int .i64 n, .int .i64 ct, .int .u32 b, .int .u64 (e : Int), .int .u64 (c : Int)], vb, vt] w (RetSv true s e c y w)) := Lib.hid (fun vt w a d f => hy ▸ rmake_calls va vb vt kek keys sboxL s k n ct b e c w hkb h32 a hkeb h96 d f rfl)
  have hyl : y.length = 104 := by rw [hy]; exact hyb.1
  have hyB : Bytes y := by rw [hy]; exact hyb.2
  have CK : RowKit.Hid (∀ av kk w, RdB w.heap.size w va kek → RdB w.heap.size w (.slice av y.length kk) y → Calls Try.prog 76 #[va, .agg #[.bool true, .int .i64 s, .int .u64 (e : Int), .int .u64 (c : Int), .slice av y.length kk]] w (RetSE keys w)) := Lib.hid (fun av kk w a d => keys_get va kek s e c av y.length kk y w hkb a hyB d (slotOk_true.2 ⟨hs1, hs2, hyl⟩) h32 (fun w => RetSE keys w) keys 0 (by funext w; rfl) (fun w a d => hub _ w a (hy ▸ d)))
  have CO : RowKit.Hid (∀ av kk w, Calls Try.prog 52 #[.agg #[.bool true, .int .i64 s, .int .u64 (e : Int), .int .u64 (c : Int), .slice av y.length kk]] w (RetB (.agg #[.bool true, .int .i64 s, .int .u64 (e : Int), .int .u64 (c : Int), .slice av y.length kk]) w)) := Lib.hid (fun av kk w => of_calls true s e c av y.length kk w)
  have CS : RowKit.Hid (∀ av kk av2 k2 w, RdB w.heap.size w (.slice av y.length kk) y → RdB w.heap.size w (.slice av2 y.length k2) y → Calls Try.prog 60 #[.agg #[.bool true, .int .i64 s, .int .u64 (e : Int), .int .u64 (c : Int), .slice av y.length kk], .agg #[.bool true, .int .i64 s, .int .u64 (e : Int), .int .u64 (c : Int), .slice av2 y.length k2]] w (RetB (.bool true) w)) := Lib.hid (fun av kk av2 k2 w a d => rsame_true true s e c _ _ y w (by omega) a d)
  have QL := same_true keys (by omega)
  have f1 : ((kek.length : Int) != 32) = false := by simp; omega
  have f2 : ((keys.length : Int) != 96) = false := by simp; omega
  have f3 : decide (s < 1) = false := by simp; omega
  have f4 : decide ((65535 : Int) < s) = false := by simp; omega
  clear hy hyl hyB hyb hub CM0 h32 h96 hs1 hs2
  go_enter Try.func23, Try.ntmps23
  go_wp2_with (first
    | (apply wpList_boxR v1; rfl; rfl; rfl; intro g1 w1 hg1 hg1' hr1 hb1; rw [HV1.out] at hr1; have ha1 := hra.next hb1; have hd1 := hrb.next hb1)
    | (apply wpList_boxR v3; rfl; rfl; rfl; intro g2 w2 hg2 hg2' hr2 hb2; rw [HV3.out] at hr2; have ha2 := ha1.next hb2; have hd2 := hd1.next hb2; have hr12 := hr1.next hb2; obtain ⟨a0, a1⟩ := row2 hr12; obtain ⟨b0, b1, b2, b3, b4, b5⟩ := row6 hr2)
    | (go_at_call 75; (with_reducible refine (CM.out _ ha2 hd2).mono ?_); rintro x w3 ⟨av0, m, kk0, rfl, ho3, hb3⟩; obtain ⟨av, kk, hvs⟩ := own_isSlice' ho3; injection hvs with q1 q2 q3; have p1 := q1.symm; have p3 := q3.symm; subst p1 p3 q2; have ha3 := ha2.next hb3; have hd3 := hd2.next hb3; have hr13 := hr12.next hb3; have hr23 := hr2.next hb3; have hy3 := RdB.of_own ho3; unfold slotV)
    | (apply wpList_allocR (.agg #[.bool false, .int .i64 0, .int .u64 0, .int .u64 0, .slice none 0 0]) 5; kernel_rfl; rfl; rfl; intro g4 w4 hg4 hg4' hr4 hb4)
    | (apply wpList_storeRow hr4 #[.bool true, .int .i64 s, .int .u64 (e : Int), .int .u64 (c : Int), .slice av y.length kk]; rfl; rfl; rfl; rfl; kernel_rfl; rfl; (first | kernel_rfl | simp [Value.oneCell']); intro w5 hw5 hr5 hs5; have hb5 : Below w3.heap.size w4 w5 := (by rw [hw5]; exact below_row _ hg4); have hb35 := hb4.trans hb5; have ha5 := ha3.next hb35; have hd5 := hd3.next hb35; have ha50 := ha5; have hd50 := hd5; have hy5 := hy3.next hb35; have hr15 := hr13.next hb35; have hr25 := hr23.next hb35; obtain ⟨c0, c1⟩ := row2 hr15; obtain ⟨d0, d1, d2, d3, d4⟩ := row5 hr5; clear hw5)
    | (refine wpList_lenB ha5 rfl rfl rfl ?_; clear ha5)
    | (refine wpList_lenB hd5 rfl rfl rfl ?_; clear hd5)
    | (go_at_call 76; (with_reducible refine (CK.out _ _ _ ha50 hy5).mono ?_); rintro x w6 ⟨vk, rfl, hk6, hb6⟩; have ha6 := ha50.next hb6; have hd6 := hd50.next hb6; have hr16 := hr15.next hb6; have hr26 := hr25.next hb6; have hr56 := hr5.next hb6; have hy6 := hy5.next hb6))
  obtain ⟨K0, K1⟩ := row2_at hr16
  obtain ⟨M0, M1, M2, M3, M4, M5⟩ := row6_at hr26
  obtain ⟨N0, N1, N2, N3, N4⟩ := row5_at hr56
  clear a0 a1 b0 b1 b2 b3 b4 b5 c0 c1 d0 d1 d2 d3 d4
  go_region_held3 (fun w' => Below w6.heap.size w6.drew w')
    (first | (with_reducible exact Below.refl _ _) | (with_reducible exact hS7) | (with_reducible exact hS8) | (with_reducible exact hS9) | (with_reducible exact hSa) | (with_reducible exact hSb) | (with_reducible exact hSc))
    (first
      | (go_at_call 52; (with_reducible refine (CO.out _ _ _).mono ?_); rintro x w7 ⟨rfl, hb7⟩; have hS7 := below_call (w := w6) hb7 (by assumption))
      | (go_at_call 40; refine (rtable_calls _).mono ?_; rintro x w8 ⟨vt, rfl, ht8, hb8⟩; have hS8 := below_call (w := w6) hb8 (by assumption))
      | (go_at_call 77; (with_reducible refine (CR.out _ _ (ha6.next (Below.drewn (by assumption))) (hd6.next (Below.drewn (by assumption))) (by first | (with_reducible exact RdB.of_own ht8) | (with_reducible exact (RdB.of_own ht8).next hb7))).mono ?_); rintro x w9 ⟨av2, k2, rfl, hy9, hb9⟩; have hS9 := below_call (w := w6) hb9 (by assumption); unfold slotV)
      | (go_at_call 60; (with_reducible refine (CS.out _ _ _ _ _ (hy6.next (Below.drewn (by assumption))) (by first | (with_reducible exact hy9) | (with_reducible exact hy9.next hb7))).mono ?_); rintro x wa ⟨rfl, hba⟩; have hSa := below_call (w := w6) hba (by assumption))
      | (go_at_call 43; (with_reducible refine (QL.out _ _ _ ((RdB.of_own hk6).next (Below.drewn (by assumption))) (hd6.next (Below.drewn (by assumption)))).mono ?_); rintro x wb ⟨rfl, hbb⟩; have hSb := below_call (w := w6) hbb (by assumption))
      | (go_at_call 53; refine (awake17 _).mono ?_; rintro x wc ⟨rfl, hbc⟩; have hSc := below_call (w := w6) hbc (by assumption)))
  all_goals
    have hH := Below.drewn ‹Below _ w6.drew _›
    go_wp2_with fail
    go_ret
    have s1 := hb1.size
    have s2 := hb2.size
    have s3 := hb3.size
    have s5 := hb35.size
    have s6 := hb6.size
    exact RetB.mk rfl (hb1.trans ((hb2.mono s1).trans ((hb3.mono (by omega)).trans ((hb35.mono (by omega)).trans ((hb6.mono (by omega)).trans (hH.mono (by omega)))))))
theorem slotMakes_walk (va vb : Value) (kek keys : List Nat) (s : Int) (k n ct b : Int) (e c : Nat) (w : World) (hkb : Bytes kek) (hkeb : Bytes keys) (hra : RdB w.heap.size w va kek) (hrb : RdB w.heap.size w vb keys) : Calls Try.prog 23 #[twoV va vb, .int .i64 s, headV k n ct b e c] w (RetB (.bool true) w) := by
  by_cases h1 : kek.length = 32
  · have f1 : ((kek.length : Int) != 32) = false := by simp; omega
    by_cases h2 : keys.length = 96
    · have f2 : ((keys.length : Int) != 96) = false := by simp; omega
      by_cases h3 : s < 1
      · exact smakes_3 va vb kek keys s k n ct b e c w hkb hkeb hra hrb f1 f2 (by simp [h3]) (.inl h3)
      · by_cases h4 : 65535 < s
        · exact smakes_4 va vb kek keys s k n ct b e c w hkb hkeb hra hrb f1 f2 (by simp [h3]) (by simp [h4]) (.inr (.inl h4))
        · exact smakes_5 va vb kek keys s k n ct b e c w hkb hkeb hra hrb h1 h2 (by omega) (by omega)
    · exact smakes_2 va vb kek keys s k n ct b e c w hkb hkeb hra hrb f1 (by simp; omega) (.inr (.inr (.inl h2)))
  · exact smakes_1 va vb kek keys s k n ct b e c w hkb hkeb hra hrb (by simp; omega) (.inr (.inr (.inr h1)))
end Go.Proofs.Ytfinekmegiengaa
