/- The walk of the law SlotReads. -/
import Derived.Test.YtfinekmegiengaaW17r
namespace Go.Proofs.Ytfinekmegiengaa
open Go.RowKit Nep
set_option maxRecDepth 100000
set_option linter.unusedVariables false
set_option linter.unusedSimpArgs false
set_option maxHeartbeats 4000000

theorem sreads_short (v : Value) (b : List Nat) (w : World) (hr : RdB w.heap.size w v b) (f1 : ((b.length : Int) != 128) = true) (hC : ∀ w, RdB w.heap.size w v b → Calls Try.prog 59 #[v] w (RetSlE 2 w)) : Calls Try.prog 15 #[v] w (RetB (.bool true) w) := by
  have CK := Lib.hid hC
  have CO : RowKit.Hid (∀ w, Calls Try.prog 52 #[.agg #[.bool false, .int .i64 0, .int .u64 0, .int .u64 0, .slice none 0 0]] w (RetB (.agg #[.bool false, .int .i64 0, .int .u64 0, .int .u64 0, .slice none 0 0]) w)) := Lib.hid (fun w => of_calls false 0 0 0 none 0 0 w)
  have CS : RowKit.Hid (∀ w, Calls Try.prog 60 #[.agg #[.bool false, .int .i64 0, .int .u64 0, .int .u64 0, .slice none 0 0], .agg #[.bool false, .int .i64 0, .int .u64 0, .int .u64 0, .slice none 0 0]] w (RetB (.bool true) w)) := Lib.hid (fun w => rsame_true false 0 0 0 (.slice none 0 0) (.slice none 0 0) [] w (by simp) (RdS.nil _ _ _) (RdS.nil _ _ _))
  clear hC
  go_enter Try.func15, Try.ntmps15
  go_wp2_with (first
    | (go_at_call 59; (with_reducible refine (CK.out _ hr).mono ?_); rintro x w1 ⟨rfl, hb1⟩; have ha1 := hr.next hb1; unfold slotV)
    | (apply wpList_allocR (w := w1) (.agg #[.bool false, .int .i64 0, .int .u64 0, .int .u64 0, .slice none 0 0]) 5; kernel_rfl; rfl; rfl; intro g2 w2 hg2 hg2' hrw2 hb2)
    | (apply wpList_storeRow hrw2 #[.bool false, .int .i64 0, .int .u64 0, .int .u64 0, .slice none 0 0]; rfl; rfl; rfl; rfl; kernel_rfl; rfl; kernel_rfl; intro w3 hw3 hr3 hs3; have hb13 : Below w1.heap.size w1 w3 := hb2.trans (by rw [hw3]; exact below_row _ hg2); have ha3 := ha1.next hb13; have ha30 := ha3; obtain ⟨d0, d1, d2, d3, d4⟩ := row5 hr3; clear hw3)
    | (refine wpList_lenB ha3 rfl rfl rfl ?_; clear ha3)
    | (go_at_call 52; (with_reducible refine (CO.out _).mono ?_); rintro x w7 ⟨rfl, hb7⟩)
    | (refine wpList_buildP [] #[.bool false, .int .i64 0, .int .u64 0, .int .u64 0, .slice none 0 0] (by kernel_rfl) rfl rfl rfl ?_)
    | (go_at_call 60; (with_reducible refine (CS.out _).mono ?_); rintro x w8 ⟨rfl, hb8⟩)
    | (go_at_call 53; refine (awake17 _).mono ?_; rintro x w9 ⟨rfl, hb9⟩)
    | fail)
  go_ret
  have s1 := hb1.size
  have s3 := hb13.size
  have s7 := hb7.size
  have s8 := hb8.size
  exact RetB.mk rfl (hb1.trans ((hb13.mono s1).trans ((hb7.mono (by omega)).trans ((hb8.mono (by omega)).trans (hb9.mono (by omega))))))
theorem sreads_form (v : Value) (b : List Nat) (w : World) (hr : RdB w.heap.size w v b) (f1 : ((b.length : Int) != 128) = false) (hC : ∀ w, RdB w.heap.size w v b → Calls Try.prog 59 #[v] w (RetSlE 1 w)) (hD : ∀ w, RdB w.heap.size w v b → Calls Try.prog 61 #[v] w (RetRd false 0 0 0 [] false w)) : Calls Try.prog 15 #[v] w (RetB (.bool true) w) := by
  have CK := Lib.hid hC
  have CD := Lib.hid hD
  have CO : RowKit.Hid (∀ w, Calls Try.prog 52 #[.agg #[.bool false, .int .i64 0, .int .u64 0, .int .u64 0, .slice none 0 0]] w (RetB (.agg #[.bool false, .int .i64 0, .int .u64 0, .int .u64 0, .slice none 0 0]) w)) := Lib.hid (fun w => of_calls false 0 0 0 none 0 0 w)
  have CS : RowKit.Hid (∀ w, Calls Try.prog 60 #[.agg #[.bool false, .int .i64 0, .int .u64 0, .int .u64 0, .slice none 0 0], .agg #[.bool false, .int .i64 0, .int .u64 0, .int .u64 0, .slice none 0 0]] w (RetB (.bool true) w)) := Lib.hid (fun w => rsame_true false 0 0 0 (.slice none 0 0) (.slice none 0 0) [] w (by simp) (RdS.nil _ _ _) (RdS.nil _ _ _))
  clear hC hD
  go_enter Try.func15, Try.ntmps15
  go_wp2_with (first
    | (go_at_call 59; (with_reducible refine (CK.out _ hr).mono ?_); rintro x w1 ⟨rfl, hb1⟩; have ha1 := hr.next hb1; unfold slotV)
    | (apply wpList_allocR (w := w1) (.agg #[.bool false, .int .i64 0, .int .u64 0, .int .u64 0, .slice none 0 0]) 5; kernel_rfl; rfl; rfl; intro g2 w2 hg2 hg2' hrw2 hb2)
    | (apply wpList_storeRow hrw2 #[.bool false, .int .i64 0, .int .u64 0, .int .u64 0, .slice none 0 0]; rfl; rfl; rfl; rfl; kernel_rfl; rfl; kernel_rfl; intro w3 hw3 hr3 hs3; have hb13 : Below w1.heap.size w1 w3 := hb2.trans (by rw [hw3]; exact below_row _ hg2); have ha3 := ha1.next hb13; have ha30 := ha3; obtain ⟨d0, d1, d2, d3, d4⟩ := row5 hr3; clear hw3)
    | (refine wpList_lenB ha3 rfl rfl rfl ?_; clear ha3)
    | (go_at_call 61; (with_reducible refine (CD.out _ ha30).mono ?_); rintro x w4 ⟨av, k, rfl, hy4, hb4⟩; have hr34 := hr3.next hb4; unfold slotV)
    | (apply wpList_allocR (w := w4) (.agg #[.bool false, .int .i64 0, .int .u64 0, .int .u64 0, .slice none 0 0]) 5; kernel_rfl; rfl; rfl; intro g5 w5 hg5 hg5' hrw5 hb5)
    | (apply wpList_storeRow hrw5 #[.bool false, .int .i64 0, .int .u64 0, .int .u64 0, .slice av ([] : List Nat).length k]; rfl; rfl; rfl; rfl; kernel_rfl; rfl; (simp [Value.oneCell']); intro w6 hw6 hr6 hs6; have hb46 : Below w4.heap.size w4 w6 := hb5.trans (by rw [hw6]; exact below_row _ hg5); have hr36 := hr34.next hb46; obtain ⟨c0, c1, c2, c3, c4⟩ := row5 hr36; clear hw6)
    | (go_at_call 52; (with_reducible refine (CO.out _).mono ?_); rintro x w7 ⟨rfl, hb7⟩)
    | (refine wpList_buildP [] #[.bool false, .int .i64 0, .int .u64 0, .int .u64 0, .slice none 0 0] (by kernel_rfl) rfl rfl rfl ?_)
    | (go_at_call 60; (with_reducible refine (CS.out _).mono ?_); rintro x w8 ⟨rfl, hb8⟩)
    | (go_at_call 53; refine (awake17 _).mono ?_; rintro x w9 ⟨rfl, hb9⟩)
    | fail)
  go_ret
  have s1 := hb1.size
  have s3 := hb13.size
  have s7 := hb7.size
  have s8 := hb8.size
  have s4 := hb4.size
  have s6 := hb46.size
  exact RetB.mk rfl (hb1.trans ((hb13.mono s1).trans ((hb4.mono (by omega)).trans ((hb46.mono (by omega)).trans ((hb7.mono (by omega)).trans ((hb8.mono (by omega)).trans (hb9.mono (by omega))))))))
theorem sreads_good (v : Value) (b : List Nat) (w : World) (hr : RdB w.heap.size w v b) (hl : b.length = 128) (u : Bool) (s : Int) (e c : Nat) (y : List Nat) (hyl : y.length ≤ 1000) (hC : ∀ w, RdB w.heap.size w v b → Calls Try.prog 59 #[v] w (RetSr u s e c y w)) (hD : ∀ w, RdB w.heap.size w v b → Calls Try.prog 61 #[v] w (RetRd u s e c y true w)) (hB : ∀ av k w, RdB w.heap.size w (.slice av y.length k) y → Calls Try.prog 62 #[.agg #[.bool u, .int .i64 s, .int .u64 (e : Int), .int .u64 (c : Int), .slice av y.length k]] w (RetSE b w)) : Calls Try.prog 15 #[v] w (RetB (.bool true) w) := by
  have CK := Lib.hid hC
  have CD := Lib.hid hD
  have CB := Lib.hid hB
  have f1 : ((b.length : Int) != 128) = false := by simp; omega
  have QL := same_true b (by omega)
  have CO : RowKit.Hid (∀ av kk w, Calls Try.prog 52 #[.agg #[.bool u, .int .i64 s, .int .u64 (e : Int), .int .u64 (c : Int), .slice av y.length kk]] w (RetB (.agg #[.bool u, .int .i64 s, .int .u64 (e : Int), .int .u64 (c : Int), .slice av y.length kk]) w)) := Lib.hid (fun av kk w => of_calls u s e c av y.length kk w)
  have CS : RowKit.Hid (∀ av kk av2 k2 w, RdB w.heap.size w (.slice av y.length kk) y → RdB w.heap.size w (.slice av2 y.length k2) y → Calls Try.prog 60 #[.agg #[.bool u, .int .i64 s, .int .u64 (e : Int), .int .u64 (c : Int), .slice av y.length kk], .agg #[.bool u, .int .i64 s, .int .u64 (e : Int), .int .u64 (c : Int), .slice av2 y.length k2]] w (RetB (.bool true) w)) := Lib.hid (fun av kk av2 k2 w a d => rsame_true u s e c _ _ y w (by omega) a d)
  clear hC hD hB hl
  go_enter Try.func15, Try.ntmps15
  go_wp2_with (first
    | (go_at_call 59; (with_reducible refine (CK.out _ hr).mono ?_); rintro x w1 ⟨av, kk, rfl, hy1, hb1⟩; have ha1 := hr.next hb1; unfold slotV)
    | (apply wpList_allocR (w := w1) (.agg #[.bool false, .int .i64 0, .int .u64 0, .int .u64 0, .slice none 0 0]) 5; kernel_rfl; rfl; rfl; intro g2 w2 hg2 hg2' hrw2 hb2)
    | (apply wpList_storeRow hrw2 #[.bool u, .int .i64 s, .int .u64 (e : Int), .int .u64 (c : Int), .slice av y.length kk]; rfl; rfl; rfl; rfl; kernel_rfl; rfl; (simp [Value.oneCell']); intro w3 hw3 hr3 hs3; have hb13 : Below w1.heap.size w1 w3 := hb2.trans (by rw [hw3]; exact below_row _ hg2); have ha3 := ha1.next hb13; have ha30 := ha3; have hy3 := hy1.next hb13; clear hw3)
    | (refine wpList_lenB ha3 rfl rfl rfl ?_; clear ha3)
    | (go_at_call 61; (with_reducible refine (CD.out _ ha30).mono ?_); rintro x w4 ⟨av2, k2, rfl, hz4, hb4⟩; have hr34 := hr3.next hb4; have hy4 := hy3.next hb4; have ha4 := ha30.next hb4; unfold slotV)
    | (apply wpList_allocR (w := w4) (.agg #[.bool false, .int .i64 0, .int .u64 0, .int .u64 0, .slice none 0 0]) 5; kernel_rfl; rfl; rfl; intro g5 w5 hg5 hg5' hrw5 hb5)
    | (apply wpList_storeRow hrw5 #[.bool u, .int .i64 s, .int .u64 (e : Int), .int .u64 (c : Int), .slice av2 y.length k2]; rfl; rfl; rfl; rfl; kernel_rfl; rfl; (simp [Value.oneCell']); intro w6 hw6 hr6 hs6; have hb46 : Below w4.heap.size w4 w6 := hb5.trans (by rw [hw6]; exact below_row _ hg5); have hr36 := hr34.next hb46; have hy6 := hy4.next hb46; have hz6 := hz4.next hb46; have ha6 := ha4.next hb46; obtain ⟨c0, c1, c2, c3, c4⟩ := row5 hr36; clear hw6)
    | (go_at_call 62; (with_reducible refine (CB.out _ _ _ hy6).mono ?_); rintro x w7 ⟨vb, rfl, hbo, hb7⟩; have hr37 := hr36.next hb7; have hr67 := hr6.next hb7; have hy7 := hy6.next hb7; have hz7 := hz6.next hb7; have ha7 := ha6.next hb7)
    | fail)
  obtain ⟨K0, K1, K2, K3, K4⟩ := row5_at hr37
  obtain ⟨M0, M1, M2, M3, M4⟩ := row5_at hr67
  clear c0 c1 c2 c3 c4
  go_region_held3 (fun w' => Below w7.heap.size w7.drew w')
    (first | (with_reducible exact Below.refl _ _) | (with_reducible exact hS8) | (with_reducible exact hS9) | (with_reducible exact hSa) | (with_reducible exact hSb) | fail)
    (first
      | (go_at_call 52; (with_reducible refine (CO.out _ _ _).mono ?_); rintro x w8 ⟨rfl, hb8⟩; have hS8 := below_call (w := w7) hb8 (by assumption))
      | (go_at_call 60; (with_reducible refine (CS.out _ _ _ _ _ (hy7.next (Below.drewn (by assumption))) (hz7.next (Below.drewn (by assumption)))).mono ?_); rintro x w9 ⟨rfl, hb9⟩; have hS9 := below_call (w := w7) hb9 (by assumption))
      | (go_at_call 43; (with_reducible refine (QL.out _ _ _ ((RdB.of_own hbo).next (Below.drewn (by assumption))) (ha7.next (Below.drewn (by assumption)))).mono ?_); rintro x wa ⟨rfl, hba⟩; have hSa := below_call (w := w7) hba (by assumption))
      | (go_at_call 53; refine (awake17 _).mono ?_; rintro x wb ⟨rfl, hbb⟩; have hSb := below_call (w := w7) hbb (by assumption))
      | fail)
  all_goals
    have hH := Below.drewn ‹Below _ w7.drew _›
    go_wp2_with fail
    go_ret
    have s1 := hb1.size
    have s3 := hb13.size
    have s4 := hb4.size
    have s6 := hb46.size
    have s7 := hb7.size
    exact RetB.mk rfl (hb1.trans ((hb13.mono s1).trans ((hb4.mono (by omega)).trans ((hb46.mono (by omega)).trans ((hb7.mono (by omega)).trans (hH.mono (by omega)))))))
theorem retSr_of {w : World} {x : Ending} {w' : World} (h : RetSlE 0 w x w') : RetSr false 0 0 0 [] w x w' := by
  obtain ⟨rfl, hb⟩ := h
  exact ⟨none, 0, rfl, RdS.nil _ _ _, hb⟩
theorem take4_first {b : List Nat} (hl : b.length = 128) (h : b.take 4 = [1, 0, 0, 0]) : b.getD 0 0 = 1 := by
  match b, hl with
  | a :: t, _ =>
    simp at h
    simp [h.1]
theorem slotReads_walk (v : Value) (b : List Nat) (w : World) (hb : Bytes b) (hr : RdB w.heap.size w v b) : Calls Try.prog 15 #[v] w (RetB (.bool true) w) := by
  by_cases hl : b.length = 128
  · have f1 : ((b.length : Int) != 128) = false := by simp; omega
    by_cases hz : b = List.replicate 128 0
    · have h0 : b.getD 0 0 ≠ 1 := by rw [hz]; decide
      exact sreads_good v b w hr hl false 0 0 0 [] (by simp) (fun w h => (sread_zero v b w hb h hl hz).mono fun e w' he => retSr_of he) (fun w h => rread_zero v b w hb h hl h0 hz.symm) (fun av k w h => by
        have h2 := sbytes_none 0 0 0 (.slice av ([] : List Nat).length k) [] w h rfl
        rw [show slotB false 0 0 0 [] = b from hz.symm] at h2
        exact h2)
    · obtain ⟨r, hrr⟩ : ∃ r, r = (decide (num (b.take 4) = 16777216) && slotOk true ((num ((b.drop 4).take 4) : Nat) : Int) (num ((b.drop 8).take 8)) (num ((b.drop 16).take 8)) 104) := ⟨_, rfl⟩
      have hC := fun w h => sread_calls v b w hb h hl hz r hrr
      by_cases h1 : b.getD 0 0 = 1
      · by_cases ht : b.take 4 = [1, 0, 0, 0]
        · have hm : num (b.take 4) = 16777216 := (take4_num b hb hl).2 ht
          cases hok : slotOk true ((num ((b.drop 4).take 4) : Nat) : Int) (num ((b.drop 8).take 8)) (num ((b.drop 16).take 8)) 104 with
          | false =>
            have hrf : r = false := by rw [hrr, hok]; simp
            rw [hrf] at hC
            exact sreads_form v b w hr f1 hC (fun w h => rread_form2 v b w hb h hl h1 hok)
          | true =>
            have hrf : r = true := by rw [hrr, hok, hm]; rfl
            rw [hrf] at hC
            have hyl : (b.drop 24).length = 104 := by rw [List.length_drop]; omega
            exact sreads_good v b w hr hl true _ _ _ (b.drop 24) (by omega) hC (fun w h => rread_ok v b w hb h hl h1 hok ht) (fun av k w h => by
              have hlt : ∀ i, num ((b.drop i).take 8) < 18446744073709551616 := fun i => by
                have h := num_lt ((b.drop i).take 8) ((hb.drop i).take 8)
                have h2 : 256 ^ ((b.drop i).take 8).length ≤ 256 ^ 8 := Nat.pow_le_pow_right (by omega) (by rw [List.length_take]; omega)
                omega
              have h2 := sbytes_yes ((num ((b.drop 4).take 4) : Nat) : Int) (num ((b.drop 8).take 8)) (num ((b.drop 16).take 8)) (.slice av (b.drop 24).length k) (b.drop 24) w (hlt 8) (hlt 16) h (by rw [hyl]; exact hok)
              rw [slotB_again' b hb hl ht] at h2
              exact h2)
        · have hm : num (b.take 4) ≠ 16777216 := fun h => ht ((take4_num b hb hl).1 h)
          have hrf : r = false := by rw [hrr]; simp [hm]
          rw [hrf] at hC
          cases hok : slotOk true ((num ((b.drop 4).take 4) : Nat) : Int) (num ((b.drop 8).take 8)) (num ((b.drop 16).take 8)) 104 with
          | false => exact sreads_form v b w hr f1 hC (fun w h => rread_form2 v b w hb h hl h1 hok)
          | true => exact sreads_form v b w hr f1 hC (fun w h => rread_form3 v b w hb h hl h1 hok ht)
      · have hm : num (b.take 4) ≠ 16777216 := fun h => h1 (take4_first hl ((take4_num b hb hl).1 h))
        have hrf : r = false := by rw [hrr]; simp [hm]
        rw [hrf] at hC
        exact sreads_form v b w hr f1 hC (fun w h => rread_form1 v b w hb h hl h1 (fun h => hz h.symm))
  · exact sreads_short v b w hr (by simp; omega) (fun w h => sread_short v b w h hl)
end Go.Proofs.Ytfinekmegiengaa
