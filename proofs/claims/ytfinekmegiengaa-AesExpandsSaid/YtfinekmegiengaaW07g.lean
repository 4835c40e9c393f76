/- The walks of layer 7: Encrypt, Decrypt, Shift, Unshift. -/
import Derived.Test.YtfinekmegiengaaW07f
namespace Go.Proofs.Ytfinekmegiengaa
open Go.RowKit Nep
set_option maxRecDepth 100000
set_option linter.unusedVariables false
set_option linter.unusedSimpArgs false
set_option maxHeartbeats 1000000

theorem right_nil (v : Value) (w : World) : Calls Try.prog 108 #[.pointer none, v] w (RetP (.bool false) w) := by
  go_enter Try.func108, Try.ntmps108
  go_wp2
  go_ret
  exact ⟨rfl, rfl⟩

theorem right_calls (B : Nat) (p v : Value) (rk l : List Nat) (w : World) (hk : KeyAt B w p rk) (hr : RdB w.heap.size w v l) : Calls Try.prog 108 #[p, v] w (RetP (.bool (decide (l.length = 16))) w) := by
  obtain ⟨kb, sv, rfl, hkb, hc, hs⟩ := hk
  have h16 : ((l.length : Int) == 16) = decide (l.length = 16) := by
    by_cases h : l.length = 16
    · rw [h]; rfl
    · rw [decide_eq_false h]; simp; omega
  go_enter Try.func108, Try.ntmps108
  go_wp2_with (first
    | (apply wpList_len (t := 51) (by rfl) rfl Try.underlying51 rfl hs)
    | (refine wpList_lenB hr rfl rfl rfl ?_))
  go_ret
  exact ⟨rfl, rfl⟩

theorem shift_short (v : Value) (l : List Nat) (n : Int) (w : World) (hr : RdB w.heap.size w v l) (h : l.length ≠ 16) : Calls Try.prog 117 #[v, .int .i64 n] w (RetE 2 w) := by
  have hne : ((l.length : Int) != 16) = true := by simp; omega
  go_enter Try.func117, Try.ntmps117
  go_wp2_with (first | (refine wpList_lenB hr rfl rfl rfl ?_))
  go_ret2
  exact ⟨rfl, Below.refl _ _⟩

theorem shift_calls' (v : Value) (l : List Nat) (n : Nat) {N : Int} (hN : N = n) (hn : n ≤ 3) (w : World) (hb : Bytes l) (hr : RdB w.heap.size w v l) (h : l.length = 16) : Calls Try.prog 117 #[v, .int .i64 N] w (RetSE (shL l n) w) := by
  subst hN
  have hne : ((l.length : Int) != 16) = false := by rw [h]; rfl
  have C1 : ∀ w, Calls Try.prog 110 #[.agg (bv l).toArray, .int .i64 (n : Int)] w (RetB (blk (shL l n)) w) := fun w => shifted_calls l hb h n rfl hn w
  have hyl : (shL l n).length = 16 := shL_length l n
  generalize shL l n = ys at *
  have HC1 := Lib.hid C1
  clear C1
  have hyl' : (bv ys).length = 16 := by rw [bv_length, hyl]
  have hll : (bv l).length = 16 := by rw [bv_length, h]
  obtain ⟨ad, c, hv, _, hB, hcell⟩ := RdS.addr hr (by intro h0; rw [h0] at hll; simp at hll)
  rw [h] at hv
  subst hv
  go_enter Try.func117, Try.ntmps117
  go_wp2_with (first
    | (refine wpList_lenB hr rfl rfl rfl ?_)
    | (apply wpList_arrL; rfl; rfl; exact Try.underlying49; rfl; omega)
    | (refine wpList_loadArr (by rfl) rfl Try.underlying49 size_a16 rfl (bv l) hll hcell ?_)
    | (go_at_call 110; refine (HC1.out _).mono ?_; rintro e w1 ⟨rfl, hb1⟩)
    | (apply wpList_allocR _ _ zinfo_a16; rfl; rfl; intro gt w2 hgt1 hgt2 hrt hb2; rw [zero16] at hrt)
    | (apply wpList_storeRow hrt (bv ys).toArray; rfl; rfl; rfl; rfl; (rw [List.size_toArray, hyl']; exact size_a16); (rw [List.size_toArray, List.size_toArray, hyl', bv_length, List.length_replicate]); exact bv_all ys; intro w3 hw3 hr3 hs3)
    | (apply wpList_buildB []; exact of_decide_eq_true rfl; rfl; rfl; rfl; intro gb w4 hgb1 hgb2 hob hb4)
    | (apply wpList_cutArrL 0 16 16; rfl; rfl; exact Try.underlying49; exact size_u8; rfl; exact .inl ⟨rfl, rfl⟩; exact .inl ⟨rfl, rfl, rfl⟩; exact .inl ⟨rfl, rfl⟩; omega; omega; omega)
    | (at_builtin; apply wpList_appendB hob (rdb_of_row (hr3.next hb4) hyl); rfl; rfl; rfl; rfl; (rw [hyl]; exact of_decide_eq_true rfl); (have := hb4.size; omega); intro v5 w5 ho5 hg5))
  go_ret2
  have s1 := hb1.size
  have s2 := hb2.size
  have s4 := hb4.size
  have hb3 : Below w.heap.size w w3 := by
    rw [hw3]
    exact (hb1.trans (hb2.mono s1)).trans (below_row _ (by omega))
  have s3 := hb3.size
  exact ⟨v5, rfl, own_base ho5 s3, (hb3.trans (hb4.mono s3)).trans (below_own hg5 hob s3 (by omega))⟩

theorem shift1_short (v : Value) (l : List Nat) (w : World) (hr : RdB w.heap.size w v l) (h : l.length ≠ 16) : Calls Try.prog 45 #[v] w (RetE 2 w) := by
  go_enter Try.func45, Try.ntmps45
  go_wp2_with (first | (go_at_call 117; refine (shift_short _ _ _ _ hr h).mono ?_; rintro e w1 ⟨rfl, hb1⟩))
  go_ret2
  exact ⟨rfl, hb1⟩
theorem shift3_short (v : Value) (l : List Nat) (w : World) (hr : RdB w.heap.size w v l) (h : l.length ≠ 16) : Calls Try.prog 46 #[v] w (RetE 2 w) := by
  go_enter Try.func46, Try.ntmps46
  go_wp2_with (first | (go_at_call 117; refine (shift_short _ _ _ _ hr h).mono ?_; rintro e w1 ⟨rfl, hb1⟩))
  go_ret2
  exact ⟨rfl, hb1⟩
theorem shift1_calls (v : Value) (l : List Nat) (w : World) (hb : Bytes l) (hr : RdB w.heap.size w v l) (h : l.length = 16) : Calls Try.prog 45 #[v] w (RetSE (shL l 1) w) := by
  have C := Lib.hid (fun w hr => shift_calls' v l 1 (N := 1) rfl (by omega) w hb hr h)
  generalize shL l 1 = ys at *
  go_enter Try.func45, Try.ntmps45
  go_wp2_with (first | (go_at_call 117; refine (C.out _ hr).mono ?_; rintro e w1 ⟨v1, rfl, ho1, hb1⟩))
  go_ret2
  exact ⟨v1, rfl, ho1, hb1⟩
theorem shift3_calls (v : Value) (l : List Nat) (w : World) (hb : Bytes l) (hr : RdB w.heap.size w v l) (h : l.length = 16) : Calls Try.prog 46 #[v] w (RetSE (shL l 3) w) := by
  have C := Lib.hid (fun w hr => shift_calls' v l 3 (N := 3) rfl (by omega) w hb hr h)
  generalize shL l 3 = ys at *
  go_enter Try.func46, Try.ntmps46
  go_wp2_with (first | (go_at_call 117; refine (C.out _ hr).mono ?_; rintro e w1 ⟨v1, rfl, ho1, hb1⟩))
  go_ret2
  exact ⟨v1, rfl, ho1, hb1⟩
end Go.Proofs.Ytfinekmegiengaa
