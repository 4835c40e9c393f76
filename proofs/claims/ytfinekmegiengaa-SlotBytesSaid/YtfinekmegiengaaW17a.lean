/- The walks of layer 17: heads compared, slots read as the reference's, is a head dead? -/
import Derived.Test.YtfinekmegiengaaMemS
namespace Go.Proofs.Ytfinekmegiengaa
open Go.RowKit Nep
set_option maxRecDepth 100000
set_option linter.unusedVariables false
set_option linter.unusedSimpArgs false
set_option maxHeartbeats 1000000

/-- one place is ahead of another -/
def ltP (e c e' c' : Nat) : Bool := if e = e' then decide (c < c') else decide (e < e')
theorem less_calls (k n ct b k' n' ct' b' : Int) (e c e' c' : Nat) (w : World) : Calls Try.prog 120 #[headV k n ct b e c, headV k' n' ct' b' e' c'] w (RetB (.bool (ltP e c e' c')) w) := by
  obtain ⟨v1, hv1⟩ : ∃ v1, v1 = headV k n ct b e c := ⟨_, rfl⟩
  obtain ⟨v2, hv2⟩ : ∃ v2, v2 = headV k' n' ct' b' e' c' := ⟨_, rfl⟩
  rw [← hv1, ← hv2]
  have HV1 := Lib.hid hv1
  have HV2 := Lib.hid hv2
  clear hv1 hv2
  by_cases hee : e = e'
  · have fe : ((e : Int) != (e' : Int)) = false := by simp; omega
    have hlt : ltP e c e' c' = decide (c < c') := by unfold ltP; rw [if_pos hee]
    rw [hlt]
    clear hee hlt
    go_enter Try.func120, Try.ntmps120
    go_wp2_with (first
      | (apply wpList_boxR v1; rfl; rfl; rfl; intro g1 w1 hg1 hg1' hr1 hb1; rw [HV1.out] at hr1)
      | (apply wpList_boxR v2; rfl; rfl; rfl; intro g2 w2 hg2 hg2' hr2 hb2; rw [HV2.out] at hr2; have hr12 := hr1.next hb2; obtain ⟨a0, a1, a2, a3, a4, a5⟩ := row6 hr12; obtain ⟨b0, b1, b2, b3, b4, b5⟩ := row6 hr2))
    go_ret
    exact RetB.mk rfl (hb1.trans (hb2.mono hb1.size))
  · have fe : ((e : Int) != (e' : Int)) = true := by simp; omega
    have hlt : ltP e c e' c' = decide (e < e') := by unfold ltP; rw [if_neg hee]
    rw [hlt]
    clear hee hlt
    go_enter Try.func120, Try.ntmps120
    go_wp2_with (first
      | (apply wpList_boxR v1; rfl; rfl; rfl; intro g1 w1 hg1 hg1' hr1 hb1; rw [HV1.out] at hr1)
      | (apply wpList_boxR v2; rfl; rfl; rfl; intro g2 w2 hg2 hg2' hr2 hb2; rw [HV2.out] at hr2; have hr12 := hr1.next hb2; obtain ⟨a0, a1, a2, a3, a4, a5⟩ := row6 hr12; obtain ⟨b0, b1, b2, b3, b4, b5⟩ := row6 hr2))
    go_ret
    exact RetB.mk rfl (hb1.trans (hb2.mono hb1.size))

theorem built_head (e c : Int) : Try.prog.built 57 [(4, .int .u64 e), (5, .int .u64 c)] = some #[.int .i64 0, .int .i64 0, .int .i64 0, .int .u32 0, .int .u64 e, .int .u64 c] := by kernel_rfl
/-- is a head dead beneath a slot? -/
def deadB (u : Bool) (e c he hc : Nat) : Bool := !u || !(ltP e c he hc)
theorem dead_calls (u : Bool) (s : Int) (e c : Nat) (v : Value) (k n ct b : Int) (he hc : Nat) (w : World) : Calls Try.prog 50 #[slotV u s e c v, headV k n ct b he hc] w (RetB (.bool (deadB u e c he hc)) w) := by
  obtain ⟨v1, hv1⟩ : ∃ v1, v1 = slotV u s e c v := ⟨_, rfl⟩
  obtain ⟨v2, hv2⟩ : ∃ v2, v2 = headV k n ct b he hc := ⟨_, rfl⟩
  rw [← hv1, ← hv2]
  have HV1 := Lib.hid hv1
  have HV2 := Lib.hid hv2
  clear hv1 hv2
  have C : RowKit.Hid (∀ w, Calls Try.prog 120 #[.agg #[.int .i64 0, .int .i64 0, .int .i64 0, .int .u32 0, .int .u64 (e : Int), .int .u64 (c : Int)], .agg #[.int .i64 k, .int .i64 n, .int .i64 ct, .int .u32 b, .int .u64 (he : Int), .int .u64 (hc : Int)]] w (RetB (.bool (ltP e c he hc)) w)) := Lib.hid (fun w => less_calls 0 0 0 0 k n ct b e c he hc w)
  unfold deadB
  cases u with
  | false =>
    go_enter Try.func50, Try.ntmps50
    go_wp2_with (first
      | (apply wpList_boxR v1; rfl; rfl; rfl; intro g1 w1 hg1 hg1' hr1 hb1; rw [HV1.out] at hr1)
      | (apply wpList_boxR v2; rfl; rfl; rfl; intro g2 w2 hg2 hg2' hr2 hb2; rw [HV2.out] at hr2; have hr12 := hr1.next hb2; obtain ⟨a0, a1, a2, a3, a4⟩ := row5 hr12))
    go_ret
    exact RetB.mk rfl (hb1.trans (hb2.mono hb1.size))
  | true =>
    generalize ltP e c he hc = r at *
    go_enter Try.func50, Try.ntmps50
    go_wp2_with (first
      | (apply wpList_boxR v1; rfl; rfl; rfl; intro g1 w1 hg1 hg1' hr1 hb1; rw [HV1.out] at hr1)
      | (apply wpList_boxR v2; rfl; rfl; rfl; intro g2 w2 hg2 hg2' hr2 hb2; rw [HV2.out] at hr2; have hr12 := hr1.next hb2; obtain ⟨a0, a1, a2, a3, a4⟩ := row5 hr12)
      | (refine wpList_buildP _ _ (built_head (e : Int) (c : Int)) rfl rfl rfl ?_)
      | (refine wpList_loadSt (cs := [.int .i64 k, .int .i64 n, .int .i64 ct, .int .u32 b, .int .u64 (he : Int), .int .u64 (hc : Int)]) hr2 Try.underlying57 (n := 6) (by kernel_rfl) rfl rfl rfl rfl ?_)
      | (go_at_call 120; refine (C.out _).mono ?_; rintro e w3 ⟨rfl, hb3⟩))
    go_ret
    have s1 := hb1.size
    exact RetB.mk rfl (hb1.trans ((hb2.mono hb1.size).trans (hb3.mono (Nat.le_trans s1 hb2.size))))

end Go.Proofs.Ytfinekmegiengaa
