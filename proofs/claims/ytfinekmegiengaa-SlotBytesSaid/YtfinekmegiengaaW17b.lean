/- The walks of layer 17: slots read as the reference's. -/
import Derived.Test.YtfinekmegiengaaMemS
namespace Go.Proofs.Ytfinekmegiengaa
open Go.RowKit Nep
set_option maxRecDepth 100000
set_option linter.unusedVariables false
set_option linter.unusedSimpArgs false
set_option maxHeartbeats 1000000

/-- the reference's slot of a slot -/
theorem of_calls (u : Bool) (s : Int) (e c : Nat) (av : Option Addr) (m k : Nat) (w : World) : Calls Try.prog 52 #[slotV u s e c (.slice av m k)] w (RetB (slotV u s e c (.slice av m k)) w) := by
  obtain ⟨v1, hv1⟩ : ∃ v1, v1 = slotV u s e c (.slice av m k) := ⟨_, rfl⟩
  have HV1 := Lib.hid hv1
  rw [← hv1]
  clear hv1
  have hbuild : Try.prog.built 60 [(0, .bool u), (1, .int .i64 s), (2, .int .u64 (e : Int)), (3, .int .u64 (c : Int)), (4, .slice av m k)] = some #[.bool u, .int .i64 s, .int .u64 (e : Int), .int .u64 (c : Int), .slice av m k] := by kernel_rfl
  have HB := Lib.hid hbuild
  clear hbuild
  go_enter Try.func52, Try.ntmps52
  go_wp2_with (first
    | (apply wpList_boxR v1; rfl; rfl; rfl; intro g1 w1 hg1 hg1' hr1 hb1; rw [HV1.out] at hr1)
    | (apply wpList_allocR (.agg #[.bool false, .int .i64 0, .int .u64 0, .int .u64 0, .slice none 0 0]) 5; kernel_rfl; rfl; rfl; intro g2 w2 hg2 hg2' hr2 hb2; have hr12 := hr1.next hb2; obtain ⟨a0, a1, a2, a3, a4⟩ := row5 hr12)
    | (refine wpList_buildP _ _ HB.out rfl rfl rfl ?_)
    | (apply wpList_storeRow hr2 #[.bool u, .int .i64 s, .int .u64 (e : Int), .int .u64 (c : Int), .slice av m k]; rfl; rfl; rfl; rfl; kernel_rfl; rfl; (first | kernel_rfl | simp [Value.oneCell'] | decide); intro w3 hw3 hr3 hs3; have HW3 := Lib.hid hw3; clear hw3))
  refine ret_row rfl g2 _ _ (0, 0) _ rfl hr3 rfl Try.underlying60 rfl (by kernel_rfl) ?_
  refine ⟨?_, ?_⟩
  · rw [HV1.out]; rfl
  · rw [HW3.out]
    exact hb1.trans ((hb2.mono hb1.size).trans (below_row _ (Nat.le_trans hb1.size hg2)))
theorem rdead_calls (u : Bool) (s : Int) (e c : Nat) (v : Value) (k n ct b : Int) (he hc : Nat) (r : Bool) (hr : r = (!u || (decide (he < e) || (decide (he = e) && decide (hc ≤ c))))) (w : World) : Calls Try.prog 51 #[slotV u s e c v, headV k n ct b he hc] w (RetB (.bool r) w) := by
  obtain ⟨v1, hv1⟩ : ∃ v1, v1 = slotV u s e c v := ⟨_, rfl⟩
  obtain ⟨v2, hv2⟩ : ∃ v2, v2 = headV k n ct b he hc := ⟨_, rfl⟩
  rw [← hv1, ← hv2]
  have HV1 := Lib.hid hv1
  have HV2 := Lib.hid hv2
  clear hv1 hv2
  cases u with
  | false =>
    obtain rfl : r = true := by rw [hr]; rfl
    clear hr
    go_enter Try.func51, Try.ntmps51
    go_wp2_with (first
      | (apply wpList_boxR v1; rfl; rfl; rfl; intro g1 w1 hg1 hg1' hr1 hb1; rw [HV1.out] at hr1)
      | (apply wpList_boxR v2; rfl; rfl; rfl; intro g2 w2 hg2 hg2' hr2 hb2; rw [HV2.out] at hr2; have hr12 := hr1.next hb2; obtain ⟨a0, a1, a2, a3, a4⟩ := row5 hr12; obtain ⟨b0, b1, b2, b3, b4, b5⟩ := row6 hr2))
    go_ret
    exact RetB.mk rfl (hb1.trans (hb2.mono hb1.size))
  | true =>
   by_cases h1 : he < e
   · obtain rfl : r = true := by rw [hr]; simp [h1]
     have f1 : decide (he < e) = true := by simp [h1]
     clear hr h1
     go_enter Try.func51, Try.ntmps51
     go_wp2_with (first
       | (apply wpList_boxR v1; rfl; rfl; rfl; intro g1 w1 hg1 hg1' hr1 hb1; rw [HV1.out] at hr1)
       | (apply wpList_boxR v2; rfl; rfl; rfl; intro g2 w2 hg2 hg2' hr2 hb2; rw [HV2.out] at hr2; have hr12 := hr1.next hb2; obtain ⟨a0, a1, a2, a3, a4⟩ := row5 hr12; obtain ⟨b0, b1, b2, b3, b4, b5⟩ := row6 hr2))
     go_ret
     exact RetB.mk rfl (hb1.trans (hb2.mono hb1.size))
   · by_cases h2 : he = e
     · obtain rfl : r = decide (hc ≤ c) := by rw [hr]; simp [h2]
       have f1 : decide (he < e) = false := by simp; omega
       have f2 : ((he : Int) == (e : Int)) = true := by simp; omega
       clear hr h1 h2
       go_enter Try.func51, Try.ntmps51
       go_wp2_with (first
         | (apply wpList_boxR v1; rfl; rfl; rfl; intro g1 w1 hg1 hg1' hr1 hb1; rw [HV1.out] at hr1)
         | (apply wpList_boxR v2; rfl; rfl; rfl; intro g2 w2 hg2 hg2' hr2 hb2; rw [HV2.out] at hr2; have hr12 := hr1.next hb2; obtain ⟨a0, a1, a2, a3, a4⟩ := row5 hr12; obtain ⟨b0, b1, b2, b3, b4, b5⟩ := row6 hr2))
       go_ret
       exact RetB.mk rfl (hb1.trans (hb2.mono hb1.size))
     · obtain rfl : r = false := by rw [hr]; simp [h1, h2]
       have f1 : decide (he < e) = false := by simp; omega
       have f2 : ((he : Int) == (e : Int)) = false := by simp; omega
       clear hr h1 h2
       go_enter Try.func51, Try.ntmps51
       go_wp2_with (first
         | (apply wpList_boxR v1; rfl; rfl; rfl; intro g1 w1 hg1 hg1' hr1 hb1; rw [HV1.out] at hr1)
         | (apply wpList_boxR v2; rfl; rfl; rfl; intro g2 w2 hg2 hg2' hr2 hb2; rw [HV2.out] at hr2; have hr12 := hr1.next hb2; obtain ⟨a0, a1, a2, a3, a4⟩ := row5 hr12; obtain ⟨b0, b1, b2, b3, b4, b5⟩ := row6 hr2))
       go_ret
       exact RetB.mk rfl (hb1.trans (hb2.mono hb1.size))
end Go.Proofs.Ytfinekmegiengaa
