/- The walks of the law of layer 7: awake. -/
import Derived.Test.YtfinekmegiengaaWB
import Derived.Test.YtfinekmegiengaaPlainH
namespace Go.Proofs.Ytfinekmegiengaa
open Go.RowKit Nep
set_option maxRecDepth 100000
set_option linter.unusedVariables false
set_option linter.unusedSimpArgs false
set_option maxHeartbeats 1000000

theorem bytes_rep (n : Nat) : Bytes (List.replicate n 0) := fun x hx => by rw [List.eq_of_mem_replicate hx]; omega
theorem awake07 (w : World) : Calls Try.prog 38 #[] w (RetB (.bool true) w) := by
  have hz := zeroE_first
  have C1 : RowKit.Hid (∀ v w, RdB w.heap.size w v (List.replicate 32 0) → Calls Try.prog 37 #[v] w (RetK (flatL (List.replicate 32 0)) w)) := Lib.hid (fun v w hr => new_calls v _ w (bytes_rep 32) hr (by simp))
  have hrl : (flatL (List.replicate 32 0)).length = 240 := flatL_length _ (by simp) (bytes_rep 32)
  have hrb : Bytes (flatL (List.replicate 32 0)) := flatL_bytes _ (by simp) (bytes_rep 32)
  have hzl : zeroE.length = 16 := (encF_blk _ _ hrl hrb (by simp) (bytes_rep 16) 14 (by omega)).1
  have C2 : RowKit.Hid (∀ p v w, KeyAt w.heap.size w p (flatL (List.replicate 32 0)) → RdB w.heap.size w v (List.replicate 16 0) → Calls Try.prog 42 #[p, v] w (RetSE zeroE w)) := Lib.hid (fun p v w hk hr => encrypt_calls p v _ _ w hk hrl hrb hr (bytes_rep 16) (by simp))
  generalize flatL (List.replicate 32 0) = rk at *
  generalize zeroE = ze at *
  clear hrl hrb
  have hzl' : ze.length ≤ 16 := by omega
  have HZ := Lib.hid hz
  have HZL := Lib.hid hzl
  clear hz hzl
  go_enter Try.func38, Try.ntmps38
  go_wp2_with (first
    | (apply wpList_makeBytes (n := 32); rfl; rfl; rfl; rfl; omega; intro g1 w1 hg1 hg1' hr1 hb1)
    | (go_at_call 37; refine (C1.out _ _ (rdb_of_row hr1 (by simp) |>.up hg1')).mono ?_; rintro e w2 ⟨p, rfl, hk2, hb2⟩)
    | (apply wpList_makeBytes (n := 16); rfl; rfl; rfl; rfl; omega; intro g3 w3 hg3 hg3' hr3 hb3)
    | (go_at_call 42; refine (C2.out _ _ _ ((hk2.mono hb3).up hb3.size) (rdb_of_row hr3 (by simp) |>.up hg3')).mono ?_; rintro e w4 ⟨v4, rfl, ho4, hb4⟩)
    | (refine wpList_lenB (RdB.of_own ho4) rfl rfl rfl ?_; rw [HZL.out])
    | (apply wpList_indexB (RdB.of_own ho4) 0; rw [HZL.out]; omega; rfl; rfl; rfl; rfl; rfl; rw [HZ.out.1]; intro p0 hp0 hc0)
    | (apply wpList_indexB (RdB.of_own ho4) 15; rw [HZL.out]; omega; rfl; rfl; rfl; rfl; rfl; rw [HZ.out.2]; intro p1 hp1 hc1))
  go_ret
  have s1 := hb1.size
  have s2 := hb2.size
  have s3 := hb3.size
  exact RetB.mk rfl (hb1.trans ((hb2.mono s1).trans ((hb3.mono (by omega)).trans (hb4.mono (by omega)))))
end Go.Proofs.Ytfinekmegiengaa
