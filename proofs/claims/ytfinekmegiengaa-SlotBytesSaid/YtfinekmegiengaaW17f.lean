/- The walks of layer 17: a slot made wrongly; the reference's Make. -/
import Derived.Test.YtfinekmegiengaaL17d
import Derived.Test.YtfinekmegiengaaW17e
namespace Go.Proofs.Ytfinekmegiengaa
open Go.RowKit Nep
set_option maxRecDepth 100000
set_option linter.unusedVariables false
set_option linter.unusedSimpArgs false
set_option maxHeartbeats 2000000

/-- it returns no slot, and why -/
def RetSlE (cd : Int) (w : World) (x : Ending) (w' : World) : Prop := x = .returned (.tuple #[slotV false 0 0 0 (.slice none 0 0), .int .i64 cd]) ∧ Below w.heap.size w w'
theorem smake_bad1 (v1 v3 v4 : Value) (s : Int) (w : World) (f1 : decide (s < 1) = true) : Calls Try.prog 75 #[v1, .int .i64 s, v3, v4] w (RetSlE 2 w) := by
  go_enter Try.func75, Try.ntmps75
  go_wp2_with (first
    | (apply wpList_boxR v3; rfl; rfl; rfl; intro g1 w1 hg1 hg1' hr hb1)
    | (apply wpList_allocR (.agg #[.bool false, .int .i64 0, .int .u64 0, .int .u64 0, .slice none 0 0]) 5; kernel_rfl; rfl; rfl; intro g2 w2 hg2 hg2' hr2 hb2)
    | (refine wpList_buildP [] #[.bool false, .int .i64 0, .int .u64 0, .int .u64 0, .slice none 0 0] (by kernel_rfl) rfl rfl rfl ?_)
    | (apply wpList_storeRow hr2 #[.bool false, .int .i64 0, .int .u64 0, .int .u64 0, .slice none 0 0]; rfl; rfl; rfl; rfl; kernel_rfl; rfl; kernel_rfl; intro w4 hw4 hr4 hs4; have HW4 := Lib.hid hw4; clear hw4))
  refine ret_rowT rfl hr4 Try.underlying55 (n := 5) (by kernel_rfl) rfl rfl rfl ?_
  exact ⟨rfl, by rw [HW4.out]; exact hb1.trans ((hb2.mono hb1.size).trans (below_row _ (Nat.le_trans hb1.size hg2)))⟩
theorem smake_bad2 (v1 v3 v4 : Value) (s : Int) (w : World) (f1 : decide (s < 1) = false) (f2 : decide ((65535 : Int) < s) = true) : Calls Try.prog 75 #[v1, .int .i64 s, v3, v4] w (RetSlE 2 w) := by
  go_enter Try.func75, Try.ntmps75
  go_wp2_with (first
    | (apply wpList_boxR v3; rfl; rfl; rfl; intro g1 w1 hg1 hg1' hr hb1)
    | (apply wpList_allocR (.agg #[.bool false, .int .i64 0, .int .u64 0, .int .u64 0, .slice none 0 0]) 5; kernel_rfl; rfl; rfl; intro g2 w2 hg2 hg2' hr2 hb2)
    | (refine wpList_buildP [] #[.bool false, .int .i64 0, .int .u64 0, .int .u64 0, .slice none 0 0] (by kernel_rfl) rfl rfl rfl ?_)
    | (apply wpList_storeRow hr2 #[.bool false, .int .i64 0, .int .u64 0, .int .u64 0, .slice none 0 0]; rfl; rfl; rfl; rfl; kernel_rfl; rfl; kernel_rfl; intro w4 hw4 hr4 hs4; have HW4 := Lib.hid hw4; clear hw4))
  refine ret_rowT rfl hr4 Try.underlying55 (n := 5) (by kernel_rfl) rfl rfl rfl ?_
  exact ⟨rfl, by rw [HW4.out]; exact hb1.trans ((hb2.mono hb1.size).trans (below_row _ (Nat.le_trans hb1.size hg2)))⟩
theorem smake_bad3 (v1 v3 v4 : Value) (s : Int) (l : List Nat) (w : World) (f1 : decide (s < 1) = false) (f2 : decide ((65535 : Int) < s) = false) (hr4 : RdB w.heap.size w v4 l) (f3 : ((l.length : Int) != 96) = true) : Calls Try.prog 75 #[v1, .int .i64 s, v3, v4] w (RetSlE 2 w) := by
  go_enter Try.func75, Try.ntmps75
  go_wp2_with (first
    | (apply wpList_boxR v3; rfl; rfl; rfl; intro g1 w1 hg1 hg1' hr hb1; have hd1 := hr4.next hb1)
    | (apply wpList_allocR (.agg #[.bool false, .int .i64 0, .int .u64 0, .int .u64 0, .slice none 0 0]) 5; kernel_rfl; rfl; rfl; intro g2 w2 hg2 hg2' hr2 hb2; have hd2 := hd1.next hb2)
    | (refine wpList_lenB hd2 rfl rfl rfl ?_; clear hd2)
    | (refine wpList_buildP [] #[.bool false, .int .i64 0, .int .u64 0, .int .u64 0, .slice none 0 0] (by kernel_rfl) rfl rfl rfl ?_)
    | (apply wpList_storeRow hr2 #[.bool false, .int .i64 0, .int .u64 0, .int .u64 0, .slice none 0 0]; rfl; rfl; rfl; rfl; kernel_rfl; rfl; kernel_rfl; intro w4 hw4 hr4 hs4; have HW4 := Lib.hid hw4; clear hw4))
  refine ret_rowT rfl hr4 Try.underlying55 (n := 5) (by kernel_rfl) rfl rfl rfl ?_
  exact ⟨rfl, by rw [HW4.out]; exact hb1.trans ((hb2.mono hb1.size).trans (below_row _ (Nat.le_trans hb1.size hg2)))⟩
theorem smake_bad4 (v1 v3 v4 : Value) (s : Int) (kek l : List Nat) (w : World) (f1 : decide (s < 1) = false) (f2 : decide ((65535 : Int) < s) = false) (hkb : Bytes kek) (hr1 : RdB w.heap.size w v1 kek) (hr4 : RdB w.heap.size w v4 l) (f3 : ((l.length : Int) != 96) = false) (h32 : kek.length ≠ 32) : Calls Try.prog 75 #[v1, .int .i64 s, v3, v4] w (RetSlE 2 w) := by
  have C : RowKit.Hid (∀ w, RdB w.heap.size w v1 kek → RdB w.heap.size w v4 l → Calls Try.prog 68 #[v1, v4] w (RetE 2 w)) := Lib.hid (fun w a d => wrap_bad v1 v4 kek l w hkb a d (fun h => h32 h.1))
  clear h32
  go_enter Try.func75, Try.ntmps75
  go_wp2_with (first
    | (apply wpList_boxR v3; rfl; rfl; rfl; intro g1 w1 hg1 hg1' hr hb1; have hd1 := hr4.next hb1; have ha1 := hr1.next hb1)
    | (apply wpList_allocR (.agg #[.bool false, .int .i64 0, .int .u64 0, .int .u64 0, .slice none 0 0]) 5; kernel_rfl; rfl; rfl; intro g2 w2 hg2 hg2' hr2 hb2; have hd2 := hd1.next hb2; have hd20 := hd2; have ha2 := ha1.next hb2)
    | (refine wpList_lenB hd2 rfl rfl rfl ?_; clear hd2)
    | (go_at_call 68; (with_reducible refine (C.out _ ha2 hd20).mono ?_); rintro x w3 ⟨rfl, hb3⟩; have hr23 := hr2.next hb3)
    | (refine wpList_buildP [] #[.bool false, .int .i64 0, .int .u64 0, .int .u64 0, .slice none 0 0] (by kernel_rfl) rfl rfl rfl ?_)
    | (apply wpList_storeRow hr23 #[.bool false, .int .i64 0, .int .u64 0, .int .u64 0, .slice none 0 0]; rfl; rfl; rfl; rfl; kernel_rfl; rfl; kernel_rfl; intro w4 hw4 hr4 hs4; have HW4 := Lib.hid hw4; clear hw4))
  refine ret_rowT rfl hr4 Try.underlying55 (n := 5) (by kernel_rfl) rfl rfl rfl ?_
  exact ⟨rfl, by rw [HW4.out]; exact hb1.trans ((hb2.mono hb1.size).trans ((hb3.mono (Nat.le_trans hb1.size hb2.size)).trans (below_row _ (Nat.le_trans hb1.size hg2))))⟩
end Go.Proofs.Ytfinekmegiengaa
