/- The walks of layer 6: the two tables. -/
import Derived.Test.YtfinekmegiengaaBase
import Derived.Test.YtfinekmegiengaaPlainA
namespace Go.Proofs.Ytfinekmegiengaa
open Go.RowKit Nep
set_option maxRecDepth 100000

def subsV : Array Value := (sboxL.map fun x : Nat => Value.int .u8 (x : Int)).toArray
def backsV : Array Value := (backL.map fun x : Nat => Value.int .u8 (x : Int)).toArray
theorem subsV_get (a : Nat) (ha : a < 256) : subsV[a]? = some (.int .u8 (sb a)) := by
  unfold subsV sb
  have hl : sboxL.length = 256 := by decide +kernel
  simp [List.getElem?_eq_getElem (show a < sboxL.length by omega)]
theorem backsV_get (a : Nat) (ha : a < 256) : backsV[a]? = some (.int .u8 (bk a)) := by
  unfold backsV bk
  have hl : backL.length = 256 := by decide +kernel
  simp [List.getElem?_eq_getElem (show a < backL.length by omega)]

theorem info256 : (Try.prog.info? 117).map (fun i => (i.zero, i.size)) = some (some (.agg (Array.replicate 256 (.int .u8 0))), 256) := by kernel_rfl
theorem size256 : (Try.prog.info? 117).map (·.size) = some 256 := by kernel_rfl
theorem subsV_size : subsV.size = 256 := by decide +kernel
theorem backsV_size : backsV.size = 256 := by decide +kernel
theorem build_subs (w : World) (parts : Array (Nat × Value)) (hp : parts = (subsV.zipIdx.map fun (v, i) => (i, v))) : (Instr.build 117 parts).run Try.prog w = .ok (.agg subsV) w := by
  subst hp
  kernel_rfl

theorem tables06 (w : World) : Calls Try.prog 96 #[] w (RetB (.agg subsV) w) := by
  go_enter Try.func96, Try.ntmps96
  go_step
  go_step
  refine wpList_alloc rfl 117 rfl _ _ info256 ?_
  iterate 5 go_step
  refine wpList_build rfl _ _ rfl subsV (build_subs _ _ ?_) ?_
  · kernel_rfl
  refine wpList_store_last rfl _ _ _ rfl _ subsV rfl rfl (by rw [subsV_size]; exact size256) (by rw [subsV_size]; exact Array.size_replicate ..) (by decide +kernel) ?_
  go_wp2
  refine ret_row rfl w.heap.size _ subsV (0, 0) _ rfl (heap_alloc_last w _) rfl Try.underlying117 rfl (by rw [subsV_size]; exact size256) ?_
  exact RetB.mk rfl ((Below.refl _ _).alloc (Nat.le_refl _) _)
theorem build_backs (w : World) (parts : Array (Nat × Value)) (hp : parts = (backsV.zipIdx.map fun (v, i) => (i, v))) : (Instr.build 117 parts).run Try.prog w = .ok (.agg backsV) w := by
  subst hp
  kernel_rfl

theorem backs06 (w : World) : Calls Try.prog 99 #[] w (RetB (.agg backsV) w) := by
  go_enter Try.func99, Try.ntmps99
  go_step
  go_step
  refine wpList_alloc rfl 117 rfl _ _ info256 ?_
  iterate 5 go_step
  refine wpList_build rfl _ _ rfl backsV (build_backs _ _ ?_) ?_
  · kernel_rfl
  refine wpList_store_last rfl _ _ _ rfl _ backsV rfl rfl (by rw [backsV_size]; exact size256) (by rw [backsV_size]; exact Array.size_replicate ..) (by decide +kernel) ?_
  go_wp2
  refine ret_row rfl w.heap.size _ backsV (0, 0) _ rfl (heap_alloc_last w _) rfl Try.underlying117 rfl (by rw [backsV_size]; exact size256) ?_
  exact RetB.mk rfl ((Below.refl _ _).alloc (Nat.le_refl _) _)
end Go.Proofs.Ytfinekmegiengaa
