/- The shapes of a law's arguments, opened: bytes. -/
import Derived.Test.YtfinekmegiengaaLaw
import Derived.Test.YtfinekmegiengaaMemA
namespace Go.Proofs.Ytfinekmegiengaa
open Go.ChangeShapes Go.WideShapes Go.ChangeAt Go.RowKit
set_option maxRecDepth 100000

theorem cells_u8 : Try.prog.cellsOf 5 = 1 := by kernel_rfl
theorem bytes_u8 : Try.prog.bytesOf 5 = 1 := by kernel_rfl

theorem open_bytes {H : Type} {enc : TypeId × Value → H} {W : World} {base : Nat} {v : Value} {d : DataW H} {ps : List MemPlace} {ts : List TypeId} {ds : List (DataW H)} {j : Nat}
    (hokw : Value.okWide Try.prog W .any base 28 v) (h : DataW.Trod enc Try.prog W 0 (fun _ => true) true 28 v d ps) (hlt : ∀ x ∈ ps, x.block < W.heap.size)
    (hsz : (DataW.weightsEach Try.prog ts ds).all (· ≤ reachBytes) = true) (ht : ts[j]? = some 28) (hd : ds[j]? = some d) :
    ∃ l, Bytes l ∧ RdB W.heap.size W v l ∧ l.length ≤ 140737488351232 := by
  obtain ⟨a, len, cap, rfl⟩ := okWide_slice Try.underlying28 hokw
  obtain ⟨fuel, hf⟩ := h
  rcases open_ints Try.underlying28 Try.underlying5 cells_u8 hf with ⟨hcs, hx⟩ | ⟨a', len', cap', zs, hcs, _, hl, hm, hz, hx, hcell, hwz⟩
  · simp [Value.cells] at hcs
    obtain ⟨rfl, rfl, rfl⟩ := hcs
    exact ⟨[], fun x hx => by simp at hx, RdS.nil _ _ _, by simp⟩
  · simp [Value.cells] at hcs
    obtain ⟨rfl, rfl, rfl⟩ := hcs
    simp only [Prod.mk.injEq] at hx
    obtain ⟨rfl, rfl⟩ := hx
    simp only [if_true] at hz
    have hreach := sized_slice hsz ht hd Try.underlying28
    rw [bytes_u8] at hreach
    simp only [lits, List.length_map, List.length_take, List.length_drop, reachBytes] at hreach
    have hnn : ∀ z ∈ zs, 0 ≤ z ∧ z ≤ 255 := fun z hz => bounds_u8 (hwz z hz)
    have hlen : ((zs.take len).map Int.toNat).length = len := by simp; omega
    refine ⟨(zs.take len).map Int.toNat, ?_, ?_, by rw [hlen]; omega⟩
    · intro x hx
      obtain ⟨z, hz, rfl⟩ := List.mem_map.1 hx
      have := hnn z (List.mem_of_mem_take hz)
      omega
    · unfold RdB
      rw [hlen]
      refine ⟨by rw [bv_length, hlen, Nat.mul_one], _, _, rfl, hl, fun i x hx => ?_⟩
      have hi : i < len := by
        have := (List.getElem?_eq_some_iff.1 hx).1
        rw [bv_length, hlen] at this
        exact this
      have hi2 : i < zs.length := by omega
      have hx' : x = .int .u8 (zs.getD i 0) := by
        rw [bv_get _ _ (by omega)] at hx
        have e := Option.some.inj hx
        rw [← e]
        have hb := hnn zs[i] (List.getElem_mem hi2)
        simp [List.getElem?_eq_getElem hi2, hi]
        omega
      refine ⟨a', rfl, ?_, by rw [hx']; exact hcell i hi2⟩
      exact hlt (.cell a'.block (a'.off + i)) (MemPlace.mem_row.2 ⟨i, hi2, rfl⟩)

end Go.Proofs.Ytfinekmegiengaa
