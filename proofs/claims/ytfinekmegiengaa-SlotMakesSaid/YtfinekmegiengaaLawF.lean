/- The shapes of a law's arguments, opened: two slices of bytes. -/
import Derived.Test.YtfinekmegiengaaLawE
namespace Go.Proofs.Ytfinekmegiengaa
open Go.ChangeShapes Go.WideShapes Go.ChangeAt Go.RowKit
set_option maxRecDepth 100000
/-- the value of two slices -/
def twoV (a b : Value) : Value := .agg #[a, b]
theorem open_two {H : Type} {enc : TypeId × Value → H} {W : World} {base : Nat} {v : Value} {d : DataW H} {ps : List MemPlace} (hokw : Value.okWide Try.prog W .any base 87 v)
    (h : DataW.Trod enc Try.prog W 0 (fun _ => true) true 87 v d ps) (hlt : ∀ x ∈ ps, x.block < W.heap.size) :
    ∃ va vb la lb, v = twoV va vb ∧ Bytes la ∧ Bytes lb ∧ RdB W.heap.size W va la ∧ RdB W.heap.size W vb lb := by
  have hT : Try.prog.underlying 87 = some (.array 2 28) := Try.underlying87
  have hc : Try.prog.cellsOf 87 = 2 := by kernel_rfl
  have hs1 : Try.prog.cellsOf 28 = 1 := by kernel_rfl
  simp only [Value.okWide, hT] at hokw
  obtain ⟨cs, rfl, hcs, _⟩ := hokw
  rw [hc] at hcs
  obtain ⟨va, vb, rfl⟩ : ∃ va vb, cs = #[va, vb] := by
    obtain ⟨l⟩ := cs
    match l, hcs with
    | [a, b], _ => exact ⟨a, b, rfl⟩
  obtain ⟨fuel, hf⟩ := h
  obtain ⟨xs, m, rfl, hx, hl, hxl, hi⟩ := DataW.trod_array hT hf
  simp only [Prod.mk.injEq] at hx
  have f0 : DataW.trod enc Try.prog W 0 (fun _ => true) true m 28 [va] = xs[0]? := by
    have h1 := hi 0 (by omega)
    rwa [hs1] at h1
  have f1 : DataW.trod enc Try.prog W 0 (fun _ => true) true m 28 [vb] = xs[1]? := by
    have h1 := hi 1 (by omega)
    rwa [hs1] at h1
  rw [List.getElem?_eq_getElem (by omega)] at f0 f1
  have hp0 : ∀ p ∈ xs[0].2, p.block < W.heap.size := fun p hp => hlt p (by rw [hx.2]; exact List.mem_flatMap.2 ⟨xs[0], List.getElem_mem _, hp⟩)
  have hp1 : ∀ p ∈ xs[1].2, p.block < W.heap.size := fun p hp => hlt p (by rw [hx.2]; exact List.mem_flatMap.2 ⟨xs[1], List.getElem_mem _, hp⟩)
  obtain ⟨la, ba, ra⟩ := open_cellB f0 hp0
  obtain ⟨lb, bb, rb⟩ := open_cellB f1 hp1
  exact ⟨va, vb, la, lb, rfl, ba, bb, ra, rb⟩
end Go.Proofs.Ytfinekmegiengaa
