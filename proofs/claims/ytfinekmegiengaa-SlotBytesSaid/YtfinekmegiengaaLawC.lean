/- The shapes of a law's arguments, opened: arrays of bytes. -/
import Derived.Test.YtfinekmegiengaaLawB
import Derived.Test.YtfinekmegiengaaWB
namespace Go.Proofs.Ytfinekmegiengaa
open Go.ChangeShapes Go.WideShapes Go.ChangeAt Go.RowKit
set_option maxRecDepth 100000

theorem open_blk {H : Type} {enc : TypeId × Value → H} {W : World} {base n : Nat} {T : TypeId} {v : Value} {d : DataW H} {ps : List MemPlace} (hT : Try.prog.underlying T = some (.array n 5)) (hc : Try.prog.cellsOf T = n)
    (hokw : Value.okWide Try.prog W .any base T v) (h : DataW.Trod enc Try.prog W 0 (fun _ => true) true T v d ps) : ∃ l, v = blk l ∧ l.length = n ∧ Bytes l := by
  simp only [Value.okWide, hT] at hokw
  obtain ⟨cs, rfl, hcs, _⟩ := hokw
  rw [hc] at hcs
  obtain ⟨fuel, hf⟩ := h
  obtain ⟨xs, m, rfl, _, hl, hxl, hi⟩ := DataW.trod_array hT hf
  have hget : ∀ i (hi' : i < cs.size), ∃ z : Nat, z < 256 ∧ cs[i] = .int .u8 (z : Int) := fun i hi' => by
    have h1 := hi i (by omega)
    rw [cells_u8, Nat.mul_one] at h1
    have e : ((Value.agg cs).cells.toList.drop i).take 1 = [cs[i]] := by
      show (cs.toList.drop i).take 1 = [cs[i]]
      rw [List.drop_eq_getElem_cons (by simpa using hi')]
      simp
    rw [e, List.getElem?_eq_getElem (by omega)] at h1
    obtain ⟨z, hz, _, hw⟩ := DataW.trod_int Try.underlying5 h1
    have hb := bounds_u8 hw
    simp only [List.cons.injEq, and_true] at hz
    exact ⟨z.toNat, by omega, by rw [hz]; congr 1; omega⟩
  refine ⟨cs.toList.map fun u => match u with | .int _ z => z.toNat | _ => 0, ?_, by simpa using hcs, ?_⟩
  · unfold blk bv
    congr 1
    apply Array.ext
    · simp
    · intro i h1 h2
      obtain ⟨z, _, he⟩ := hget i h1
      simp [he]
  · intro x hx
    simp only [List.mem_map] at hx
    obtain ⟨u, hu, rfl⟩ := hx
    obtain ⟨i, hi', rfl⟩ := List.getElem_of_mem hu
    obtain ⟨z, hz, he⟩ := hget i (by simpa using hi')
    simp only [Array.getElem_toList, he]
    omega
end Go.Proofs.Ytfinekmegiengaa
