/- The shapes of a law's arguments, opened: structs of slices of bytes. -/
import Derived.Test.YtfinekmegiengaaLawC
import Derived.Test.YtfinekmegiengaaMemA
namespace Go.Proofs.Ytfinekmegiengaa
open Go.ChangeShapes Go.WideShapes Go.ChangeAt Go.RowKit
set_option maxRecDepth 100000

/-- one cell that reads as a slice of bytes -/
theorem open_cellB {H : Type} {enc : TypeId × Value → H} {W : World} {fuel : Nat} {v : Value} {x : DataW H × List MemPlace} (hf : DataW.trod enc Try.prog W 0 (fun _ => true) true fuel 28 [v] = some x) (hlt : ∀ p ∈ x.2, p.block < W.heap.size) :
    ∃ l, Bytes l ∧ RdB W.heap.size W v l := by
  rcases open_ints Try.underlying28 Try.underlying5 cells_u8 hf with ⟨hcs, hx⟩ | ⟨a', len', cap', zs, hcs, _, hl, hm, hz, hx, hcell, hwz⟩
  · simp only [List.cons.injEq, and_true] at hcs
    subst hcs
    exact ⟨[], fun x hx => by simp at hx, RdS.nil _ _ _⟩
  · simp only [List.cons.injEq, and_true] at hcs
    subst hcs
    subst hx
    simp only [if_true] at hz
    have hnn : ∀ z ∈ zs, 0 ≤ z ∧ z ≤ 255 := fun z hz => bounds_u8 (hwz z hz)
    have hlen : ((zs.take len').map Int.toNat).length = len' := by simp; omega
    refine ⟨(zs.take len').map Int.toNat, ?_, ?_⟩
    · intro x hx
      obtain ⟨z, hz, rfl⟩ := List.mem_map.1 hx
      have := hnn z (List.mem_of_mem_take hz)
      omega
    · unfold RdB
      rw [hlen]
      refine ⟨by rw [bv_length, hlen, Nat.mul_one], _, _, rfl, hl, fun i x hx => ?_⟩
      have hi : i < len' := by
        have := (List.getElem?_eq_some_iff.1 hx).1
        rw [bv_length, hlen] at this
        exact this
      have hi2 : i < zs.length := by omega
      have hx' : x = .int .u8 (zs.getD i 0) := by
        rw [bv_get _ _ (by omega)] at hx
        have e := Option.some.inj hx
        rw [← e]
        have hb := hnn zs[i] (List.getElem_mem hi2)
        simp [List.getElem?_eq_getElem hi2, hi]
        omega
      refine ⟨a', rfl, ?_, by rw [hx']; exact hcell i hi2⟩
      exact hlt (.cell a'.block (a'.off + i)) (MemPlace.mem_row.2 ⟨i, hi2, rfl⟩)

theorem open_keys {H : Type} {enc : TypeId × Value → H} {W : World} {base : Nat} {v : Value} {d : DataW H} {ps : List MemPlace} (hokw : Value.okWide Try.prog W .any base 64 v)
    (h : DataW.Trod enc Try.prog W 0 (fun _ => true) true 64 v d ps) (hlt : ∀ x ∈ ps, x.block < W.heap.size) :
    ∃ v1 v2 v3 l1 l2 l3, v = .agg #[v1, v2, v3] ∧ Bytes l1 ∧ Bytes l2 ∧ Bytes l3 ∧ RdB W.heap.size W v1 l1 ∧ RdB W.heap.size W v2 l2 ∧ RdB W.heap.size W v3 l3 := by
  obtain ⟨cs, rfl, hsz⟩ := okWide_struct Try.underlying64 hokw
  have h3 : Try.prog.cellsOf 64 = 3 := by kernel_rfl
  have h1 : Try.prog.cellsOf 28 = 1 := by kernel_rfl
  rw [h3] at hsz
  obtain ⟨v1, v2, v3, rfl⟩ : ∃ v1 v2 v3, cs = #[v1, v2, v3] := by
    obtain ⟨l⟩ := cs
    match l, hsz with
    | [a, b, c], _ => exact ⟨a, b, c, rfl⟩
  obtain ⟨fuel, hf⟩ := h
  obtain ⟨xs, m, rfl, hx, hl, hxl, hi⟩ := DataW.trod_struct Try.underlying64 hf
  simp only [Prod.mk.injEq] at hx
  have hxl3 : xs.length = 3 := hxl
  have f0 : DataW.trod enc Try.prog W 0 (fun _ => true) true m 28 (([v1, v2, v3].drop 0).take (Try.prog.cellsOf 28)) = xs[0]? := hi 0 _ rfl
  have f1 : DataW.trod enc Try.prog W 0 (fun _ => true) true m 28 (([v1, v2, v3].drop 1).take (Try.prog.cellsOf 28)) = xs[1]? := hi 1 _ rfl
  have f2 : DataW.trod enc Try.prog W 0 (fun _ => true) true m 28 (([v1, v2, v3].drop 2).take (Try.prog.cellsOf 28)) = xs[2]? := hi 2 _ rfl
  rw [h1, List.getElem?_eq_getElem (by omega)] at f0 f1 f2
  have hp : ∀ i (hi : i < xs.length), ∀ p ∈ xs[i].2, p.block < W.heap.size := fun i hi p hp => hlt p (by rw [hx.2]; exact List.mem_flatMap.2 ⟨xs[i], List.getElem_mem _, hp⟩)
  obtain ⟨l1, b1, r1⟩ := open_cellB f0 (hp 0 (by omega))
  obtain ⟨l2, b2, r2⟩ := open_cellB f1 (hp 1 (by omega))
  obtain ⟨l3, b3, r3⟩ := open_cellB f2 (hp 2 (by omega))
  exact ⟨v1, v2, v3, l1, l2, l3, rfl, b1, b2, b3, r1, r2, r3⟩
end Go.Proofs.Ytfinekmegiengaa
