/- The shapes of a law's arguments, opened: slots and heads. -/
import Derived.Test.YtfinekmegiengaaLawD
namespace Go.Proofs.Ytfinekmegiengaa
open Go.ChangeShapes Go.WideShapes Go.ChangeAt Go.RowKit
set_option maxRecDepth 100000

/-- a head's value -/
def headV (k n c b : Int) (e d : Nat) : Value := .agg #[.int .i64 k, .int .i64 n, .int .i64 c, .int .u32 b, .int .u64 (e : Int), .int .u64 (d : Int)]
/-- a slot's value -/
def slotV (u : Bool) (s : Int) (e d : Nat) (v : Value) : Value := .agg #[.bool u, .int .i64 s, .int .u64 (e : Int), .int .u64 (d : Int), v]

theorem open_slot {H : Type} {enc : TypeId × Value → H} {W : World} {base : Nat} {v : Value} {d : DataW H} {ps : List MemPlace} (hokw : Value.okWide Try.prog W .any base 55 v)
    (h : DataW.Trod enc Try.prog W 0 (fun _ => true) true 55 v d ps) (hlt : ∀ x ∈ ps, x.block < W.heap.size) :
    ∃ u s e c v4 l, v = slotV u s e c v4 ∧ (-9223372036854775808 ≤ s ∧ s ≤ 9223372036854775807) ∧ e < 18446744073709551616 ∧ c < 18446744073709551616 ∧ Bytes l ∧ RdB W.heap.size W v4 l := by
  obtain ⟨cs, rfl, hsz⟩ := okWide_struct Try.underlying55 hokw
  have h5 : Try.prog.cellsOf 55 = 5 := by kernel_rfl
  have hb : Try.prog.cellsOf 4 = 1 := by kernel_rfl
  have hi1 : Try.prog.cellsOf 3 = 1 := by kernel_rfl
  have hu : Try.prog.cellsOf 41 = 1 := by kernel_rfl
  have hs1 : Try.prog.cellsOf 28 = 1 := by kernel_rfl
  rw [h5] at hsz
  obtain ⟨v0, v1, v2, v3, v4, rfl⟩ : ∃ v0 v1 v2 v3 v4, cs = #[v0, v1, v2, v3, v4] := by
    obtain ⟨l⟩ := cs
    match l, hsz with
    | [a, b, c, d, e], _ => exact ⟨a, b, c, d, e, rfl⟩
  obtain ⟨fuel, hf⟩ := h
  obtain ⟨xs, m, rfl, hx, hl, hxl, hi⟩ := DataW.trod_struct Try.underlying55 hf
  simp only [Prod.mk.injEq] at hx
  have hxl5 : xs.length = 5 := hxl
  have f0 : DataW.trod enc Try.prog W 0 (fun _ => true) true m 4 (([v0, v1, v2, v3, v4].drop 0).take (Try.prog.cellsOf 4)) = xs[0]? := hi 0 _ rfl
  have f1 : DataW.trod enc Try.prog W 0 (fun _ => true) true m 3 (([v0, v1, v2, v3, v4].drop 1).take (Try.prog.cellsOf 3)) = xs[1]? := hi 1 _ rfl
  have f2 : DataW.trod enc Try.prog W 0 (fun _ => true) true m 41 (([v0, v1, v2, v3, v4].drop 2).take (Try.prog.cellsOf 41)) = xs[2]? := hi 2 _ rfl
  have f3 : DataW.trod enc Try.prog W 0 (fun _ => true) true m 41 (([v0, v1, v2, v3, v4].drop 3).take (Try.prog.cellsOf 41)) = xs[3]? := hi 3 _ rfl
  have f4 : DataW.trod enc Try.prog W 0 (fun _ => true) true m 28 (([v0, v1, v2, v3, v4].drop 4).take (Try.prog.cellsOf 28)) = xs[4]? := hi 4 _ rfl
  rw [hb, List.getElem?_eq_getElem (by omega)] at f0
  rw [hi1, List.getElem?_eq_getElem (by omega)] at f1
  rw [hu, List.getElem?_eq_getElem (by omega)] at f2 f3
  rw [hs1, List.getElem?_eq_getElem (by omega)] at f4
  have hp : ∀ p ∈ xs[4].2, p.block < W.heap.size := fun p hp => hlt p (by rw [hx.2]; exact List.mem_flatMap.2 ⟨xs[4], List.getElem_mem _, hp⟩)
  obtain ⟨u, e0, _⟩ := DataW.trod_bool Try.underlying4 f0
  obtain ⟨s, e1, _, w1⟩ := DataW.trod_int Try.underlying3 f1
  obtain ⟨e, e2, _, w2⟩ := DataW.trod_int Try.underlying41 f2
  obtain ⟨c, e3, _, w3⟩ := DataW.trod_int Try.underlying41 f3
  obtain ⟨l, b4, r4⟩ := open_cellB f4 hp
  simp at e0 e1 e2 e3
  subst e0 e1 e2 e3
  have k1 := bounds_i64 w1
  have k2 := bounds_u64 w2
  have k3 := bounds_u64 w3
  refine ⟨u, s, e.toNat, c.toNat, v4, l, ?_, k1, by omega, by omega, b4, r4⟩
  unfold slotV
  rw [Int.toNat_of_nonneg k2.1, Int.toNat_of_nonneg k3.1]

theorem open_head {H : Type} {enc : TypeId × Value → H} {W : World} {base : Nat} {v : Value} {d : DataW H} {ps : List MemPlace} (hokw : Value.okWide Try.prog W .any base 57 v)
    (h : DataW.Trod enc Try.prog W 0 (fun _ => true) true 57 v d ps) :
    ∃ k n ct b e c, v = headV k n ct b e c ∧ (-9223372036854775808 ≤ k ∧ k ≤ 9223372036854775807) ∧ (-9223372036854775808 ≤ n ∧ n ≤ 9223372036854775807) ∧ (-9223372036854775808 ≤ ct ∧ ct ≤ 9223372036854775807) ∧ (0 ≤ b ∧ b ≤ 4294967295) ∧ e < 18446744073709551616 ∧ c < 18446744073709551616 := by
  obtain ⟨cs, rfl, hsz⟩ := okWide_struct Try.underlying57 hokw
  have h6 : Try.prog.cellsOf 57 = 6 := by kernel_rfl
  have hi1 : Try.prog.cellsOf 3 = 1 := by kernel_rfl
  have hu3 : Try.prog.cellsOf 25 = 1 := by kernel_rfl
  have hu : Try.prog.cellsOf 41 = 1 := by kernel_rfl
  rw [h6] at hsz
  obtain ⟨v0, v1, v2, v3, v4, v5, rfl⟩ : ∃ v0 v1 v2 v3 v4 v5, cs = #[v0, v1, v2, v3, v4, v5] := by
    obtain ⟨l⟩ := cs
    match l, hsz with
    | [a, b, c, d, e, f], _ => exact ⟨a, b, c, d, e, f, rfl⟩
  obtain ⟨fuel, hf⟩ := h
  obtain ⟨xs, m, rfl, hx, hl, hxl, hi⟩ := DataW.trod_struct Try.underlying57 hf
  have hxl6 : xs.length = 6 := hxl
  have f0 : DataW.trod enc Try.prog W 0 (fun _ => true) true m 3 (([v0, v1, v2, v3, v4, v5].drop 0).take (Try.prog.cellsOf 3)) = xs[0]? := hi 0 _ rfl
  have f1 : DataW.trod enc Try.prog W 0 (fun _ => true) true m 3 (([v0, v1, v2, v3, v4, v5].drop 1).take (Try.prog.cellsOf 3)) = xs[1]? := hi 1 _ rfl
  have f2 : DataW.trod enc Try.prog W 0 (fun _ => true) true m 3 (([v0, v1, v2, v3, v4, v5].drop 2).take (Try.prog.cellsOf 3)) = xs[2]? := hi 2 _ rfl
  have f3 : DataW.trod enc Try.prog W 0 (fun _ => true) true m 25 (([v0, v1, v2, v3, v4, v5].drop 3).take (Try.prog.cellsOf 25)) = xs[3]? := hi 3 _ rfl
  have f4 : DataW.trod enc Try.prog W 0 (fun _ => true) true m 41 (([v0, v1, v2, v3, v4, v5].drop 4).take (Try.prog.cellsOf 41)) = xs[4]? := hi 4 _ rfl
  have f5 : DataW.trod enc Try.prog W 0 (fun _ => true) true m 41 (([v0, v1, v2, v3, v4, v5].drop 5).take (Try.prog.cellsOf 41)) = xs[5]? := hi 5 _ rfl
  rw [hi1, List.getElem?_eq_getElem (by omega)] at f0 f1 f2
  rw [hu3, List.getElem?_eq_getElem (by omega)] at f3
  rw [hu, List.getElem?_eq_getElem (by omega)] at f4 f5
  obtain ⟨k, e0, _, w0⟩ := DataW.trod_int Try.underlying3 f0
  obtain ⟨n, e1, _, w1⟩ := DataW.trod_int Try.underlying3 f1
  obtain ⟨ct, e2, _, w2⟩ := DataW.trod_int Try.underlying3 f2
  obtain ⟨b, e3, _, w3⟩ := DataW.trod_int Try.underlying25 f3
  obtain ⟨e, e4, _, w4⟩ := DataW.trod_int Try.underlying41 f4
  obtain ⟨c, e5, _, w5⟩ := DataW.trod_int Try.underlying41 f5
  simp at e0 e1 e2 e3 e4 e5
  subst e0 e1 e2 e3 e4 e5
  have k4 := bounds_u64 w4
  have k5 := bounds_u64 w5
  refine ⟨k, n, ct, b, e.toNat, c.toNat, ?_, bounds_i64 w0, bounds_i64 w1, bounds_i64 w2, bounds_u32 w3, by omega, by omega⟩
  unfold headV
  rw [Int.toNat_of_nonneg k4.1, Int.toNat_of_nonneg k5.1]
end Go.Proofs.Ytfinekmegiengaa
