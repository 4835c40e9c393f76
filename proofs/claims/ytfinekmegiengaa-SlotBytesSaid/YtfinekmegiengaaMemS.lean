/- Structs, loaded whole; slots and heads as rows. -/
import Derived.Test.YtfinekmegiengaaLawE
import Derived.Laws.ResultCell
namespace Go.Proofs.Ytfinekmegiengaa
open Go.RowKit
set_option maxRecDepth 100000
section
variable {P : Program} {w : World} {ops : Array Oper} {rest : List Oper} {o : Oper} {a : Act} {Q : Exit → Act → World → Prop}
theorem run_loadSt {T : TypeId} {fs : Array Field} {n : Nat} (hT : P.underlying T = some (.struct fs)) (hs : (P.info? T).map (·.size) = some n) {ad : Addr} (cs : List Value) (hl : cs.length = n) (hr : ∀ i x, cs[i]? = some x → w.cell? (ad.add i) = some x) :
    (loadVar T ad).run P w = .ok (.agg cs.toArray) w := by
  cases hq : P.info? T with
  | none => simp [hq] at hs
  | some inf =>
    have hs' : inf.size = n := by simpa [hq] using hs
    have hld := run_loadCells_list (P := P) w ad cs hr
    rw [hl] at hld
    have hagg : (isAgg T).run P w = .ok true w := by
      unfold isAgg
      rw [Sem.run_bind, run_underlying hT w]
      rfl
    simp [loadVar, Sem.run_bind, hagg, sizeOf, typeInfo, hq, hs', hld]
theorem run_loadAtSt {T : TypeId} {fs : Array Field} {n g : Nat} {t : TypeId} {cs : List Value} (hr : Row w g t cs.toArray) (hT : P.underlying T = some (.struct fs)) (hs : (P.info? T).map (·.size) = some n) (hl : cs.length = n) :
    (Instr.loadAt T (.pointer (some ⟨g, 0, none⟩))).run P w = .ok (.agg cs.toArray) w := by
  have h := run_loadSt (w := w) hT hs (ad := ⟨g, 0, none⟩) cs hl (fun i v hv => by rw [Addr.add_lit, Nat.zero_add]; exact hr.cell (by rwa [List.getElem?_toArray]))
  simp only [Instr.loadAt, Instr.sureAddr, Sem.run_bind, Sem.run_pure, Result.andThen_ok, h]
/-- a whole struct out of its block -/
theorem wpList_loadSt {x : Operand} {T : TypeId} {fs : Array Field} {n : Nat} {g : Nat} {t : TypeId} {cs : List Value} (hr : Row w g t cs.toArray) (hT : P.underlying T = some (.struct fs)) (hs : (P.info? T).map (·.size) = some n) (hl : cs.length = n)
    (hg : Region.wanted o (yielded ops a.tmps) = true) (ho : o.op = .load T x) (hx : a.eval x = .pointer (some ⟨g, 0, none⟩))
    (hK : wpList P ops Q rest (a.put o.dst (.agg cs.toArray)) w) : wpList P ops Q (o :: rest) a w := by
  refine wpList_go hg fun K hK' => ?_
  unfold Oper.wp
  simp only [execOp, ho, hx, Sem.run_bind, Sem.run_pure, Result.andThen_ok, run_loadAtSt hr hT hs hl]
  exact hK' _ _ hK
/-- a struct, built -/
theorem wpList_buildP {t : TypeId} {parts : Array (Nat × Operand)} (l : List (Nat × Value)) (V : Array Value) (hb : P.built t l = some V) (hg : Region.wanted o (yielded ops a.tmps) = true) (ho : o.op = .build t parts)
    (hf : (parts.toList.map fun q => (q.1, a.eval q.2)) = l) (hK : wpList P ops Q rest (a.put o.dst (.agg V)) w) : wpList P ops Q (o :: rest) a w :=
  wpList_build hg t parts ho V (run_build _ _ _ _ (by rw [Array.toList_map]; rw [← hf] at hb; exact hb)) hK
end
/-- the results: one struct that lies in a block, and a value -/
theorem ret_rowT {P : Program} {fn : Func} {p u : Tmp} {ty : TypeId} (h : fn.results = #[.cell p ty, .tmp u]) {R : Ending → World → Prop} {a : Act} {w : World} {fs : Array Field} {n g : Nat} {t : TypeId} {cs : List Value} (hr : Row w g t cs.toArray) (hT : P.underlying ty = some (.struct fs)) (hs : (P.info? ty).map (·.size) = some n) (hl : cs.length = n)
    (hp : a.tmps.getD p undef = .pointer (some ⟨g, 0, none⟩)) (hd0 : a.defers = []) (hR : R (.returned (.tuple #[.agg cs.toArray, a.tmps.getD u undef])) w) : bodyPost P fn R .ret a w := by
  have hld := run_loadSt (w := w) hT hs (ad := ⟨g, 0, none⟩) cs hl (fun i v hv => by rw [Addr.add_lit, Nat.zero_add]; exact hr.cell (by rwa [List.getElem?_toArray]))
  refine bodyPost_ret (v := .tuple #[.agg cs.toArray, a.tmps.getD u undef]) ?_ hd0 hR
  rw [results_cell_tmp h, hp]
  simp only [asAddr, Sem.run_pure, Result.andThen_ok, hld]
theorem row5 {w : World} {g : Nat} {t : TypeId} {v0 v1 v2 v3 v4 : Value} (h : Row w g t #[v0, v1, v2, v3, v4]) :
    w.cell? ⟨g, 0, none⟩ = some v0 ∧ w.cell? ⟨g, 1, none⟩ = some v1 ∧ w.cell? ⟨g, 2, none⟩ = some v2 ∧ w.cell? ⟨g, 3, none⟩ = some v3 ∧ w.cell? ⟨g, 4, none⟩ = some v4 := ⟨h.cell rfl, h.cell rfl, h.cell rfl, h.cell rfl, h.cell rfl⟩
theorem row6 {w : World} {g : Nat} {t : TypeId} {v0 v1 v2 v3 v4 v5 : Value} (h : Row w g t #[v0, v1, v2, v3, v4, v5]) :
    w.cell? ⟨g, 0, none⟩ = some v0 ∧ w.cell? ⟨g, 1, none⟩ = some v1 ∧ w.cell? ⟨g, 2, none⟩ = some v2 ∧ w.cell? ⟨g, 3, none⟩ = some v3 ∧ w.cell? ⟨g, 4, none⟩ = some v4 ∧ w.cell? ⟨g, 5, none⟩ = some v5 := ⟨h.cell rfl, h.cell rfl, h.cell rfl, h.cell rfl, h.cell rfl, h.cell rfl⟩
end Go.Proofs.Ytfinekmegiengaa
