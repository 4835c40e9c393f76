/- Laws for the walks: a slice's literal of one array; arrays loaded and stored, as steps of a region that draws its order. -/
import Derived.Test.YtfinekmegiengaaMem5
import Derived.Deep.MidRow
import Derived.StillTailTactics
namespace Go.Proofs.Ytfinekmegiengaa
open Go.RowKit
set_option linter.unusedSimpArgs false
set_option linter.unusedVariables false

theorem fold_set (vs : List Value) : ∀ (pre zs : List Value), zs.length = vs.length →
    ((vs.zipIdx pre.length).foldl (fun cs (x : Value × Nat) => match x with | (c, j) => cs.setIfInBounds j c) (pre ++ zs).toArray) = (pre ++ vs).toArray := by
  induction vs with
  | nil =>
    intro pre zs h
    have : zs = [] := List.eq_nil_of_length_eq_zero h
    subst this
    rfl
  | cons v vs ih =>
    intro pre zs h
    cases zs with
    | nil => simp at h
    | cons z zs =>
      have h1 := ih (pre ++ [v]) zs (by simpa using h)
      rw [List.zipIdx_cons, List.foldl_cons]
      have hset : ((pre ++ z :: zs).toArray.setIfInBounds pre.length v) = (pre ++ [v] ++ zs).toArray := by simp
      have hl : (pre ++ [v]).length = pre.length + 1 := by simp
      rw [hl] at h1
      show List.foldl _ ((pre ++ z :: zs).toArray.setIfInBounds pre.length v) _ = _
      rw [hset, h1]
      simp

theorem fill_one (s : Nat) (row cs : Array Value) (hr : row.size = s) (hc : cs.size = s) : Instr.fill (fun i => some (i * s, s)) row [(0, .agg cs)] = some cs := by
  have h := fold_set cs.toList [] row.toList (by simp; omega)
  simp only [List.nil_append, List.length_nil] at h
  have hfold : (cs.zipIdx.foldl (fun cs (x : Value × Nat) => match x with | (c, j) => cs.setIfInBounds (0 * s + j) c) row) = cs := by
    simp only [Nat.zero_mul, Nat.zero_add]
    rw [← Array.foldl_toList, Array.toList_zipIdx]
    exact h
  have hcond : (decide ((Value.agg cs).cells.size ≠ s) || decide (0 * s + (Value.agg cs).cells.size > row.size)) = false := by
    simp [Value.cells, hc, hr]
  show (if (decide ((Value.agg cs).cells.size ≠ s) || decide (0 * s + (Value.agg cs).cells.size > row.size)) = true then none else Instr.fill (fun i => some (i * s, s)) (cs.zipIdx.foldl (fun cs (x : Value × Nat) => match x with | (c, j) => cs.setIfInBounds (0 * s + j) c) row) []) = some cs
  rw [hcond, hfold]
  rfl

variable {P : Program} {w : World} {ops : Array Oper} {rest : List Oper} {o : Oper} {a : Act} {Q : Exit → Act → World → Prop} {K : Act → World → Prop} {E : Prop}

/-- '[][n]T{v}': the array's cells are a new block -/
theorem run_build1 {t : TypeId} {e : TypeId} {z : Value} {s bytes : Nat} (ht : P.underlying t = some (.slice e)) (hi : (P.info? e).map (fun i => (i.zero, i.size, i.bytes)) = some (some z, s, bytes)) (hs0 : 0 < s) (hn : s ≤ 1000) (cs : Array Value) (hcs : cs.size = s) :
    (Instr.buildSlice t 1 #[(0, .agg cs)]).run P w = .ok (.slice (some ⟨w.heap.size, 0, none⟩) 1 1) (w.alloc (.cells cs e)) := by
  obtain ⟨i, hi', hz, hs, hb⟩ := info_parts hi
  have h24 : ¬ 16777216 < s := by omega
  have hf := fill_one s ((Array.range s).map fun j => z.cells[j % z.cells.size]!) cs (by simp) hcs
  simp [Instr.buildSlice, run_underlying ht, sizeOf, typeInfo, hi', hs, show s ≠ 0 by omega, h24, zeroValue, hz, newRow, hf]

theorem step_build1 {x : Operand} {t e : TypeId} {z : Value} {s bytes : Nat} (cs : Array Value) (ht : P.underlying t = some (.slice e)) (hi : (P.info? e).map (fun i => (i.zero, i.size, i.bytes)) = some (some z, s, bytes)) (hs0 : 0 < s) (hn : s ≤ 1000) (hcs : cs.size = s)
    (hg : Region.wanted o (yielded ops a.tmps) = true) (ho : o.op = .buildSlice t 1 #[(0, x)]) (hx : a.eval x = .agg cs)
    (hK : ∀ g w', w.heap.size ≤ g → g < w'.heap.size → Row w' g e cs → Below w.heap.size w w' → K (a.put o.dst (.slice (some ⟨g, 0, none⟩) 1 1)) w') : if Region.wanted o (yielded ops a.tmps) = true then Oper.wp P o a w K Q else E := by
  rw [if_pos hg]
  have hrun := run_build1 (w := w) ht hi hs0 hn cs hcs
  unfold Oper.wp
  have hp : (#[(0, x)] : Array (Nat × Operand)).map (fun (i, x) => (i, a.eval x)) = #[(0, .agg cs)] := by simp [hx]
  simp only [execOp, ho, hp, Sem.run_bind, hrun, Result.andThen_ok, Sem.run_pure]
  exact hK _ _ (Nat.le_refl _) (by simp [World.alloc_size']) (Row.new _ _ _) ((Below.refl _ _).alloc (Nat.le_refl _) _)

theorem wpList_build1 {x : Operand} {t e : TypeId} {z : Value} {s bytes : Nat} (cs : Array Value) (ht : P.underlying t = some (.slice e)) (hi : (P.info? e).map (fun i => (i.zero, i.size, i.bytes)) = some (some z, s, bytes)) (hs0 : 0 < s) (hn : s ≤ 1000) (hcs : cs.size = s)
    (hg : Region.wanted o (yielded ops a.tmps) = true) (ho : o.op = .buildSlice t 1 #[(0, x)]) (hx : a.eval x = .agg cs)
    (hK : ∀ g w', w.heap.size ≤ g → g < w'.heap.size → Row w' g e cs → Below w.heap.size w w' → wpList P ops Q rest (a.put o.dst (.slice (some ⟨g, 0, none⟩) 1 1)) w') : wpList P ops Q (o :: rest) a w := by
  refine wpList_go hg fun K hK' => ?_
  have := step_build1 (K := K) (E := True) (Q := Q) cs ht hi hs0 hn hcs hg ho hx (fun g w' h1 h2 h3 h4 => hK' _ _ (hK g w' h1 h2 h3 h4))
  rwa [if_pos hg] at this

theorem run_loadArr {T e : TypeId} {n : Nat} (hT : P.underlying T = some (.array n e)) (hs : (P.info? T).map (·.size) = some n) {ad : Addr}
    (cs : List Value) (hl : cs.length = n) (hr : ∀ i x, cs[i]? = some x → w.cell? (ad.add i) = some x) : (loadVar T ad).run P w = .ok (.agg cs.toArray) w := by
  cases hq : P.info? T with
  | none => simp [hq] at hs
  | some inf =>
    have hs' : inf.size = n := by simpa [hq] using hs
    have hld := run_loadCells_list (P := P) w ad cs hr
    rw [hl] at hld
    have hagg : (isAgg T).run P w = .ok true w := by
      unfold isAgg
      rw [Sem.run_bind, run_underlying hT w]
      rfl
    simp [loadVar, Sem.run_bind, hagg, sizeOf, typeInfo, hq, hs', hld]

/-- an array, loaded, in a region that draws its order -/
theorem step_loadArr {x : Operand} {T e : TypeId} {n : Nat} (cs : List Value) (hg : Region.wanted o (yielded ops a.tmps) = true) (ho : o.op = .load T x) (hT : P.underlying T = some (.array n e)) (hs : (P.info? T).map (·.size) = some n) {ad : Addr} (hx : a.eval x = .pointer (some ad))
    (hl : cs.length = n) (hr : ∀ i x, cs[i]? = some x → w.cell? (ad.add i) = some x)
    (hK : K (a.put o.dst (.agg cs.toArray)) w) : if Region.wanted o (yielded ops a.tmps) = true then Oper.wp P o a w K Q else E := by
  rw [if_pos hg]
  have hrun := run_loadArr hT hs cs hl hr
  unfold Oper.wp
  simp only [execOp, ho, hx, Instr.loadAt, Instr.sureAddr, Sem.run_bind, Sem.run_pure, Result.andThen_ok, hrun]
  exact hK

/-- an array, stored into a block of its own -/
theorem run_storeRow {T : TypeId} {g : Nat} {t : TypeId} {c c' : Array Value} (hr : Row w g t c) (hi : (P.info? T).map (·.size) = some c'.size) (hs : c.size = c'.size) (h1 : c'.all (·.oneCell') = true) :
    (Instr.storeAt T (.pointer (some ⟨g, 0, none⟩)) (.agg c')).run P w = .ok () (w.setRow g c') := by
  simp only [Instr.storeAt, Instr.sureAddr, Sem.run_bind, Sem.run_pure, Result.andThen_ok, run_storeVar_row w g t T c c' hr hi hs h1]

theorem wpList_storeRow {T : TypeId} {x y : Operand} {g : Nat} {t : TypeId} {c : Array Value} (hr : Row w g t c) (c' : Array Value) (hg : Region.wanted o (yielded ops a.tmps) = true) (ho : o.op = .store T x y) (hx : a.eval x = .pointer (some ⟨g, 0, none⟩)) (hy : a.eval y = .agg c')
    (hi : (P.info? T).map (·.size) = some c'.size) (hs : c.size = c'.size) (h1 : c'.all (·.oneCell') = true)
    (hK : ∀ w', w' = w.setRow g c' → Row w' g t c' → w'.heap.size = w.heap.size → wpList P ops Q rest (a.put o.dst undef) w') : wpList P ops Q (o :: rest) a w := by
  refine wpList_go hg fun K hK' => ?_
  have hrun := run_storeRow (P := P) (T := T) hr hi hs h1
  unfold Oper.wp
  simp only [execOp, ho, hx, hy, Sem.run_bind, hrun, Result.andThen_ok, Sem.run_pure]
  exact hK' _ _ (hK _ rfl (heap_setRow_same w g t c c' hr) (by simp [World.setRow]))

theorem step_storeRow {T : TypeId} {x y : Operand} {g : Nat} {t : TypeId} {c : Array Value} (hr : Row w g t c) (c' : Array Value) (hg : Region.wanted o (yielded ops a.tmps) = true) (ho : o.op = .store T x y) (hx : a.eval x = .pointer (some ⟨g, 0, none⟩)) (hy : a.eval y = .agg c')
    (hi : (P.info? T).map (·.size) = some c'.size) (hs : c.size = c'.size) (h1 : c'.all (·.oneCell') = true)
    (hK : ∀ w', w' = w.setRow g c' → Row w' g t c' → w'.heap.size = w.heap.size → K (a.put o.dst undef) w') : if Region.wanted o (yielded ops a.tmps) = true then Oper.wp P o a w K Q else E := by
  rw [if_pos hg]
  have hrun := run_storeRow (P := P) (T := T) hr hi hs h1
  unfold Oper.wp
  simp only [execOp, ho, hx, hy, Sem.run_bind, hrun, Result.andThen_ok, Sem.run_pure]
  exact hK _ rfl (heap_setRow_same w g t c c' hr) (by simp [World.setRow])
end Go.Proofs.Ytfinekmegiengaa
namespace Go.Proofs.Ytfinekmegiengaa
open Go.RowKit
variable {P : Program} {w : World} {ops : Array Oper} {rest : List Oper} {o : Oper} {a : Act} {Q : Exit → Act → World → Prop} {K : Act → World → Prop} {E : Prop}
/-- an array's address out of a slice, in a region that draws its order -/
theorem step_arr {x : Operand} {T e : TypeId} {n : Nat} (hg : Region.wanted o (yielded ops a.tmps) = true) (ho : o.op = .sliceToArrayPointer T x) (hT : P.underlying T = some (.array n e)) {ad : Addr} {m c : Nat} (hx : a.eval x = .slice (some ad) m c) (hn : n ≤ m)
    (hK : K (a.put o.dst (.pointer (some ad))) w) : if Region.wanted o (yielded ops a.tmps) = true then Oper.wp P o a w K Q else E := by
  rw [if_pos hg]
  unfold Oper.wp
  simp [execOp, ho, hx, Instr.arrayAt, run_underlying hT, show ¬ m < n by omega, Result.andThen]
  exact hK
theorem rangeAt_add {w : World} {g k : Nat} {cs : List Value} (h : w.rangeAt g k cs) : ∀ i x, cs[i]? = some x → w.cell? ((⟨g, k, none⟩ : Addr).add i) = some x := fun i x hx => by rw [Addr.add_lit]; exact h i x hx
theorem rangeAt_below {B : Nat} {w w' : World} {g k : Nat} {cs : List Value} (h : w.rangeAt g k cs) (hb : Below B w w') (hg : g < B) : w'.rangeAt g k cs := fun j v hv => (hb.cell (by exact hg)).trans (h j v hv)
theorem rangeAt_grown {w w' : World} {g k : Nat} {cs : List Value} (h : w.rangeAt g k cs) {r : Option Nat} (hg : w.grownBy w' r) (hlt : g < w.heap.size) (hr : some g ≠ r) : w'.rangeAt g k cs := fun j v hv => by
  have h1 := h j v hv
  have hb := hg.block g hlt hr
  unfold World.cell? at h1 ⊢
  simp only [hb] at h1 ⊢
  exact h1
theorem rangeAt_setCell {w : World} {g k : Nat} {cs : List Value} (h : w.rangeAt g k cs) {kb i : Nat} (v : Value) (hne : g ≠ kb) : (w.setCell ⟨kb, i, none⟩ v).rangeAt g k cs := fun j x hx => by
  have h1 := h j x hx
  have hb := heap_setCell_other w ⟨kb, i, none⟩ g v hne
  unfold World.cell? at h1 ⊢
  simp only [hb] at h1 ⊢
  exact h1
theorem own_slice {base e s : Nat} {w : World} {v : Value} {n : Nat} {xs : List Value} (h : w.ownsRow base e s v n xs) (hn : 0 < n) : ∃ g c, v = .slice (some ⟨g, 0, none⟩) n c := by
  rcases h.2 with ⟨_, h0⟩ | ⟨g, cap, cur, rfl, _⟩
  · omega
  · exact ⟨g, cap, rfl⟩
set_option linter.unusedVariables false in
/-- it frees the goals' names that the kit's walk through a drawn region takes a second time ('apply' lays them anew, 'case' takes them off) -/
theorem names_fresh (hS hu hd hi hc rest : True) : True := trivial
/-- what is owned stays owned when another block's cell is written -/
theorem own_setCell {base e s : Nat} {w : World} {v : Value} {n : Nat} {xs : List Value} (h : w.ownsRow base e s v n xs) {k i : Nat} (hk : k < base) (x : Value) : (w.setCell ⟨k, i, none⟩ x).ownsRow base e s v n xs := by
  refine ⟨h.1, ?_⟩
  rcases h.2 with hn | ⟨g, cap, cur, rfl, hbg, hgg, r⟩
  · exact .inl hn
  · exact .inr ⟨g, cap, cur, rfl, hbg, (heap_setCell_other w ⟨k, i, none⟩ g x (by show g ≠ k; omega)).trans hgg, r⟩
theorem below_setCell {B : Nat} {w : World} {k i : Nat} (x : Value) (h : B ≤ k) : Below B w (w.setCell ⟨k, i, none⟩ x) := (Below.refl B w).setCell h x
/-- a box, its block under a name -/
theorem wpList_boxR {T : TypeId} {x : Operand} (v : Value) (hg : Region.wanted o (yielded ops a.tmps) = true) (ho : o.op = .box T x) (hx : a.eval x = v)
    (hK : ∀ g w', w.heap.size ≤ g → g < w'.heap.size → Row w' g T v.cells → Below w.heap.size w w' → wpList P ops Q rest (a.put o.dst (.pointer (some ⟨g, 0, none⟩))) w') : wpList P ops Q (o :: rest) a w :=
  wpList_box hg ho hx (hK _ _ (Nat.le_refl _) (by rw [World.alloc_size']; omega) (Row.new _ _ _) ((Below.refl _ _).alloc (Nat.le_refl _) _))
theorem wpList_allocR {t : TypeId} (z : Value) (n : Nat) (hz : (P.info? t).map (fun i => (i.zero, i.size)) = some (some z, n)) (hg : Region.wanted o (yielded ops a.tmps) = true) (ho : o.op = .alloc t)
    (hK : ∀ g w', w.heap.size ≤ g → g < w'.heap.size → Row w' g t z.cells → Below w.heap.size w w' → wpList P ops Q rest (a.put o.dst (.pointer (some ⟨g, 0, none⟩))) w') : wpList P ops Q (o :: rest) a w :=
  wpList_alloc hg t ho z n hz (hK _ _ (Nat.le_refl _) (by rw [World.alloc_size']; omega) (Row.new _ _ _) ((Below.refl _ _).alloc (Nat.le_refl _) _))
/-- a whole array out of its block -/
theorem wpList_loadRow {x : Operand} {T e : TypeId} {n : Nat} {g : Nat} {t : TypeId} {cs : List Value} (hr : Row w g t cs.toArray) (hl : cs.length = n) (hT : P.underlying T = some (.array n e)) (hs : (P.info? T).map (·.size) = some n)
    (hg : Region.wanted o (yielded ops a.tmps) = true) (ho : o.op = .load T x) (hx : a.eval x = .pointer (some ⟨g, 0, none⟩))
    (hK : wpList P ops Q rest (a.put o.dst (.agg cs.toArray)) w) : wpList P ops Q (o :: rest) a w :=
  wpList_loadArr hg ho hT hs hx cs hl (fun i v hv => by rw [Addr.add_lit, Nat.zero_add]; exact hr.cell (by rwa [List.getElem?_toArray])) hK
theorem wpList_arrL {x : Operand} {T e : TypeId} {n : Nat} (hg : Region.wanted o (yielded ops a.tmps) = true) (ho : o.op = .sliceToArrayPointer T x) (hT : P.underlying T = some (.array n e)) {ad : Addr} {m c : Nat} (hx : a.eval x = .slice (some ad) m c) (hn : n ≤ m)
    (hK : wpList P ops Q rest (a.put o.dst (.pointer (some ad))) w) : wpList P ops Q (o :: rest) a w := by
  refine wpList_go hg fun K hK' => ?_
  unfold Oper.wp
  simp [execOp, ho, hx, Instr.arrayAt, run_underlying hT, show ¬ m < n by omega, Result.andThen]
  exact hK' _ _ hK
/-- an array's block, cut: the bounds told first -/
theorem wpList_cutArrL (L H M : Nat) {x : Operand} {lo hi mx : Option Operand} {t e : TypeId} {n : Nat} {g : Nat} (hg : Region.wanted o (yielded ops a.tmps) = true) (ho : o.op = .slice t x lo hi mx)
    (ht : P.underlying t = some (.array n e)) (hs : (P.info? e).map (·.size) = some 1) (hx : a.eval x = .pointer (some ⟨g, 0, none⟩))
    (hlo : (lo.map a.eval = none ∧ L = 0) ∨ ∃ k N, lo.map a.eval = some (.int k N) ∧ N = (L : Int)) (hhi : (hi.map a.eval = none ∧ mx.map a.eval = none ∧ H = n) ∨ ∃ k N, hi.map a.eval = some (.int k N) ∧ N = (H : Int))
    (hmx : (mx.map a.eval = none ∧ M = n) ∨ ∃ k N, mx.map a.eval = some (.int k N) ∧ N = ((M : Nat) : Int) ∧ H ≤ M ∧ M ≤ n) (hLH : L ≤ H) (hHn : H ≤ n) (hLM : L < M)
    (hK : wpList P ops Q rest (a.put o.dst (.slice (some ⟨g, L, none⟩) (H - L) (M - L))) w) : wpList P ops Q (o :: rest) a w :=
  wpList_cutArr hg ho ht hs hx L H hlo hhi M hmx hLH hHn hLM hK
set_option linter.unusedSimpArgs false in
set_option linter.unusedVariables false in
/-- an array's block, cut, as a run -/
theorem run_cutArr (L H M : Nat) {t e : TypeId} {n : Nat} {g : Nat} {lo hi mx : Option Value}
    (ht : P.underlying t = some (.array n e)) (hs : (P.info? e).map (·.size) = some 1)
    (hlo : (lo = none ∧ L = 0) ∨ ∃ k N, lo = some (.int k N) ∧ N = (L : Int)) (hhi : (hi = none ∧ mx = none ∧ H = n) ∨ ∃ k N, hi = some (.int k N) ∧ N = (H : Int))
    (hmx : (mx = none ∧ M = n) ∨ ∃ k N, mx = some (.int k N) ∧ N = ((M : Nat) : Int) ∧ H ≤ M ∧ M ≤ n) (hLH : L ≤ H) (hHn : H ≤ n) (hLM : L < M) (w : World) :
    (Instr.sliceAt t (.pointer (some ⟨g, 0, none⟩)) lo hi mx).run P w = .ok (.slice (some ⟨g, L, none⟩) (H - L) (M - L)) w := by
  cases hq : P.info? e with
  | none => simp [hq] at hs
  | some inf =>
    have hs' : inf.size = 1 := by simpa [hq] using hs
    have hadd : (⟨g, 0, none⟩ : Addr).add (L * 1) = ⟨g, L, none⟩ := by rw [Nat.mul_one, Addr.add_lit, Nat.zero_add]
    have hML : ¬ M = L := by omega
    have e2 : (L : Int) ≤ (H : Int) := by omega
    have e1 : (H : Int) ≤ (n : Int) := by omega
    rcases hmx with ⟨hm, rfl⟩ | ⟨km, NM, hm, rfl, hHM, hMn⟩
    · rcases hhi with ⟨hh, _, rfl⟩ | ⟨kh, NH, hh, rfl⟩
      · rcases hlo with ⟨hl, rfl⟩ | ⟨kl, NL, hl, rfl⟩
        · rw [hm, hh, hl]
          simp [Instr.sliceAt, Instr.sureAddr, Instr.sliceBounds, Instr.sliceBound, asIntOf, run_underlying ht, sizeOf, typeInfo, hq, hs', hML, Addr.add_zero']
        · rw [hm, hh, hl]
          simp [Instr.sliceAt, Instr.sureAddr, Instr.sliceBounds, Instr.sliceBound, asIntOf, run_underlying ht, sizeOf, typeInfo, hq, hs', hML, hadd, e2, hLH, Addr.add_lit]
      · rcases hlo with ⟨hl, rfl⟩ | ⟨kl, NL, hl, rfl⟩
        · rw [hm, hh, hl]
          simp [Instr.sliceAt, Instr.sureAddr, Instr.sliceBounds, Instr.sliceBound, asIntOf, run_underlying ht, sizeOf, typeInfo, hq, hs', hML, e1, hHn, Addr.add_zero']
        · rw [hm, hh, hl]
          simp [Instr.sliceAt, Instr.sureAddr, Instr.sliceBounds, Instr.sliceBound, asIntOf, run_underlying ht, sizeOf, typeInfo, hq, hs', hML, hadd, e1, e2, hLH, hHn, Addr.add_lit]
    · have e6 : (M : Int) ≤ (n : Int) := by omega
      have e7 : (H : Int) ≤ (M : Int) := by omega
      rcases hhi with ⟨_, hno, _⟩ | ⟨kh, NH, hh, rfl⟩
      · rw [hno] at hm; cases hm
      · rcases hlo with ⟨hl, rfl⟩ | ⟨kl, NL, hl, rfl⟩
        · rw [hm, hh, hl]
          simp [Instr.sliceAt, Instr.sureAddr, Instr.sliceBounds, Instr.sliceBound, asIntOf, run_underlying ht, sizeOf, typeInfo, hq, hs', hML, e6, e7, hHM, hMn, Addr.add_zero']
        · rw [hm, hh, hl]
          simp [Instr.sliceAt, Instr.sureAddr, Instr.sliceBounds, Instr.sliceBound, asIntOf, run_underlying ht, sizeOf, typeInfo, hq, hs', hML, hadd, e6, e7, e2, hLH, hHM, hMn, Addr.add_lit]

theorem wpStill_run {Q : Act → Prop} {v : Value} (hg : Region.wanted o (yielded ops a.tmps) = true) (hrun : (execOp a.eval o).run P w = .ok (.value v) w) (h : wpStill P ops w Q rest (a.put o.dst v)) : wpStill P ops w Q (o :: rest) a := by
  unfold wpStill
  rw [if_pos hg]
  unfold Oper.still
  rw [hrun]
  exact ⟨rfl, h⟩
theorem wpStill_cutArr (L H M : Nat) {Q : Act → Prop} {x : Operand} {lo hi mx : Option Operand} {t e : TypeId} {n : Nat} {g : Nat} (hg : Region.wanted o (yielded ops a.tmps) = true) (ho : o.op = .slice t x lo hi mx)
    (ht : P.underlying t = some (.array n e)) (hs : (P.info? e).map (·.size) = some 1) (hx : a.eval x = .pointer (some ⟨g, 0, none⟩))
    (hlo : (lo.map a.eval = none ∧ L = 0) ∨ ∃ k N, lo.map a.eval = some (.int k N) ∧ N = (L : Int)) (hhi : (hi.map a.eval = none ∧ mx.map a.eval = none ∧ H = n) ∨ ∃ k N, hi.map a.eval = some (.int k N) ∧ N = (H : Int))
    (hmx : (mx.map a.eval = none ∧ M = n) ∨ ∃ k N, mx.map a.eval = some (.int k N) ∧ N = ((M : Nat) : Int) ∧ H ≤ M ∧ M ≤ n) (hLH : L ≤ H) (hHn : H ≤ n) (hLM : L < M)
    (h : wpStill P ops w Q rest (a.put o.dst (.slice (some ⟨g, L, none⟩) (H - L) (M - L)))) : wpStill P ops w Q (o :: rest) a :=
  wpStill_run hg (by
    have hrun := run_cutArr (P := P) (g := g) L H M ht hs hlo hhi hmx hLH hHn hLM w
    simp only [execOp, ho, hx, Sem.run_bind, hrun, Result.andThen_ok, Sem.run_pure]) h
/-- an array, loaded from wherever its cells lie, in the head of a region that draws -/
theorem wpStill_loadArr {Q : Act → Prop} {x : Operand} {T e : TypeId} {n : Nat} {ad : Addr} (cs : List Value) (hg : Region.wanted o (yielded ops a.tmps) = true) (ho : o.op = .load T x) (hT : P.underlying T = some (.array n e)) (hs : (P.info? T).map (·.size) = some n) (hx : a.eval x = .pointer (some ad))
    (hl : cs.length = n) (hr : ∀ i x, cs[i]? = some x → w.cell? (ad.add i) = some x)
    (h : wpStill P ops w Q rest (a.put o.dst (.agg cs.toArray))) : wpStill P ops w Q (o :: rest) a :=
  wpStill_run hg (by
    have hrun := run_loadArr (P := P) hT hs cs hl hr
    simp only [execOp, ho, hx, Instr.loadAt, Instr.sureAddr, Sem.run_bind, Sem.run_pure, Result.andThen_ok, hrun]) h
theorem wpStill_arrL {Q : Act → Prop} {x : Operand} {T e : TypeId} {n : Nat} (hg : Region.wanted o (yielded ops a.tmps) = true) (ho : o.op = .sliceToArrayPointer T x) (hT : P.underlying T = some (.array n e)) {ad : Addr} {m c : Nat} (hx : a.eval x = .slice (some ad) m c) (hn : n ≤ m)
    (h : wpStill P ops w Q rest (a.put o.dst (.pointer (some ad)))) : wpStill P ops w Q (o :: rest) a :=
  wpStill_run hg (by
    simp [execOp, ho, hx, Instr.arrayAt, run_underlying hT, show ¬ m < n by omega, Result.andThen]) h
theorem rdb_of_row {w : World} {g n : Nat} {t : TypeId} {ys : List Nat} (h : Row w g t (bv ys).toArray) (hn : ys.length = n) : RdB (g + 1) w (.slice (some ⟨g, 0, none⟩) n n) ys := by
  subst hn
  have h1 := RdS.of_row h (n := ys.length) (cap := ys.length) (s := 1) (by simp) (Nat.le_refl _)
  exact h1
end Go.Proofs.Ytfinekmegiengaa
