/- Laws for the walks: a cut of a slice, append and copy of what is read, a made slice, an array out of a slice and into a block. -/
import Derived.Test.YtfinekmegiengaaMem
import Derived.Laws.CopyOwn
namespace Go.Proofs.Ytfinekmegiengaa
open Go.RowKit
set_option linter.unusedSimpArgs false
set_option linter.unusedVariables false

/-- block g is a row of cells that may be written -/
def Row (w : World) (g : Nat) (t : TypeId) (c : Array Value) : Prop := w.heap[g]? = some (.cells c t (0, 0))
theorem Row.lt {w : World} {g : Nat} {t : TypeId} {c : Array Value} (h : Row w g t c) : g < w.heap.size := (Array.getElem?_eq_some_iff.1 h).1
theorem Row.mono {B : Nat} {w w' : World} {g : Nat} {t : TypeId} {c : Array Value} (h : Row w g t c) (hb : Below B w w') (hg : g < B) : Row w' g t c := (hb.block g hg).trans h
theorem Row.next {w w' : World} {g : Nat} {t : TypeId} {c : Array Value} (h : Row w g t c) (hb : Below w.heap.size w w') : Row w' g t c := h.mono hb h.lt
theorem Row.cell {w : World} {g : Nat} {t : TypeId} {c : Array Value} (h : Row w g t c) {i : Nat} {v : Value} (hv : c[i]? = some v) : w.cell? ⟨g, i, none⟩ = some v := (cell_of_row w g i c t (0, 0) h).trans hv
theorem Row.free {w : World} {g : Nat} {t : TypeId} {c : Array Value} (h : Row w g t c) (i : Nat) : w.frozen? ⟨g, i, none⟩ = false := frozen_of_row w g i c t h
theorem Row.new (w : World) (t : TypeId) (c : Array Value) : Row (w.alloc (.cells c t)) w.heap.size t c := heap_alloc_last w _
theorem Row.alloc {w : World} {g : Nat} {t : TypeId} {c : Array Value} (h : Row w g t c) (o : Obj) : Row (w.alloc o) g t c := (Below.heap_alloc w o g h.lt).trans h
theorem Row.set {w : World} {g : Nat} {t : TypeId} {c : Array Value} (h : Row w g t c) (i : Nat) (v : Value) : Row (w.setCell ⟨g, i, none⟩ v) g t (c.setIfInBounds i v) := heap_setCell_same w g i c t v h
theorem Row.other {w : World} {g : Nat} {t : TypeId} {c : Array Value} (h : Row w g t c) {p : Addr} (hp : g ≠ p.block) (v : Value) : Row (w.setCell p v) g t c := (heap_setCell_other w p g v hp).trans h
theorem Row.grown {w w' : World} {g : Nat} {t : TypeId} {c : Array Value} (h : Row w g t c) {r : Option Nat} (hg : w.grownBy w' r) (hr : some g ≠ r) : Row w' g t c := (hg.block g h.lt hr).trans h
theorem heap_setRow_same (w : World) (g : Nat) (t : TypeId) (c c' : Array Value) (h : Row w g t c) : Row (w.setRow g c') g t c' := by
  unfold Row at *
  simp only [World.setRow, Array.getElem?_modify, h]
  simp
theorem heap_setRow_other (w : World) (g k : Nat) (c' : Array Value) (h : k ≠ g) : (w.setRow g c').heap[k]? = w.heap[k]? := by
  simp only [World.setRow, Array.getElem?_modify]
  rw [if_neg (fun e => h e.symm)]
theorem below_row {B : Nat} {w : World} {g : Nat} (c' : Array Value) (h : B ≤ g) : Below B w (w.setRow g c') :=
  ⟨rfl, rfl, rfl, by simp [World.setRow], fun k hk => heap_setRow_other w g k c' (by omega)⟩
theorem below_grown {B : Nat} {w w' : World} {r : Option Nat} (hg : w.grownBy w' r) (hB : B ≤ w.heap.size) (hr : ∀ k, r = some k → B ≤ k) : Below B w w' := (Below.refl B w).grown hg hB hr

theorem RdS.of_row {w : World} {g : Nat} {t : TypeId} {c : Array Value} (h : Row w g t c) {n cap s : Nat} (hn : c.size = n * s) (hc : n ≤ cap) : RdS (g + 1) s w (.slice (some ⟨g, 0, none⟩) n cap) n c.toList := by
  refine ⟨by simpa using hn, _, _, rfl, hc, fun i x hx => ⟨_, rfl, Nat.lt_succ_self g, ?_⟩⟩
  have hadd : (⟨g, 0, none⟩ : Addr).add i = ⟨g, i, none⟩ := by rw [Addr.add_lit, Nat.zero_add]
  rw [hadd]
  exact h.cell (by simpa using hx)

section
variable {P : Program} {w : World} {ops : Array Oper} {rest : List Oper} {o : Oper} {a : Act} {Q : Exit → Act → World → Prop}

theorem wpList_cut {x : Operand} {lo hi mx : Option Operand} {t e : TypeId} {s : Nat} (hg : Region.wanted o (yielded ops a.tmps) = true) (ho : o.op = .slice t x lo hi mx)
    (ht : P.underlying t = some (.slice e)) (hs : (P.info? e).map (·.size) = some s) {v : Value} (hx : a.eval x = v) {B n : Nat} {cs : List Value} (h : RdS B s w v n cs) (L H : Nat)
    (hlo : (lo.map a.eval = none ∧ L = 0) ∨ ∃ k N, lo.map a.eval = some (.int k N) ∧ N = (L : Int)) (hhi : (hi.map a.eval = none ∧ mx.map a.eval = none ∧ H = n) ∨ ∃ k N, hi.map a.eval = some (.int k N) ∧ N = (H : Int))
    (hmx : mx.map a.eval = none ∨ ∃ k N M, mx.map a.eval = some (.int k N) ∧ N = ((M : Nat) : Int) ∧ H ≤ M ∧ M ≤ n) (hLH : L ≤ H) (hHn : H ≤ n)
    (hK : ∀ v', RdS B s w v' (H - L) ((cs.drop (L * s)).take ((H - L) * s)) → wpList P ops Q rest (a.put o.dst v') w) : wpList P ops Q (o :: rest) a w := by
  refine wpList_go hg fun K hK' => ?_
  obtain ⟨v', hrun, hr⟩ := run_sliceS ht hs h (lo.map a.eval) (hi.map a.eval) (mx.map a.eval) L H
    (by rcases hlo with h | ⟨k, N, h, rfl⟩; exact .inl h; exact .inr ⟨k, h⟩)
    (by rcases hhi with h | ⟨k, N, h, rfl⟩; exact .inl h; exact .inr ⟨k, h⟩)
    (by rcases hmx with h | ⟨k, N, M, h, rfl, h2⟩; exact .inl h; exact .inr ⟨k, M, h, h2⟩) hLH hHn
  have hrun' : (Instr.sliceAt t v (lo.map a.eval) (hi.map a.eval) (mx.map a.eval)).run P w = .ok v' w := by
    unfold Instr.sliceAt
    rw [Sem.run_bind, run_underlying ht]
    exact hrun w
  unfold Oper.wp
  simp only [execOp, ho, hx, Sem.run_bind, hrun', Result.andThen_ok, Sem.run_pure]
  exact hK' _ _ (hK v' hr)

theorem run_append_zero {t ty e : TypeId} {i : TypeInfo} {size : Nat} (ht : P.underlying t = some (.slice e)) (hi : P.info? e = some i) (hs : i.size = size) (b : Option Addr) (n cap : Nat) (hn : n ≤ cap)
    (x : Option Addr) (c : Nat) : (Builtin.append_ #[t, t] ty #[.slice b n cap, .slice x 0 c]).run P w = .ok (.slice b n cap) w := by
  cases x <;> cases b <;> simp [Builtin.append_, run_underlying ht, sizeOf, typeInfo, hi, Builtin.lenOf, hn, Builtin.firstCells, loadCells, loadCellsFrom, storeCells]

theorem wpList_append {sO xO : Operand} {t : TypeId} (hg : Region.wanted o (yielded ops a.tmps) = true) (ho : o.op = .call { callee := .builtin .append, args := #[sO, xO], argTypes := #[t, t] })
    {base : Nat} {e : TypeId} {z : Value} {size bytes : Nat} (ht : P.underlying t = some (.slice e)) (hi : (P.info? e).map (fun i => (i.zero, i.size, i.bytes)) = some (some z, size, bytes)) (hzs : z.cells.size = size) (hsz : 0 < size)
    {v : Value} {n : Nat} {xs : List Value} (hs : a.eval sO = v) (hown : w.ownsRow base e size v n xs) {B m : Nat} {y : Value} {ys : List Value} (hx : a.eval xO = y) (h : RdS B size w y m ys) (h1 : ∀ u ∈ ys, u.oneCell' = true)
    (h63 : n + m ≤ 140737488351232) (hbytes : (n + m) * bytes ≤ 140737488355328) (hbase : base ≤ w.heap.size)
    (hK : ∀ v' w', w'.ownsRow base e size v' (n + m) (xs ++ ys) → w.grownBy w' v.ownBlock → wpList P ops Q rest (a.put o.dst v') w') : wpList P ops Q (o :: rest) a w := by
  obtain ⟨i, hi', hz, hs', hb⟩ := info_parts hi
  by_cases hm : m = 0
  · subst hm
    obtain ⟨hl, ax, c, rfl, _, _⟩ := h
    have hys : ys = [] := List.eq_nil_of_length_eq_zero (by rw [hl]; simp)
    subst hys
    have hv : ∃ b k, v = .slice b n k ∧ n ≤ k := by
      rcases hown.2 with ⟨rfl, rfl⟩ | ⟨g, cap, cur, rfl, _, _, hn, _⟩
      · exact ⟨none, 0, rfl, Nat.le_refl _⟩
      · exact ⟨_, _, rfl, hn⟩
    obtain ⟨b, k, hv, hnk⟩ := hv
    refine wpList_go hg fun K hK' => ?_
    unfold Oper.wp
    simp [execOp, ho, resolve, invoke, builtin, hs, hx, hv, run_append_zero ht hi' hs' b n k hnk ax c, Result.andThen]
    rw [← hv]
    exact hK' _ _ (hK v w (by simpa using hown) (World.grownBy.refl w _))
  · have hne : ys ≠ [] := by
      intro h0
      have := h.1
      rw [h0] at this
      have h2 : 0 < m * size := Nat.mul_pos (by omega) hsz
      simp at this
      omega
    obtain ⟨ad, c, rfl, hc, hB, hr⟩ := h.addr hne
    obtain ⟨v', w', hrun, h2, h3, _⟩ := run_append_own (P := P) w base t o.type e i z size bytes ht hi' hz hs' hb hzs hsz v n xs hown ad m c ys h.1 hr h1 (by unfold maxLen; omega) hbytes hbase
    refine wpList_go hg fun K hK' => ?_
    unfold Oper.wp
    simp [execOp, ho, resolve, invoke, builtin, hs, hx, hrun, Result.andThen]
    exact hK' _ _ (hK v' w' h2 h3)

/-- 'copy' onto the cells from off on of a row -/
theorem wpList_copy {dO xO : Operand} {t t2 : TypeId} (hg : Region.wanted o (yielded ops a.tmps) = true) (ho : o.op = .call { callee := .builtin .copy, args := #[dO, xO], argTypes := #[t, t2] })
    {e : TypeId} (ht : P.underlying t = some (.slice e)) (hs : (P.info? e).map (·.size) = some 1) {g off dn dc : Nat} {cur : Array Value} (hd : a.eval dO = .slice (some ⟨g, off, none⟩) dn dc) {t3 : TypeId} (hrow : Row w g t3 cur)
    {B m : Nat} {y : Value} {ys : List Value} (hx : a.eval xO = y) (h : RdS B 1 w y m ys) (h1 : ∀ u ∈ ys, u.oneCell' = true) (hm : m ≤ dn) (hfit : off + m ≤ cur.size)
    (hK : wpList P ops Q rest (a.put o.dst (.int .i64 (m : Int))) (w.setRow g (cur.toList.take off ++ ys ++ cur.toList.drop (off + m)).toArray)) : wpList P ops Q (o :: rest) a w := by
  cases hq : P.info? e with
  | none => simp [hq] at hs
  | some inf =>
    have hs' : inf.size = 1 := by simpa [hq] using hs
    refine wpList_go hg fun K hK' => ?_
    have hyl : ys.length = m := by rw [h.1]; omega
    have hmin : Nat.min m dn = m := Nat.min_eq_left hm
    obtain ⟨hl, ax, c, rfl, hc, hr⟩ := h
    have hst := run_storeCells_at P g off t3 ys 0 cur w hrow (by rw [hyl]; omega) h1
    simp only [Nat.add_zero, hyl] at hst
    have hcells : (Builtin.firstCells 1 m (.slice ax m c)).run P w = .ok ys.toArray w := by
      by_cases h0 : m = 0
      · subst h0
        have : ys = [] := List.eq_nil_of_length_eq_zero hyl
        subst this
        cases ax <;> simp [Builtin.firstCells, loadCells, loadCellsFrom]
      · obtain ⟨ad, c', e1, _, _, hr'⟩ := RdS.addr (v := .slice ax m c) (n := m) ⟨hl, ax, c, rfl, hc, hr⟩ (by intro h2; rw [h2] at hyl; simp at hyl; omega)
        simp only [Value.slice.injEq] at e1
        obtain ⟨rfl, _, _⟩ := e1
        exact run_firstCells_some w 1 m ad m c ys (by omega) hr'
    unfold Oper.wp
    simp [execOp, ho, resolve, invoke, builtin, hd, hx, Builtin.copy_, run_underlying ht, Builtin.lenOf, sizeOf, typeInfo, hq, hs', hmin, hcells, hst, goInt, Result.andThen]
    have hfin := hK' _ _ hK
    simp only [List.append_assoc] at hfin
    exact hfin

/-- an array's address out of a slice -/
theorem wpList_arr {x : Operand} {T e : TypeId} {n : Nat} (hg : Region.wanted o (yielded ops a.tmps) = true) (ho : o.op = .sliceToArrayPointer T x) (hT : P.underlying T = some (.array n e)) {v : Value} (hx : a.eval x = v)
    {B m s : Nat} {cs : List Value} (h : RdS B s w v m cs) (hn : n ≤ m) (h0 : cs ≠ [])
    (hK : ∀ ad : Addr, ad.block < B → (∀ i x, cs[i]? = some x → w.cell? (ad.add i) = some x) → wpList P ops Q rest (a.put o.dst (.pointer (some ad))) w) : wpList P ops Q (o :: rest) a w := by
  refine wpList_go hg fun K hK' => ?_
  obtain ⟨ad, c, rfl, _, hB, hr⟩ := h.addr h0
  unfold Oper.wp
  simp [execOp, ho, hx, Instr.arrayAt, run_underlying hT, show ¬ m < n by omega, Result.andThen]
  exact hK' _ _ (hK ad hB hr)

/-- an array, loaded from wherever its cells lie -/
theorem wpList_loadArr {x : Operand} {T e : TypeId} {n : Nat} (hg : Region.wanted o (yielded ops a.tmps) = true) (ho : o.op = .load T x) (hT : P.underlying T = some (.array n e)) (hs : (P.info? T).map (·.size) = some n) {ad : Addr} (hx : a.eval x = .pointer (some ad))
    (cs : List Value) (hl : cs.length = n) (hr : ∀ i x, cs[i]? = some x → w.cell? (ad.add i) = some x)
    (hK : wpList P ops Q rest (a.put o.dst (.agg cs.toArray)) w) : wpList P ops Q (o :: rest) a w := by
  cases hq : P.info? T with
  | none => simp [hq] at hs
  | some inf =>
    have hs' : inf.size = n := by simpa [hq] using hs
    refine wpList_go hg fun K hK' => ?_
    have hld := run_loadCells_list (P := P) w ad cs hr
    rw [hl] at hld
    have hagg : (isAgg T).run P w = .ok true w := by
      unfold isAgg
      rw [Sem.run_bind, run_underlying hT w]
      rfl
    have hrun : (loadVar T ad).run P w = .ok (.agg cs.toArray) w := by
      simp [loadVar, Sem.run_bind, hagg, sizeOf, typeInfo, hq, hs', hld]
    unfold Oper.wp
    simp only [execOp, ho, hx, Instr.loadAt, Instr.sureAddr, Sem.run_bind, Sem.run_pure, Result.andThen_ok, hrun]
    exact hK' _ _ hK

/-- a variable of one cell's type, loaded -/
theorem wpList_load {x : Operand} {T : TypeId} (hg : Region.wanted o (yielded ops a.tmps) = true) (ho : o.op = .load T x) (hT : (isAgg T).run P w = .ok false w) {ad : Addr} (hx : a.eval x = .pointer (some ad)) {v : Value} (hc : w.cell? ad = some v)
    (hK : wpList P ops Q rest (a.put o.dst v) w) : wpList P ops Q (o :: rest) a w := by
  refine wpList_go hg fun K hK' => ?_
  have hrun : (loadVar T ad).run P w = .ok v w := by
    simp [loadVar, Sem.run_bind, hT, load, Sem.run, hc]
  unfold Oper.wp
  simp only [execOp, ho, hx, Instr.loadAt, Instr.sureAddr, Sem.run_bind, Sem.run_pure, Result.andThen_ok, hrun]
  exact hK' _ _ hK

/-- an array's block, cut: the slice from its L-th cell on, up to its H-th -/
theorem wpList_cutArr {x : Operand} {lo hi mx : Option Operand} {t e : TypeId} {n : Nat} (hg : Region.wanted o (yielded ops a.tmps) = true) (ho : o.op = .slice t x lo hi mx)
    (ht : P.underlying t = some (.array n e)) (hs : (P.info? e).map (·.size) = some 1) {g : Nat} (hx : a.eval x = .pointer (some ⟨g, 0, none⟩)) (L H : Nat)
    (hlo : (lo.map a.eval = none ∧ L = 0) ∨ ∃ k N, lo.map a.eval = some (.int k N) ∧ N = (L : Int)) (hhi : (hi.map a.eval = none ∧ mx.map a.eval = none ∧ H = n) ∨ ∃ k N, hi.map a.eval = some (.int k N) ∧ N = (H : Int))
    (M : Nat) (hmx : (mx.map a.eval = none ∧ M = n) ∨ ∃ k N, mx.map a.eval = some (.int k N) ∧ N = ((M : Nat) : Int) ∧ H ≤ M ∧ M ≤ n) (hLH : L ≤ H) (hHn : H ≤ n) (hLM : L < M)
    (hK : wpList P ops Q rest (a.put o.dst (.slice (some ⟨g, L, none⟩) (H - L) (M - L))) w) : wpList P ops Q (o :: rest) a w := by
  cases hq : P.info? e with
  | none => simp [hq] at hs
  | some inf =>
    have hs' : inf.size = 1 := by simpa [hq] using hs
    refine wpList_go hg fun K hK' => ?_
    have hadd : (⟨g, 0, none⟩ : Addr).add (L * 1) = ⟨g, L, none⟩ := by rw [Nat.mul_one, Addr.add_lit, Nat.zero_add]
    have hML : ¬ M = L := by omega
    have e2 : (L : Int) ≤ (H : Int) := by omega
    have e1 : (H : Int) ≤ (n : Int) := by omega
    have hrun : (Instr.sliceAt t (.pointer (some ⟨g, 0, none⟩)) (lo.map a.eval) (hi.map a.eval) (mx.map a.eval)).run P w = .ok (.slice (some ⟨g, L, none⟩) (H - L) (M - L)) w := by
      rcases hmx with ⟨hm, rfl⟩ | ⟨km, NM, hm, rfl, hHM, hMn⟩
      · rcases hhi with ⟨hh, _, rfl⟩ | ⟨kh, NH, hh, rfl⟩
        · rcases hlo with ⟨hl, rfl⟩ | ⟨kl, NL, hl, rfl⟩
          · rw [hm, hh, hl]
            simp [Instr.sliceAt, Instr.sureAddr, Instr.sliceBounds, Instr.sliceBound, asIntOf, run_underlying ht, sizeOf, typeInfo, hq, hs', hML, Addr.add_zero']
          · rw [hm, hh, hl]
            simp [Instr.sliceAt, Instr.sureAddr, Instr.sliceBounds, Instr.sliceBound, asIntOf, run_underlying ht, sizeOf, typeInfo, hq, hs', hML, hadd, e2, hLH, Addr.add_lit]
        · rcases hlo with ⟨hl, rfl⟩ | ⟨kl, NL, hl, rfl⟩
          · rw [hm, hh, hl]
            simp [Instr.sliceAt, Instr.sureAddr, Instr.sliceBounds, Instr.sliceBound, asIntOf, run_underlying ht, sizeOf, typeInfo, hq, hs', hML, e1, hHn, Addr.add_zero']
          · rw [hm, hh, hl]
            simp [Instr.sliceAt, Instr.sureAddr, Instr.sliceBounds, Instr.sliceBound, asIntOf, run_underlying ht, sizeOf, typeInfo, hq, hs', hML, hadd, e1, e2, hLH, hHn, Addr.add_lit]
      · have e6 : (M : Int) ≤ (n : Int) := by omega
        have e7 : (H : Int) ≤ (M : Int) := by omega
        rcases hhi with ⟨_, hno, _⟩ | ⟨kh, NH, hh, rfl⟩
        · rw [hno] at hm; cases hm
        · rcases hlo with ⟨hl, rfl⟩ | ⟨kl, NL, hl, rfl⟩
          · rw [hm, hh, hl]
            simp [Instr.sliceAt, Instr.sureAddr, Instr.sliceBounds, Instr.sliceBound, asIntOf, run_underlying ht, sizeOf, typeInfo, hq, hs', hML, e6, e7, hHM, hMn, Addr.add_zero']
          · rw [hm, hh, hl]
            simp [Instr.sliceAt, Instr.sureAddr, Instr.sliceBounds, Instr.sliceBound, asIntOf, run_underlying ht, sizeOf, typeInfo, hq, hs', hML, hadd, e6, e7, e2, hLH, hHM, hMn, Addr.add_lit]
    unfold Oper.wp
    simp only [execOp, ho, hx, Sem.run_bind, hrun, Result.andThen_ok, Sem.run_pure]
    exact hK' _ _ hK

/-- a box: a value's cells are a new block -/
theorem wpList_box {x : Operand} {T : TypeId} (hg : Region.wanted o (yielded ops a.tmps) = true) (ho : o.op = .box T x) {v : Value} (hx : a.eval x = v)
    (hK : wpList P ops Q rest (a.put o.dst (.pointer (some ⟨w.heap.size, 0, none⟩))) (w.alloc (.cells v.cells T))) : wpList P ops Q (o :: rest) a w := by
  refine wpList_go hg fun K hK' => ?_
  have hrun : (Instr.box T v).run P w = .ok (.pointer (some ⟨w.heap.size, 0, none⟩)) (w.alloc (.cells v.cells T)) := rfl
  unfold Oper.wp
  simp only [execOp, ho, hx, Sem.run_bind, hrun, Result.andThen_ok, Sem.run_pure]
  exact hK' _ _ hK

end
end Go.Proofs.Ytfinekmegiengaa
