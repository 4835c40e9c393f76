/- Laws for the walks: slices, rows, arrays, appends, regions that draw their order. -/
import Derived.Test.YtfinekmegiengaaProg
import Derived.WalkKit
import Derived.WalkLawsBesides
import Derived.WalkSpells
import Derived.Lib.Hide
import Derived.BigQuiet
import Derived.Deep.QuietTactic
import Derived.Deep.WholeRow
import Derived.Laws.AppendOwnNone
import Derived.DataElems
import Derived.Laws.CopyOwn
import Derived.StillTailTactics
import Derived.Deep.MidRow
import Derived.StillTail
import Derived.Deep.RegionHeld3
import Derived.Maps.AppendAt
/- Words and small lemmas for the walks of this claim: posts that the walk does not open, rows of cells, the build of an array's literal. -/
namespace Go.Proofs.Ytfinekmegiengaa
open Go.RowKit

/-- it returns v, and the world is as it was -/
def RetP (v : Value) (w : World) (e : Ending) (w' : World) : Prop := e = .returned v ∧ w = w'
/-- it returns v, and what was there is as it was -/
def RetB (v : Value) (w : World) (e : Ending) (w' : World) : Prop := e = .returned v ∧ Below w.heap.size w w'
theorem RetP.mk {v v' : Value} {w : World} (h : v' = v) : RetP v w (.returned v') w := ⟨by rw [h], rfl⟩
theorem RetB.mk {v v' : Value} {w w' : World} (h : v' = v) (hb : Below w.heap.size w w') : RetB v w (.returned v') w' := ⟨by rw [h], hb⟩
theorem val_int {k : IntKind} {a b : Int} (h : a = b) : Value.int k a = .int k b := by rw [h]
theorem val_bool {a b : Bool} (h : a = b) : Value.bool a = .bool b := by rw [h]

/-- an operation that is wanted (it has no guard, or its guard says yes) -/
theorem wpList_go {P : Program} {ops : Array Oper} {rest : List Oper} {o : Oper} {a : Act} {w : World} {Q : Exit → Act → World → Prop} (hg : Region.wanted o (yielded ops a.tmps) = true)
    (h : ∀ K : Act → World → Prop, (∀ a w, wpList P ops Q rest a w → K a w) → o.wp P a w K Q) : wpList P ops Q (o :: rest) a w := by
  unfold wpList
  rw [if_pos hg]
  exact .inl (h _ fun _ _ h => h)

/-- an operation that builds an array or a struct out of parts -/
theorem wpList_build {P : Program} {ops : Array Oper} {rest : List Oper} {o : Oper} {a : Act} {w : World} {Q : Exit → Act → World → Prop} (hg : Region.wanted o (yielded ops a.tmps) = true)
    (t : TypeId) (parts : Array (Nat × Operand)) (ho : o.op = .build t parts) (V : Array Value)
    (hrun : (Instr.build t (parts.map fun (i, x) => (i, a.eval x))).run P w = .ok (.agg V) w)
    (h : wpList P ops Q rest (a.put o.dst (.agg V)) w) : wpList P ops Q (o :: rest) a w := by
  refine wpList_go hg fun K hK => ?_
  unfold Oper.wp execOp
  simp only [ho, Sem.run_bind, hrun, Result.andThen_ok, Sem.run_pure]
  exact hK _ _ h

/-- a new variable: its zero value's cells are a new block -/
theorem wpList_alloc {P : Program} {ops : Array Oper} {rest : List Oper} {o : Oper} {a : Act} {w : World} {Q : Exit → Act → World → Prop} (hg : Region.wanted o (yielded ops a.tmps) = true)
    (t : TypeId) (ho : o.op = .alloc t) (z : Value) (n : Nat) (hz : (P.info? t).map (fun i => (i.zero, i.size)) = some (some z, n))
    (h : wpList P ops Q rest (a.put o.dst (.pointer (some ⟨w.heap.size, 0, none⟩))) (w.alloc (.cells z.cells t))) : wpList P ops Q (o :: rest) a w := by
  refine wpList_go hg fun K hK => ?_
  have hrun : (Instr.alloc t true (.tuple #[])).run P w = .ok (.pointer (some ⟨w.heap.size, 0, none⟩)) (w.alloc (.cells z.cells t)) := by
    unfold Instr.alloc
    rw [Sem.run_bind, (zero_of_info hz).1 w]
    rfl
  unfold Oper.wp execOp
  simp only [ho, Sem.run_bind, hrun, Result.andThen_ok, Sem.run_pure]
  exact hK _ _ h

/-- an array's or a struct's value, stored into the block that was made last -/
theorem wpList_store_last {P : Program} {ops : Array Oper} {rest : List Oper} {o : Oper} {a : Act} {w : World} {Q : Exit → Act → World → Prop} (hg : o.guard = none)
    (t : TypeId) (x y : Operand) (ho : o.op = .store t x y) (c c' : Array Value) (hx : a.eval x = .pointer (some ⟨w.heap.size, 0, none⟩)) (hy : a.eval y = .agg c')
    (hi : (P.info? t).map (·.size) = some c'.size) (hs : c.size = c'.size) (h1 : c'.all (·.oneCell') = true)
    (h : wpList P ops Q rest (a.put o.dst undef) (w.alloc (.cells c' t))) : wpList P ops Q (o :: rest) a (w.alloc (.cells c t)) :=
  wpList_store_row hg t x y ho w.heap.size c' hx hy t c (heap_alloc_last w _) hi hs h1 (by rw [World.setRow_alloc_new]; exact h)

/-- the results: one array that lies in the block that was made last -/
theorem ret_row {P : Program} {fn : Func} {p : Tmp} {ty : TypeId} (h : fn.results = #[.cell p ty]) {R : Ending → World → Prop} {a : Act} {w : World} (g : Nat) (t : TypeId) (cs : Array Value) (fr : Nat × Nat) (d : TypeDesc)
    (hp : a.tmps.getD p undef = .pointer (some ⟨g, 0, none⟩)) (hg : w.heap[g]? = some (.cells cs t fr)) (hd0 : a.defers = [])
    (hu : P.underlying ty = some d) (hd : (match d with | .struct _ | .array _ _ => true | _ => false) = true) (hi : (P.info? ty).map (·.size) = some cs.size)
    (hR : R (.returned (.agg cs)) w) : bodyPost P fn R .ret a w :=
  bodyPost_ret (results_cell_row h a.tmps w g t cs fr d hp hg hu hd hi) hd0 hR

end Go.Proofs.Ytfinekmegiengaa
/- Slices that are read, by what they hold: laws for the walks (length, index, cut, append, array of a slice), whatever address they have. -/
namespace Go.Proofs.Ytfinekmegiengaa
open Go.RowKit
set_option linter.unusedSimpArgs false
set_option linter.unusedVariables false

/-- v is a slice of n elements of s cells each; its cells are cs; they lie in blocks below B -/
def RdS (B s : Nat) (w : World) (v : Value) (n : Nat) (cs : List Value) : Prop :=
  cs.length = n * s ∧ ∃ a c, v = .slice a n c ∧ n ≤ c ∧ ∀ i x, cs[i]? = some x → ∃ ad, a = some ad ∧ ad.block < B ∧ w.cell? (ad.add i) = some x

theorem RdS.len {B s w v n cs} (h : RdS B s w v n cs) : cs.length = n * s := h.1
theorem RdS.mono {B s : Nat} {w w' : World} {v : Value} {n : Nat} {cs : List Value} (h : RdS B s w v n cs) (hb : Below B w w') : RdS B s w' v n cs := by
  obtain ⟨hl, a, c, hv, hc, hr⟩ := h
  refine ⟨hl, a, c, hv, hc, fun i x hx => ?_⟩
  obtain ⟨ad, ha, hB, hcell⟩ := hr i x hx
  refine ⟨ad, ha, hB, ?_⟩
  have hblk : (ad.add i).block = ad.block := by unfold Addr.add; split <;> rfl
  rw [hb.cell (by rw [hblk]; exact hB)]
  exact hcell
theorem RdS.up {B B' s : Nat} {w : World} {v : Value} {n : Nat} {cs : List Value} (h : RdS B s w v n cs) (hB : B ≤ B') : RdS B' s w v n cs := by
  obtain ⟨hl, a, c, hv, hc, hr⟩ := h
  exact ⟨hl, a, c, hv, hc, fun i x hx => let ⟨ad, ha, hb, hcell⟩ := hr i x hx; ⟨ad, ha, Nat.lt_of_lt_of_le hb hB, hcell⟩⟩
/-- behind a callee that leaves what was there as it was -/
theorem RdS.next {s : Nat} {w w' : World} {v : Value} {n : Nat} {cs : List Value} (h : RdS w.heap.size s w v n cs) (hb : Below w.heap.size w w') : RdS w'.heap.size s w' v n cs :=
  (h.mono hb).up hb.size
theorem RdS.nil (B s : Nat) (w : World) : RdS B s w (.slice none 0 0) 0 [] := ⟨by simp, none, 0, rfl, Nat.le_refl _, fun i x hx => by simp at hx⟩

theorem RdS.of_own {base e s : Nat} {w : World} {v : Value} {n : Nat} {xs : List Value} (h : w.ownsRow base e s v n xs) : RdS w.heap.size s w v n xs := by
  refine ⟨h.1, ?_⟩
  rcases h.2 with ⟨rfl, rfl⟩ | ⟨g, cap, cur, rfl, hb, hg, hn, hm, hs, ht⟩
  · have hx : xs = [] := List.eq_nil_of_length_eq_zero (by rw [h.1]; simp)
    subst hx
    exact ⟨none, 0, rfl, Nat.le_refl _, fun i x hx => by simp at hx⟩
  · refine ⟨_, _, rfl, hn, fun i x hx => ⟨⟨g, 0, none⟩, rfl, (Array.getElem?_eq_some_iff.1 hg).1, ?_⟩⟩
    exact h.cells (g := g) rfl i x hx

/-- the cells of a slice that is not empty lie at an address -/
theorem RdS.addr {B s : Nat} {w : World} {v : Value} {n : Nat} {cs : List Value} (h : RdS B s w v n cs) (hn : cs ≠ []) :
    ∃ ad c, v = .slice (some ad) n c ∧ n ≤ c ∧ ad.block < B ∧ ∀ i x, cs[i]? = some x → w.cell? (ad.add i) = some x := by
  obtain ⟨hl, a, c, hv, hc, hr⟩ := h
  obtain ⟨x0, rest, rfl⟩ : ∃ x rest, cs = x :: rest := by cases cs with
    | nil => exact absurd rfl hn
    | cons x r => exact ⟨x, r, rfl⟩
  obtain ⟨ad, rfl, hB, _⟩ := hr 0 x0 rfl
  refine ⟨ad, c, hv, hc, hB, fun i x hx => ?_⟩
  obtain ⟨ad', e, _, hcell⟩ := hr i x hx
  obtain rfl := Option.some.inj e
  exact hcell

section
variable {P : Program} {w : World} {ops : Array Oper} {rest : List Oper} {o : Oper} {a : Act} {Q : Exit → Act → World → Prop}

theorem wpList_len {x : Operand} {t e : TypeId} (hg : Region.wanted o (yielded ops a.tmps) = true) (ho : o.op = .call { callee := .builtin .len, args := #[x], argTypes := #[t] })
    (ht : P.underlying t = some (.slice e)) {v : Value} (hx : a.eval x = v) {B s n : Nat} {cs : List Value} (h : RdS B s w v n cs)
    (hK : wpList P ops Q rest (a.put o.dst (.int .i64 n)) w) : wpList P ops Q (o :: rest) a w := by
  refine wpList_go hg fun K hK' => ?_
  obtain ⟨_, ad, c, rfl, _, _⟩ := h
  unfold Oper.wp
  simp [execOp, ho, resolve, invoke, builtin, hx, Builtin.len_, run_underlying ht, goInt, Result.andThen]
  exact hK' _ _ hK

theorem run_indexAt {t e : TypeId} {k : IntKind} {i n s : Nat} {ad : Addr} {c : Nat} (ht : P.underlying t = some (.slice e)) (hs : (P.info? e).map (·.size) = some s) (hi : i < n) (w : World) :
    (Instr.indexAt t (.slice (some ad) n c) (.int k (i : Int))).run P w = .ok (.pointer (some (ad.add (i * s)))) w := by
  cases hq : P.info? e with
  | none => simp [hq] at hs
  | some inf =>
    have hs' : inf.size = s := by simpa [hq] using hs
    simp [Instr.indexAt, asIntOf, run_underlying ht, sizeOf, typeInfo, hq, hs']
    intro h2
    omega

theorem wpList_index {x j : Operand} {t e : TypeId} {s : Nat} (hg : Region.wanted o (yielded ops a.tmps) = true) (ho : o.op = .indexAddr t x j)
    (ht : P.underlying t = some (.slice e)) (hs : (P.info? e).map (·.size) = some s) {v : Value} (hx : a.eval x = v) {k : IntKind} {J : Int} (hj : a.eval j = .int k J) {i : Nat} (hJ : J = (i : Int))
    {B n : Nat} {cs : List Value} (h : RdS B s w v n cs) (hi : i < n) (hs0 : 0 < s)
    (hK : ∀ p : Addr, p.block < B → (∀ d x, d < s → cs[i * s + d]? = some x → w.cell? (p.add d) = some x) → wpList P ops Q rest (a.put o.dst (.pointer (some p))) w) : wpList P ops Q (o :: rest) a w := by
  refine wpList_go hg fun K hK' => ?_
  have hne : cs ≠ [] := by
    intro h0
    have := h.1
    rw [h0] at this
    have h1 : 0 < n * s := Nat.mul_pos (by omega) hs0
    simp at this
    omega
  obtain ⟨ad, c, rfl, hc, hB, hr⟩ := h.addr hne
  subst hJ
  unfold Oper.wp
  simp only [execOp, ho, hx, hj, Sem.run_bind, run_indexAt ht hs hi, Result.andThen_ok, Sem.run_pure]
  refine hK' _ _ (hK _ (by have : (ad.add (i * s)).block = ad.block := by unfold Addr.add; split <;> rfl
                           rw [this]; exact hB) fun d x hd hx => ?_)
  rw [Addr.add_add]
  exact hr _ _ hx

/-- an operand of a cut: none, or the number n -/
def BndAt (a : Act) (x : Option Operand) (n : Nat) : Prop := ∃ y k N, x = some y ∧ a.eval y = .int k N ∧ N = (n : Int)

theorem run_sliceS {t e : TypeId} {s : Nat} (ht : P.underlying t = some (.slice e)) (hs : (P.info? e).map (·.size) = some s) {B n : Nat} {v : Value} {cs : List Value} (h : RdS B s w v n cs)
    (lo hi mx : Option Value) (L H : Nat) (hlo : (lo = none ∧ L = 0) ∨ ∃ k, lo = some (.int k (L : Int))) (hhi : (hi = none ∧ mx = none ∧ H = n) ∨ ∃ k, hi = some (.int k (H : Int)))
    (hmx : mx = none ∨ ∃ k M, mx = some (.int k ((M : Nat) : Int)) ∧ H ≤ M ∧ M ≤ n) (hLH : L ≤ H) (hHn : H ≤ n) :
    ∃ v', (∀ W, (Instr.slice t v lo hi mx).run P W = .ok v' W) ∧ RdS B s w v' (H - L) ((cs.drop (L * s)).take ((H - L) * s)) := by
  obtain ⟨hl, a, c, rfl, hc, hr⟩ := h
  cases hq : P.info? e with
  | none => simp [hq] at hs
  | some inf =>
    have hs' : inf.size = s := by simpa [hq] using hs
    have main : ∀ m, m ≤ c → L ≤ m → H ≤ m → RdS B s w (.slice (if m = L then a else a.map (·.add (L * s))) (H - L) (m - L)) (H - L) ((cs.drop (L * s)).take ((H - L) * s)) := by
      intro m hm hLm hHm
      refine ⟨?_, _, _, rfl, by omega, fun i x hx => ?_⟩
      · rw [List.length_take, List.length_drop, hl, ← Nat.sub_mul]
        exact Nat.min_eq_left (Nat.mul_le_mul_right _ (by omega))
      · rw [List.getElem?_take] at hx
        split at hx
        · rename_i hi
          rw [List.getElem?_drop] at hx
          obtain ⟨ad, rfl, hB, hcell⟩ := hr _ _ hx
          split
          · rename_i e0
            subst e0
            have : H - m = 0 := by omega
            rw [this] at hi
            omega
          · exact ⟨_, rfl, by have : (ad.add (L * s)).block = ad.block := by unfold Addr.add; split <;> rfl
                              rw [this]; exact hB, by rw [Addr.add_add]; exact hcell⟩
        · cases hx
    have e1 : (H : Int) ≤ (c : Int) := by omega
    have e2 : (L : Int) ≤ (H : Int) := by omega
    have e3 : H ≤ c := by omega
    rcases hmx with rfl | ⟨km, M, rfl, hHM, hMn⟩
    · refine ⟨_, fun W => ?_, main c (Nat.le_refl _) (by omega) (by omega)⟩
      rcases hhi with ⟨rfl, _, hH⟩ | ⟨kh, rfl⟩
      · rcases hlo with ⟨rfl, hL⟩ | ⟨kl, rfl⟩
        · subst hL
          simp [Instr.slice, Instr.sliceBounds, Instr.sliceBound, asIntOf, run_underlying ht, sizeOf, typeInfo, hq, hs', hH]
        · have e4 : (L : Int) ≤ (n : Int) := by omega
          have e5 : L ≤ n := by omega
          simp [Instr.slice, Instr.sliceBounds, Instr.sliceBound, asIntOf, run_underlying ht, sizeOf, typeInfo, hq, hs', hH, e4, e5]
      · rcases hlo with ⟨rfl, hL⟩ | ⟨kl, rfl⟩
        · subst hL
          simp [Instr.slice, Instr.sliceBounds, Instr.sliceBound, asIntOf, run_underlying ht, sizeOf, typeInfo, hq, hs', e1, e3]
        · simp [Instr.slice, Instr.sliceBounds, Instr.sliceBound, asIntOf, run_underlying ht, sizeOf, typeInfo, hq, hs', e1, e2, e3, hLH]
    · refine ⟨_, fun W => ?_, main M (by omega) (by omega) hHM⟩
      have e6 : (M : Int) ≤ (c : Int) := by omega
      have e7 : (H : Int) ≤ (M : Int) := by omega
      have e8 : M ≤ c := by omega
      rcases hhi with ⟨_, hno, _⟩ | ⟨kh, rfl⟩
      · cases hno
      · rcases hlo with ⟨rfl, hL⟩ | ⟨kl, rfl⟩
        · subst hL
          simp [Instr.slice, Instr.sliceBounds, Instr.sliceBound, asIntOf, run_underlying ht, sizeOf, typeInfo, hq, hs', e6, e7, e8, hHM]
        · simp [Instr.slice, Instr.sliceBounds, Instr.sliceBound, asIntOf, run_underlying ht, sizeOf, typeInfo, hq, hs', e6, e7, e8, e2, hLH, hHM]
end
end Go.Proofs.Ytfinekmegiengaa
/- Laws for the walks: a cut of a slice, append and copy of what is read, a made slice, an array out of a slice and into a block. -/
namespace Go.Proofs.Ytfinekmegiengaa
open Go.RowKit
set_option linter.unusedSimpArgs false
set_option linter.unusedVariables false

/-- block g is a row of cells that may be written -/
def Row (w : World) (g : Nat) (t : TypeId) (c : Array Value) : Prop := w.heap[g]? = some (.cells c t (0, 0))
theorem Row.lt {w : World} {g : Nat} {t : TypeId} {c : Array Value} (h : Row w g t c) : g < w.heap.size := (Array.getElem?_eq_some_iff.1 h).1
theorem Row.mono {B : Nat} {w w' : World} {g : Nat} {t : TypeId} {c : Array Value} (h : Row w g t c) (hb : Below B w w') (hg : g < B) : Row w' g t c := (hb.block g hg).trans h
theorem Row.next {w w' : World} {g : Nat} {t : TypeId} {c : Array Value} (h : Row w g t c) (hb : Below w.heap.size w w') : Row w' g t c := h.mono hb h.lt
theorem Row.cell {w : World} {g : Nat} {t : TypeId} {c : Array Value} (h : Row w g t c) {i : Nat} {v : Value} (hv : c[i]? = some v) : w.cell? ⟨g, i, none⟩ = some v := (cell_of_row w g i c t (0, 0) h).trans hv
theorem Row.free {w : World} {g : Nat} {t : TypeId} {c : Array Value} (h : Row w g t c) (i : Nat) : w.frozen? ⟨g, i, none⟩ = false := frozen_of_row w g i c t h
theorem Row.new (w : World) (t : TypeId) (c : Array Value) : Row (w.alloc (.cells c t)) w.heap.size t c := heap_alloc_last w _
theorem Row.alloc {w : World} {g : Nat} {t : TypeId} {c : Array Value} (h : Row w g t c) (o : Obj) : Row (w.alloc o) g t c := (Below.heap_alloc w o g h.lt).trans h
theorem Row.set {w : World} {g : Nat} {t : TypeId} {c : Array Value} (h : Row w g t c) (i : Nat) (v : Value) : Row (w.setCell ⟨g, i, none⟩ v) g t (c.setIfInBounds i v) := heap_setCell_same w g i c t v h
theorem Row.other {w : World} {g : Nat} {t : TypeId} {c : Array Value} (h : Row w g t c) {p : Addr} (hp : g ≠ p.block) (v : Value) : Row (w.setCell p v) g t c := (heap_setCell_other w p g v hp).trans h
theorem Row.grown {w w' : World} {g : Nat} {t : TypeId} {c : Array Value} (h : Row w g t c) {r : Option Nat} (hg : w.grownBy w' r) (hr : some g ≠ r) : Row w' g t c := (hg.block g h.lt hr).trans h
theorem heap_setRow_same (w : World) (g : Nat) (t : TypeId) (c c' : Array Value) (h : Row w g t c) : Row (w.setRow g c') g t c' := by
  unfold Row at *
  simp only [World.setRow, Array.getElem?_modify, h]
  simp
theorem heap_setRow_other (w : World) (g k : Nat) (c' : Array Value) (h : k ≠ g) : (w.setRow g c').heap[k]? = w.heap[k]? := by
  simp only [World.setRow, Array.getElem?_modify]
  rw [if_neg (fun e => h e.symm)]
theorem below_row {B : Nat} {w : World} {g : Nat} (c' : Array Value) (h : B ≤ g) : Below B w (w.setRow g c') :=
  ⟨rfl, rfl, rfl, by simp [World.setRow], fun k hk => heap_setRow_other w g k c' (by omega)⟩
theorem below_grown {B : Nat} {w w' : World} {r : Option Nat} (hg : w.grownBy w' r) (hB : B ≤ w.heap.size) (hr : ∀ k, r = some k → B ≤ k) : Below B w w' := (Below.refl B w).grown hg hB hr

theorem RdS.of_row {w : World} {g : Nat} {t : TypeId} {c : Array Value} (h : Row w g t c) {n cap s : Nat} (hn : c.size = n * s) (hc : n ≤ cap) : RdS (g + 1) s w (.slice (some ⟨g, 0, none⟩) n cap) n c.toList := by
  refine ⟨by simpa using hn, _, _, rfl, hc, fun i x hx => ⟨_, rfl, Nat.lt_succ_self g, ?_⟩⟩
  have hadd : (⟨g, 0, none⟩ : Addr).add i = ⟨g, i, none⟩ := by rw [Addr.add_lit, Nat.zero_add]
  rw [hadd]
  exact h.cell (by simpa using hx)

section
variable {P : Program} {w : World} {ops : Array Oper} {rest : List Oper} {o : Oper} {a : Act} {Q : Exit → Act → World → Prop}

theorem wpList_cut {x : Operand} {lo hi mx : Option Operand} {t e : TypeId} {s : Nat} (hg : Region.wanted o (yielded ops a.tmps) = true) (ho : o.op = .slice t x lo hi mx)
    (ht : P.underlying t = some (.slice e)) (hs : (P.info? e).map (·.size) = some s) {v : Value} (hx : a.eval x = v) {B n : Nat} {cs : List Value} (h : RdS B s w v n cs) (L H : Nat)
    (hlo : (lo.map a.eval = none ∧ L = 0) ∨ ∃ k N, lo.map a.eval = some (.int k N) ∧ N = (L : Int)) (hhi : (hi.map a.eval = none ∧ mx.map a.eval = none ∧ H = n) ∨ ∃ k N, hi.map a.eval = some (.int k N) ∧ N = (H : Int))
    (hmx : mx.map a.eval = none ∨ ∃ k N M, mx.map a.eval = some (.int k N) ∧ N = ((M : Nat) : Int) ∧ H ≤ M ∧ M ≤ n) (hLH : L ≤ H) (hHn : H ≤ n)
    (hK : ∀ v', RdS B s w v' (H - L) ((cs.drop (L * s)).take ((H - L) * s)) → wpList P ops Q rest (a.put o.dst v') w) : wpList P ops Q (o :: rest) a w := by
  refine wpList_go hg fun K hK' => ?_
  obtain ⟨v', hrun, hr⟩ := run_sliceS ht hs h (lo.map a.eval) (hi.map a.eval) (mx.map a.eval) L H
    (by rcases hlo with h | ⟨k, N, h, rfl⟩; exact .inl h; exact .inr ⟨k, h⟩)
    (by rcases hhi with h | ⟨k, N, h, rfl⟩; exact .inl h; exact .inr ⟨k, h⟩)
    (by rcases hmx with h | ⟨k, N, M, h, rfl, h2⟩; exact .inl h; exact .inr ⟨k, M, h, h2⟩) hLH hHn
  have hrun' : (Instr.sliceAt t v (lo.map a.eval) (hi.map a.eval) (mx.map a.eval)).run P w = .ok v' w := by
    unfold Instr.sliceAt
    rw [Sem.run_bind, run_underlying ht]
    exact hrun w
  unfold Oper.wp
  simp only [execOp, ho, hx, Sem.run_bind, hrun', Result.andThen_ok, Sem.run_pure]
  exact hK' _ _ (hK v' hr)

theorem run_append_zero {t ty e : TypeId} {i : TypeInfo} {size : Nat} (ht : P.underlying t = some (.slice e)) (hi : P.info? e = some i) (hs : i.size = size) (b : Option Addr) (n cap : Nat) (hn : n ≤ cap)
    (x : Option Addr) (c : Nat) : (Builtin.append_ #[t, t] ty #[.slice b n cap, .slice x 0 c]).run P w = .ok (.slice b n cap) w := by
  cases x <;> cases b <;> simp [Builtin.append_, run_underlying ht, sizeOf, typeInfo, hi, Builtin.lenOf, hn, Builtin.firstCells, loadCells, loadCellsFrom, storeCells]

theorem wpList_append {sO xO : Operand} {t : TypeId} (hg : Region.wanted o (yielded ops a.tmps) = true) (ho : o.op = .call { callee := .builtin .append, args := #[sO, xO], argTypes := #[t, t] })
    {base : Nat} {e : TypeId} {z : Value} {size bytes : Nat} (ht : P.underlying t = some (.slice e)) (hi : (P.info? e).map (fun i => (i.zero, i.size, i.bytes)) = some (some z, size, bytes)) (hzs : z.cells.size = size) (hsz : 0 < size)
    {v : Value} {n : Nat} {xs : List Value} (hs : a.eval sO = v) (hown : w.ownsRow base e size v n xs) {B m : Nat} {y : Value} {ys : List Value} (hx : a.eval xO = y) (h : RdS B size w y m ys) (h1 : ∀ u ∈ ys, u.oneCell' = true)
    (h63 : n + m ≤ 140737488351232) (hbytes : (n + m) * bytes ≤ 140737488355328) (hbase : base ≤ w.heap.size)
    (hK : ∀ v' w', w'.ownsRow base e size v' (n + m) (xs ++ ys) → w.grownBy w' v.ownBlock → wpList P ops Q rest (a.put o.dst v') w') : wpList P ops Q (o :: rest) a w := by
  obtain ⟨i, hi', hz, hs', hb⟩ := info_parts hi
  by_cases hm : m = 0
  · subst hm
    obtain ⟨hl, ax, c, rfl, _, _⟩ := h
    have hys : ys = [] := List.eq_nil_of_length_eq_zero (by rw [hl]; simp)
    subst hys
    have hv : ∃ b k, v = .slice b n k ∧ n ≤ k := by
      rcases hown.2 with ⟨rfl, rfl⟩ | ⟨g, cap, cur, rfl, _, _, hn, _⟩
      · exact ⟨none, 0, rfl, Nat.le_refl _⟩
      · exact ⟨_, _, rfl, hn⟩
    obtain ⟨b, k, hv, hnk⟩ := hv
    refine wpList_go hg fun K hK' => ?_
    unfold Oper.wp
    simp [execOp, ho, resolve, invoke, builtin, hs, hx, hv, run_append_zero ht hi' hs' b n k hnk ax c, Result.andThen]
    rw [← hv]
    exact hK' _ _ (hK v w (by simpa using hown) (World.grownBy.refl w _))
  · have hne : ys ≠ [] := by
      intro h0
      have := h.1
      rw [h0] at this
      have h2 : 0 < m * size := Nat.mul_pos (by omega) hsz
      simp at this
      omega
    obtain ⟨ad, c, rfl, hc, hB, hr⟩ := h.addr hne
    obtain ⟨v', w', hrun, h2, h3, _⟩ := run_append_own (P := P) w base t o.type e i z size bytes ht hi' hz hs' hb hzs hsz v n xs hown ad m c ys h.1 hr h1 (by unfold maxLen; omega) hbytes hbase
    refine wpList_go hg fun K hK' => ?_
    unfold Oper.wp
    simp [execOp, ho, resolve, invoke, builtin, hs, hx, hrun, Result.andThen]
    exact hK' _ _ (hK v' w' h2 h3)

/-- 'copy' onto the cells from off on of a row -/
theorem wpList_copy {dO xO : Operand} {t t2 : TypeId} (hg : Region.wanted o (yielded ops a.tmps) = true) (ho : o.op = .call { callee := .builtin .copy, args := #[dO, xO], argTypes := #[t, t2] })
    {e : TypeId} (ht : P.underlying t = some (.slice e)) (hs : (P.info? e).map (·.size) = some 1) {g off dn dc : Nat} {cur : Array Value} (hd : a.eval dO = .slice (some ⟨g, off, none⟩) dn dc) {t3 : TypeId} (hrow : Row w g t3 cur)
    {B m : Nat} {y : Value} {ys : List Value} (hx : a.eval xO = y) (h : RdS B 1 w y m ys) (h1 : ∀ u ∈ ys, u.oneCell' = true) (hm : m ≤ dn) (hfit : off + m ≤ cur.size)
    (hK : wpList P ops Q rest (a.put o.dst (.int .i64 (m : Int))) (w.setRow g (cur.toList.take off ++ ys ++ cur.toList.drop (off + m)).toArray)) : wpList P ops Q (o :: rest) a w := by
  cases hq : P.info? e with
  | none => simp [hq] at hs
  | some inf =>
    have hs' : inf.size = 1 := by simpa [hq] using hs
    refine wpList_go hg fun K hK' => ?_
    have hyl : ys.length = m := by rw [h.1]; omega
    have hmin : Nat.min m dn = m := Nat.min_eq_left hm
    obtain ⟨hl, ax, c, rfl, hc, hr⟩ := h
    have hst := run_storeCells_at P g off t3 ys 0 cur w hrow (by rw [hyl]; omega) h1
    simp only [Nat.add_zero, hyl] at hst
    have hcells : (Builtin.firstCells 1 m (.slice ax m c)).run P w = .ok ys.toArray w := by
      by_cases h0 : m = 0
      · subst h0
        have : ys = [] := List.eq_nil_of_length_eq_zero hyl
        subst this
        cases ax <;> simp [Builtin.firstCells, loadCells, loadCellsFrom]
      · obtain ⟨ad, c', e1, _, _, hr'⟩ := RdS.addr (v := .slice ax m c) (n := m) ⟨hl, ax, c, rfl, hc, hr⟩ (by intro h2; rw [h2] at hyl; simp at hyl; omega)
        simp only [Value.slice.injEq] at e1
        obtain ⟨rfl, _, _⟩ := e1
        exact run_firstCells_some w 1 m ad m c ys (by omega) hr'
    unfold Oper.wp
    simp [execOp, ho, resolve, invoke, builtin, hd, hx, Builtin.copy_, run_underlying ht, Builtin.lenOf, sizeOf, typeInfo, hq, hs', hmin, hcells, hst, goInt, Result.andThen]
    have hfin := hK' _ _ hK
    simp only [List.append_assoc] at hfin
    exact hfin

/-- an array's address out of a slice -/
theorem wpList_arr {x : Operand} {T e : TypeId} {n : Nat} (hg : Region.wanted o (yielded ops a.tmps) = true) (ho : o.op = .sliceToArrayPointer T x) (hT : P.underlying T = some (.array n e)) {v : Value} (hx : a.eval x = v)
    {B m s : Nat} {cs : List Value} (h : RdS B s w v m cs) (hn : n ≤ m) (h0 : cs ≠ [])
    (hK : ∀ ad : Addr, ad.block < B → (∀ i x, cs[i]? = some x → w.cell? (ad.add i) = some x) → wpList P ops Q rest (a.put o.dst (.pointer (some ad))) w) : wpList P ops Q (o :: rest) a w := by
  refine wpList_go hg fun K hK' => ?_
  obtain ⟨ad, c, rfl, _, hB, hr⟩ := h.addr h0
  unfold Oper.wp
  simp [execOp, ho, hx, Instr.arrayAt, run_underlying hT, show ¬ m < n by omega, Result.andThen]
  exact hK' _ _ (hK ad hB hr)

/-- an array, loaded from wherever its cells lie -/
theorem wpList_loadArr {x : Operand} {T e : TypeId} {n : Nat} (hg : Region.wanted o (yielded ops a.tmps) = true) (ho : o.op = .load T x) (hT : P.underlying T = some (.array n e)) (hs : (P.info? T).map (·.size) = some n) {ad : Addr} (hx : a.eval x = .pointer (some ad))
    (cs : List Value) (hl : cs.length = n) (hr : ∀ i x, cs[i]? = some x → w.cell? (ad.add i) = some x)
    (hK : wpList P ops Q rest (a.put o.dst (.agg cs.toArray)) w) : wpList P ops Q (o :: rest) a w := by
  cases hq : P.info? T with
  | none => simp [hq] at hs
  | some inf =>
    have hs' : inf.size = n := by simpa [hq] using hs
    refine wpList_go hg fun K hK' => ?_
    have hld := run_loadCells_list (P := P) w ad cs hr
    rw [hl] at hld
    have hagg : (isAgg T).run P w = .ok true w := by
      unfold isAgg
      rw [Sem.run_bind, run_underlying hT w]
      rfl
    have hrun : (loadVar T ad).run P w = .ok (.agg cs.toArray) w := by
      simp [loadVar, Sem.run_bind, hagg, sizeOf, typeInfo, hq, hs', hld]
    unfold Oper.wp
    simp only [execOp, ho, hx, Instr.loadAt, Instr.sureAddr, Sem.run_bind, Sem.run_pure, Result.andThen_ok, hrun]
    exact hK' _ _ hK

/-- a variable of one cell's type, loaded -/
theorem wpList_load {x : Operand} {T : TypeId} (hg : Region.wanted o (yielded ops a.tmps) = true) (ho : o.op = .load T x) (hT : (isAgg T).run P w = .ok false w) {ad : Addr} (hx : a.eval x = .pointer (some ad)) {v : Value} (hc : w.cell? ad = some v)
    (hK : wpList P ops Q rest (a.put o.dst v) w) : wpList P ops Q (o :: rest) a w := by
  refine wpList_go hg fun K hK' => ?_
  have hrun : (loadVar T ad).run P w = .ok v w := by
    simp [loadVar, Sem.run_bind, hT, load, Sem.run, hc]
  unfold Oper.wp
  simp only [execOp, ho, hx, Instr.loadAt, Instr.sureAddr, Sem.run_bind, Sem.run_pure, Result.andThen_ok, hrun]
  exact hK' _ _ hK

/-- an array's block, cut: the slice from its L-th cell on, up to its H-th -/
theorem wpList_cutArr {x : Operand} {lo hi mx : Option Operand} {t e : TypeId} {n : Nat} (hg : Region.wanted o (yielded ops a.tmps) = true) (ho : o.op = .slice t x lo hi mx)
    (ht : P.underlying t = some (.array n e)) (hs : (P.info? e).map (·.size) = some 1) {g : Nat} (hx : a.eval x = .pointer (some ⟨g, 0, none⟩)) (L H : Nat)
    (hlo : (lo.map a.eval = none ∧ L = 0) ∨ ∃ k N, lo.map a.eval = some (.int k N) ∧ N = (L : Int)) (hhi : (hi.map a.eval = none ∧ mx.map a.eval = none ∧ H = n) ∨ ∃ k N, hi.map a.eval = some (.int k N) ∧ N = (H : Int))
    (M : Nat) (hmx : (mx.map a.eval = none ∧ M = n) ∨ ∃ k N, mx.map a.eval = some (.int k N) ∧ N = ((M : Nat) : Int) ∧ H ≤ M ∧ M ≤ n) (hLH : L ≤ H) (hHn : H ≤ n) (hLM : L < M)
    (hK : wpList P ops Q rest (a.put o.dst (.slice (some ⟨g, L, none⟩) (H - L) (M - L))) w) : wpList P ops Q (o :: rest) a w := by
  cases hq : P.info? e with
  | none => simp [hq] at hs
  | some inf =>
    have hs' : inf.size = 1 := by simpa [hq] using hs
    refine wpList_go hg fun K hK' => ?_
    have hadd : (⟨g, 0, none⟩ : Addr).add (L * 1) = ⟨g, L, none⟩ := by rw [Nat.mul_one, Addr.add_lit, Nat.zero_add]
    have hML : ¬ M = L := by omega
    have e2 : (L : Int) ≤ (H : Int) := by omega
    have e1 : (H : Int) ≤ (n : Int) := by omega
    have hrun : (Instr.sliceAt t (.pointer (some ⟨g, 0, none⟩)) (lo.map a.eval) (hi.map a.eval) (mx.map a.eval)).run P w = .ok (.slice (some ⟨g, L, none⟩) (H - L) (M - L)) w := by
      rcases hmx with ⟨hm, rfl⟩ | ⟨km, NM, hm, rfl, hHM, hMn⟩
      · rcases hhi with ⟨hh, _, rfl⟩ | ⟨kh, NH, hh, rfl⟩
        · rcases hlo with ⟨hl, rfl⟩ | ⟨kl, NL, hl, rfl⟩
          · rw [hm, hh, hl]
            simp [Instr.sliceAt, Instr.sureAddr, Instr.sliceBounds, Instr.sliceBound, asIntOf, run_underlying ht, sizeOf, typeInfo, hq, hs', hML, Addr.add_zero']
          · rw [hm, hh, hl]
            simp [Instr.sliceAt, Instr.sureAddr, Instr.sliceBounds, Instr.sliceBound, asIntOf, run_underlying ht, sizeOf, typeInfo, hq, hs', hML, hadd, e2, hLH, Addr.add_lit]
        · rcases hlo with ⟨hl, rfl⟩ | ⟨kl, NL, hl, rfl⟩
          · rw [hm, hh, hl]
            simp [Instr.sliceAt, Instr.sureAddr, Instr.sliceBounds, Instr.sliceBound, asIntOf, run_underlying ht, sizeOf, typeInfo, hq, hs', hML, e1, hHn, Addr.add_zero']
          · rw [hm, hh, hl]
            simp [Instr.sliceAt, Instr.sureAddr, Instr.sliceBounds, Instr.sliceBound, asIntOf, run_underlying ht, sizeOf, typeInfo, hq, hs', hML, hadd, e1, e2, hLH, hHn, Addr.add_lit]
      · have e6 : (M : Int) ≤ (n : Int) := by omega
        have e7 : (H : Int) ≤ (M : Int) := by omega
        rcases hhi with ⟨_, hno, _⟩ | ⟨kh, NH, hh, rfl⟩
        · rw [hno] at hm; cases hm
        · rcases hlo with ⟨hl, rfl⟩ | ⟨kl, NL, hl, rfl⟩
          · rw [hm, hh, hl]
            simp [Instr.sliceAt, Instr.sureAddr, Instr.sliceBounds, Instr.sliceBound, asIntOf, run_underlying ht, sizeOf, typeInfo, hq, hs', hML, e6, e7, hHM, hMn, Addr.add_zero']
          · rw [hm, hh, hl]
            simp [Instr.sliceAt, Instr.sureAddr, Instr.sliceBounds, Instr.sliceBound, asIntOf, run_underlying ht, sizeOf, typeInfo, hq, hs', hML, hadd, e6, e7, e2, hLH, hHM, hMn, Addr.add_lit]
    unfold Oper.wp
    simp only [execOp, ho, hx, Sem.run_bind, hrun, Result.andThen_ok, Sem.run_pure]
    exact hK' _ _ hK

/-- a box: a value's cells are a new block -/
theorem wpList_box {x : Operand} {T : TypeId} (hg : Region.wanted o (yielded ops a.tmps) = true) (ho : o.op = .box T x) {v : Value} (hx : a.eval x = v)
    (hK : wpList P ops Q rest (a.put o.dst (.pointer (some ⟨w.heap.size, 0, none⟩))) (w.alloc (.cells v.cells T))) : wpList P ops Q (o :: rest) a w := by
  refine wpList_go hg fun K hK' => ?_
  have hrun : (Instr.box T v).run P w = .ok (.pointer (some ⟨w.heap.size, 0, none⟩)) (w.alloc (.cells v.cells T)) := rfl
  unfold Oper.wp
  simp only [execOp, ho, hx, Sem.run_bind, hrun, Result.andThen_ok, Sem.run_pure]
  exact hK' _ _ hK

end
end Go.Proofs.Ytfinekmegiengaa
/- Lists of bytes and words as cells; rows that are filled one by one; what returns a slice of its own. -/
namespace Go.Proofs.Ytfinekmegiengaa
open Go.RowKit
set_option linter.unusedSimpArgs false
set_option linter.unusedVariables false

def bv (l : List Nat) : List Value := l.map fun x : Nat => Value.int .u8 (x : Int)
def wv (l : List Nat) : List Value := l.map fun x : Nat => Value.int .u32 (x : Int)
@[simp] theorem bv_length (l : List Nat) : (bv l).length = l.length := by simp [bv]
@[simp] theorem wv_length (l : List Nat) : (wv l).length = l.length := by simp [wv]
theorem bv_get (l : List Nat) (i : Nat) (h : i < l.length) : (bv l)[i]? = some (.int .u8 ((l.getD i 0 : Nat) : Int)) := by
  simp [bv, List.getElem?_eq_getElem h]
theorem wv_get (l : List Nat) (i : Nat) (h : i < l.length) : (wv l)[i]? = some (.int .u32 ((l.getD i 0 : Nat) : Int)) := by
  simp [wv, List.getElem?_eq_getElem h]
theorem bv_append (a b : List Nat) : bv (a ++ b) = bv a ++ bv b := by simp [bv]
theorem wv_append (a b : List Nat) : wv (a ++ b) = wv a ++ wv b := by simp [wv]
theorem bv_take (l : List Nat) (n : Nat) : (bv l).take n = bv (l.take n) := by simp [bv, List.map_take]
theorem bv_drop (l : List Nat) (n : Nat) : (bv l).drop n = bv (l.drop n) := by simp [bv, List.map_drop]
theorem wv_take (l : List Nat) (n : Nat) : (wv l).take n = wv (l.take n) := by simp [wv, List.map_take]
theorem wv_drop (l : List Nat) (n : Nat) : (wv l).drop n = wv (l.drop n) := by simp [wv, List.map_drop]
theorem bv_oneCell (l : List Nat) : ∀ u ∈ bv l, u.oneCell' = true := by
  intro u hu
  simp only [bv, List.mem_map] at hu
  obtain ⟨x, _, rfl⟩ := hu
  rfl
theorem wv_oneCell (l : List Nat) : ∀ u ∈ wv l, u.oneCell' = true := by
  intro u hu
  simp only [wv, List.mem_map] at hu
  obtain ⟨x, _, rfl⟩ := hu
  rfl
theorem bv_all (l : List Nat) : (bv l).toArray.all (·.oneCell') = true := by
  rw [Array.all_eq_true_iff_forall_mem]
  intro u hu
  exact bv_oneCell l u (by simpa using hu)

/-- all numbers of a list are bytes -/
def Bytes (l : List Nat) : Prop := ∀ x ∈ l, x < 256
theorem Bytes.get {l : List Nat} (h : Bytes l) (i : Nat) : l.getD i 0 < 256 := by
  by_cases hi : i < l.length
  · rw [List.getD_eq_getElem?_getD, List.getElem?_eq_getElem hi]
    exact h _ (List.getElem_mem hi)
  · rw [List.getD_eq_getElem?_getD, List.getElem?_eq_none (by omega)]
    decide
theorem Bytes.append {a b : List Nat} (ha : Bytes a) (hb : Bytes b) : Bytes (a ++ b) := fun x hx => (List.mem_append.1 hx).elim (ha x) (hb x)
theorem Bytes.take {a : List Nat} (ha : Bytes a) (n : Nat) : Bytes (a.take n) := fun x hx => ha x (List.mem_of_mem_take hx)
theorem Bytes.drop {a : List Nat} (ha : Bytes a) (n : Nat) : Bytes (a.drop n) := fun x hx => ha x (List.mem_of_mem_drop hx)

/-- the first k of ys, then zs from k on -/
def fillR {α : Type} (ys zs : List α) (k : Nat) : List α := ys.take k ++ zs.drop k
theorem fillR_zero {α : Type} (ys zs : List α) : fillR ys zs 0 = zs := by simp [fillR]
theorem fillR_length {α : Type} (ys zs : List α) (k : Nat) (h : ys.length = zs.length) : (fillR ys zs k).length = zs.length := by
  simp [fillR]; omega
theorem fillR_full {α : Type} (ys zs : List α) (k : Nat) (h : ys.length = zs.length) (hk : zs.length ≤ k) : fillR ys zs k = ys := by
  unfold fillR
  rw [List.take_of_length_le (by omega), List.drop_eq_nil_of_le hk, List.append_nil]
theorem fillR_set {α : Type} (ys zs : List α) (k : Nat) (h : ys.length = zs.length) (y : α) (hy : ys[k]? = some y) : (fillR ys zs k).set k y = fillR ys zs (k + 1) := by
  obtain ⟨hk, e⟩ := List.getElem?_eq_some_iff.1 hy
  apply List.ext_getElem?
  intro j
  unfold fillR
  rw [List.getElem?_set]
  by_cases hj : k = j
  · subst hj
    rw [if_pos rfl, if_pos (by simp; omega)]
    rw [List.getElem?_append_left (by simp; omega), List.getElem?_take, if_pos (by omega), hy]
  · rw [if_neg hj]
    by_cases hlt : j < k
    · rw [List.getElem?_append_left (by simp; omega), List.getElem?_append_left (by simp; omega), List.getElem?_take, List.getElem?_take, if_pos hlt, if_pos (by omega)]
    · rw [List.getElem?_append_right (by simp; omega), List.getElem?_append_right (by simp; omega), List.getElem?_drop, List.getElem?_drop]
      congr 1
      simp
      omega
theorem fillR_get {α : Type} (ys zs : List α) (k j : Nat) (h : ys.length = zs.length) (hkj : k ≤ j) (hk : k ≤ zs.length) : (fillR ys zs k)[j]? = zs[j]? := by
  unfold fillR
  rw [List.getElem?_append_right (by simp; omega), List.getElem?_drop]
  congr 1
  simp
  omega

/-- it returns a slice of its own with these bytes; what was there is as it was -/
def RetS (ys : List Nat) (w : World) (e : Ending) (w' : World) : Prop :=
  ∃ v', e = .returned v' ∧ w'.ownsRow w.heap.size 5 1 v' ys.length (bv ys) ∧ Below w.heap.size w w'

theorem own_of_row {w : World} {g : Nat} {t : TypeId} {c : Array Value} (h : Row w g t c) {base n : Nat} (hn : c.size = n) (hb : base ≤ g) (hm : n ≤ maxLen) : w.ownsRow base t 1 (.slice (some ⟨g, 0, none⟩) n n) n c.toList :=
  ⟨by simp [hn], .inr ⟨g, n, c, rfl, hb, h, Nat.le_refl _, hm, by omega, by rw [List.take_of_length_le (by simp; omega)]⟩⟩

theorem info_u8 : (Try.prog.info? 5).map (fun i => (i.zero, i.size, i.bytes)) = some (some (.int .u8 0), 1, 1) := by kernel_rfl
theorem size_u8 : (Try.prog.info? 5).map (·.size) = some 1 := by kernel_rfl
theorem info_u32 : (Try.prog.info? 25).map (fun i => (i.zero, i.size, i.bytes)) = some (some (.int .u32 0), 1, 4) := by kernel_rfl
theorem size_u32 : (Try.prog.info? 25).map (·.size) = some 1 := by kernel_rfl

theorem World.alloc_size' (w : World) (o : Obj) : (w.alloc o).heap.size = w.heap.size + 1 := by show (w.heap.push o).size = _; simp

/-- 'make([]byte, n)' -/
theorem wpList_makeBytes {w : World} {ops : Array Oper} {rest : List Oper} {o : Oper} {a : Act} {Q : Exit → Act → World → Prop} {x : Operand} {k : IntKind} {N : Int} {n : Nat} (hg : Region.wanted o (yielded ops a.tmps) = true) (ho : o.op = .makeSlice 28 x x)
    (hx : a.eval x = .int k N) (hN : N = (n : Int)) (hn : n ≤ 140737488351232)
    (hK : ∀ g w', w.heap.size ≤ g → g < w'.heap.size → Row w' g 5 (bv (List.replicate n 0)).toArray → Below w.heap.size w w' →
      wpList Try.prog ops Q rest (a.put o.dst (.slice (some ⟨g, 0, none⟩) n n)) w') : wpList Try.prog ops Q (o :: rest) a w := by
  obtain ⟨i, hi, hz, hs, hb⟩ := info_parts info_u8
  subst hN
  refine wpList_go hg fun K hK' => ?_
  have hrun := run_make (P := Try.prog) w 28 5 i _ Try.underlying28 hi hz k k (n : Int) (n : Int) (by omega) (by omega) (by rw [hb]; omega) (by omega)
  have hcells : madeCells (Value.int .u8 0).cells ((n : Int).toNat * i.size) = (bv (List.replicate n 0)).toArray := by
    rw [hs, Nat.mul_one, Int.toNat_natCast]
    apply Array.ext'
    rw [show (Value.int .u8 0).cells = #[Value.int .u8 0] from rfl, toList_madeCells_one]
    simp [bv]
  rw [hcells, Int.toNat_natCast] at hrun
  unfold Oper.wp
  simp only [execOp, ho, hx, Sem.run_bind, hrun, Result.andThen_ok, Sem.run_pure]
  exact hK' _ _ (hK _ _ (Nat.le_refl _) (by simp [World.alloc_size']) (Row.new _ _ _) ((Below.refl _ _).alloc (Nat.le_refl _) _))

/-- v is a slice of bytes that reads l, in blocks below B -/
def RdB (B : Nat) (w : World) (v : Value) (l : List Nat) : Prop := RdS B 1 w v l.length (bv l)
theorem RdB.mono {B : Nat} {w w' : World} {v : Value} {l : List Nat} (h : RdB B w v l) (hb : Below B w w') : RdB B w' v l := RdS.mono h hb
theorem RdB.up {B B' : Nat} {w : World} {v : Value} {l : List Nat} (h : RdB B w v l) (hB : B ≤ B') : RdB B' w v l := RdS.up h hB
theorem RdB.next {w w' : World} {v : Value} {l : List Nat} (h : RdB w.heap.size w v l) (hb : Below w.heap.size w w') : RdB w'.heap.size w' v l := RdS.next h hb
theorem RdB.of_own {base : Nat} {w : World} {v : Value} {l : List Nat} (h : w.ownsRow base 5 1 v l.length (bv l)) : RdB w.heap.size w v l := RdS.of_own h
theorem RdB.alloc {w : World} {v : Value} {l : List Nat} (h : RdB w.heap.size w v l) (o : Obj) : RdB w.heap.size (w.alloc o) v l := h.mono ((Below.refl _ _).alloc (Nat.le_refl _) o)

theorem wpList_lenB {w : World} {ops : Array Oper} {rest : List Oper} {o : Oper} {a : Act} {Q : Exit → Act → World → Prop} {x : Operand} {v : Value} {B : Nat} {l : List Nat} (h : RdB B w v l)
    (hg : Region.wanted o (yielded ops a.tmps) = true) (ho : o.op = .call { callee := .builtin .len, args := #[x], argTypes := #[28] }) (hx : a.eval x = v) (hK : wpList Try.prog ops Q rest (a.put o.dst (.int .i64 (l.length : Int))) w) : wpList Try.prog ops Q (o :: rest) a w :=
  wpList_len hg ho Try.underlying28 hx h hK

theorem wpList_indexB {w : World} {ops : Array Oper} {rest : List Oper} {o : Oper} {a : Act} {Q : Exit → Act → World → Prop} {x j : Operand} {v : Value} {B : Nat} {l : List Nat} (h : RdB B w v l) (i : Nat) (hi : i < l.length)
    {k : IntKind} {J : Int} (hg : Region.wanted o (yielded ops a.tmps) = true) (ho : o.op = .indexAddr 28 x j) (hx : a.eval x = v) (hj : a.eval j = .int k J) (hJ : J = (i : Int))
    (hK : ∀ p : Addr, p.block < B → w.cell? p = some (.int .u8 ((l.getD i 0 : Nat) : Int)) → wpList Try.prog ops Q rest (a.put o.dst (.pointer (some p))) w) : wpList Try.prog ops Q (o :: rest) a w :=
  wpList_index hg ho Try.underlying28 size_u8 hx hj hJ h hi (by omega) fun p hp hc => hK p hp (by
    have := hc 0 _ (by omega) (by rw [Nat.mul_one, Nat.add_zero]; exact bv_get l i hi)
    rwa [Addr.add_zero'] at this)

theorem wpList_cutB {w : World} {ops : Array Oper} {rest : List Oper} {o : Oper} {a : Act} {Q : Exit → Act → World → Prop} {x : Operand} {lo hi mx : Option Operand} {v : Value} {B : Nat} {l : List Nat} (h : RdB B w v l) (L H : Nat)
    (hg : Region.wanted o (yielded ops a.tmps) = true) (ho : o.op = .slice 28 x lo hi mx) (hx : a.eval x = v)
    (hlo : (lo.map a.eval = none ∧ L = 0) ∨ ∃ k N, lo.map a.eval = some (.int k N) ∧ N = (L : Int)) (hhi : (hi.map a.eval = none ∧ mx.map a.eval = none ∧ H = l.length) ∨ ∃ k N, hi.map a.eval = some (.int k N) ∧ N = (H : Int))
    (hmx : mx.map a.eval = none ∨ ∃ k N M, mx.map a.eval = some (.int k N) ∧ N = ((M : Nat) : Int) ∧ H ≤ M ∧ M ≤ l.length) (hLH : L ≤ H) (hHn : H ≤ l.length)
    (hK : ∀ v', RdB B w v' ((l.drop L).take (H - L)) → wpList Try.prog ops Q rest (a.put o.dst v') w) : wpList Try.prog ops Q (o :: rest) a w :=
  wpList_cut hg ho Try.underlying28 size_u8 hx h L H hlo hhi hmx hLH hHn fun v' hr => hK v' (by
    unfold RdB
    rw [Nat.mul_one, Nat.mul_one, bv_drop, bv_take] at hr
    have hl : ((l.drop L).take (H - L)).length = H - L := by rw [List.length_take, List.length_drop]; omega
    rw [hl]
    exact hr)

theorem wpList_appendB {w : World} {ops : Array Oper} {rest : List Oper} {o : Oper} {a : Act} {Q : Exit → Act → World → Prop} {sO xO : Operand} {base : Nat} {v : Value} {xs : List Nat} (hown : w.ownsRow base 5 1 v xs.length (bv xs)) {B : Nat} {y : Value} {ys : List Nat} (h : RdB B w y ys)
    (hg : Region.wanted o (yielded ops a.tmps) = true) (ho : o.op = .call { callee := .builtin .append, args := #[sO, xO], argTypes := #[28, 28] }) (hs : a.eval sO = v) (hx : a.eval xO = y)
    (h63 : xs.length + ys.length ≤ 140737488351232) (hbase : base ≤ w.heap.size)
    (hK : ∀ v' w', w'.ownsRow base 5 1 v' (xs ++ ys).length (bv (xs ++ ys)) → w.grownBy w' v.ownBlock → wpList Try.prog ops Q rest (a.put o.dst v') w') : wpList Try.prog ops Q (o :: rest) a w :=
  wpList_append hg ho Try.underlying28 info_u8 rfl (by omega) hs hown hx h (bv_oneCell ys) h63 (by omega) hbase fun v' w' h1 h2 => hK v' w' (by rwa [List.length_append, bv_append]) h2

/-- block g is a row, its first k cells ys's, the others zs's -/
structure FillRow (w : World) (g : Nat) (t : TypeId) (ys zs : List Value) (k : Nat) : Prop where
  row : Row w g t (fillR ys zs k).toArray
  len : ys.length = zs.length
theorem FillRow.start {w : World} {g : Nat} {t : TypeId} {ys zs : List Value} (h : Row w g t zs.toArray) (hl : ys.length = zs.length) : FillRow w g t ys zs 0 := ⟨by rw [fillR_zero]; exact h, hl⟩
theorem FillRow.mono {B : Nat} {w w' : World} {g : Nat} {t : TypeId} {ys zs : List Value} {k : Nat} (h : FillRow w g t ys zs k) (hb : Below B w w') (hg : g < B) : FillRow w' g t ys zs k := ⟨h.row.mono hb hg, h.len⟩
theorem FillRow.next {w w' : World} {g : Nat} {t : TypeId} {ys zs : List Value} {k : Nat} (h : FillRow w g t ys zs k) (hb : Below w.heap.size w w') : FillRow w' g t ys zs k := ⟨h.row.next hb, h.len⟩
theorem FillRow.lt {w : World} {g : Nat} {t : TypeId} {ys zs : List Value} {k : Nat} (h : FillRow w g t ys zs k) : g < w.heap.size := h.row.lt
theorem FillRow.free {w : World} {g : Nat} {t : TypeId} {ys zs : List Value} {k : Nat} (h : FillRow w g t ys zs k) (i : Nat) : w.frozen? ⟨g, i, none⟩ = false := h.row.free i
theorem FillRow.cell {w : World} {g : Nat} {t : TypeId} {ys zs : List Value} {k : Nat} (h : FillRow w g t ys zs k) (hk : k < zs.length) : w.cell? ⟨g, k, none⟩ = some (zs.getD k undef) := by
  refine h.row.cell ?_
  rw [List.getElem?_toArray, fillR_get _ _ _ _ h.len (Nat.le_refl _) (by omega)]
  simp [List.getElem?_eq_getElem hk]
theorem FillRow.put {w : World} {g : Nat} {t : TypeId} {ys zs : List Value} {k : Nat} (h : FillRow w g t ys zs k) {y : Value} (hy : ys[k]? = some y) : FillRow (w.setCell ⟨g, k, none⟩ y) g t ys zs (k + 1) := by
  refine ⟨?_, h.len⟩
  have := h.row.set k y
  rwa [List.setIfInBounds_toArray, fillR_set _ _ _ h.len _ hy] at this
theorem FillRow.done {w : World} {g : Nat} {t : TypeId} {ys zs : List Value} {k : Nat} (h : FillRow w g t ys zs k) (hk : zs.length ≤ k) : Row w g t ys.toArray := by
  have := h.row
  rwa [fillR_full _ _ _ h.len hk] at this
theorem RetS.of_row {ys : List Nat} {w w' : World} {g : Nat} (h : Row w' g 5 (bv ys).toArray) (hg : w.heap.size ≤ g) (hb : Below w.heap.size w w') (hn : ys.length ≤ 140737488351232) {n : Nat} (hl : n = ys.length) :
    RetS ys w (.returned (.slice (some ⟨g, 0, none⟩) n n)) w' := by
  subst hl
  refine ⟨_, rfl, ?_, hb⟩
  exact own_of_row h (by simp) hg (by unfold maxLen; omega)

end Go.Proofs.Ytfinekmegiengaa
/- Laws for the walks: a slice's literal; a small slice of bytes or words, as what is appended. -/
namespace Go.Proofs.Ytfinekmegiengaa
open Go.RowKit
set_option linter.unusedSimpArgs false
set_option linter.unusedVariables false

/-- a slice's literal: its cells are a new block -/
theorem wpList_buildSlice {P : Program} {w : World} {ops : Array Oper} {rest : List Oper} {o : Oper} {a : Act} {Q : Exit → Act → World → Prop} {t : TypeId} {n : Nat} {parts : Array (Nat × Operand)} {e : TypeId} {z : Value} {s bytes : Nat}
    (ht : P.underlying t = some (.slice e)) (hi : (P.info? e).map (fun i => (i.zero, i.size, i.bytes)) = some (some z, s, bytes)) (hn : n * s ≤ 1000) (cells : Array Value)
    (hg : Region.wanted o (yielded ops a.tmps) = true) (ho : o.op = .buildSlice t n parts)
    (hf : Instr.fill (fun i => some (i * s, s)) ((Array.range (n * s)).map fun j => (if n * s = 0 then #[] else z.cells)[j % (if n * s = 0 then #[] else z.cells).size]!) (parts.map fun (i, x) => (i, a.eval x)).toList = some cells)
    (hK : ∀ g w', w.heap.size ≤ g → g < w'.heap.size → Row w' g e cells → Below w.heap.size w w' → wpList P ops Q rest (a.put o.dst (.slice (some ⟨g, 0, none⟩) n n)) w') : wpList P ops Q (o :: rest) a w := by
  obtain ⟨i, hi', hz, hs, hb⟩ := info_parts hi
  refine wpList_go hg fun K hK' => ?_
  have h24 : ¬ 16777216 < n * s := by omega
  have hrun : (Instr.buildSlice t n (parts.map fun (i, x) => (i, a.eval x))).run P w = .ok (.slice (some ⟨w.heap.size, 0, none⟩) n n) (w.alloc (.cells cells e)) := by
    by_cases h0 : n * s = 0
    · rw [if_pos h0] at hf
      simp [Instr.buildSlice, run_underlying ht, sizeOf, typeInfo, hi', hs, h0, newRow] at hf ⊢
      rw [hf]
      rfl
    · rw [if_neg h0] at hf
      simp [Instr.buildSlice, run_underlying ht, sizeOf, typeInfo, hi', hs, h0, h24, zeroValue, hz, newRow] at hf ⊢
      rw [hf]
      rfl
  unfold Oper.wp
  simp only [execOp, ho, Sem.run_bind, hrun, Result.andThen_ok, Sem.run_pure]
  exact hK' _ _ (hK _ _ (Nat.le_refl _) (by simp [World.alloc_size']) (Row.new _ _ _) ((Below.refl _ _).alloc (Nat.le_refl _) _))

/-- the parts of a literal, in order, each of one cell -/
theorem fill_ones : ∀ (vs : List Value) (pre zs : List Value), (∀ v ∈ vs, v.cells = #[v]) → zs.length = vs.length →
    Instr.fill (fun i => some (i * 1, 1)) (pre ++ zs).toArray ((vs.zipIdx pre.length).map fun q => (q.2, q.1)) = some (pre ++ vs).toArray
  | [], pre, zs, _, hz => by
    have : zs = [] := List.eq_nil_of_length_eq_zero hz
    subst this
    rfl
  | v :: vs, pre, z :: zs, hv, hz => by
    have hc := hv v (by simp)
    have ih := fill_ones vs (pre ++ [v]) zs (fun u hu => hv u (by simp [hu])) (by simpa using hz)
    rw [List.zipIdx_cons, List.map_cons]
    unfold Instr.fill
    simp only [hc]
    rw [if_neg (by simp)]
    have hset : ((#[v] : Array Value).zipIdx.foldl (fun cs x => cs.setIfInBounds (pre.length * 1 + x.2) x.1) (pre ++ z :: zs).toArray) = (pre ++ [v] ++ zs).toArray := by
      simp
    have hset' : ((#[v] : Array Value).zipIdx.foldl (fun cs (x : Value × Nat) => match x with | (c, j) => cs.setIfInBounds (pre.length * 1 + j) c) (pre ++ z :: zs).toArray) = (pre ++ [v] ++ zs).toArray := hset
    rw [hset']
    simpa using ih

theorem zeroRow_one (z : Value) (n : Nat) (hz : z.cells = #[z]) : ((Array.range (n * 1)).map fun j => (if n * 1 = 0 then #[] else z.cells)[j % (if n * 1 = 0 then #[] else z.cells).size]!) = (List.replicate n z).toArray := by
  apply Array.ext'
  by_cases h : n = 0
  · subst h; simp
  · simp only [Nat.mul_one, if_neg h, hz]
    have := toList_madeCells_one z n
    unfold madeCells at this
    exact this

/-- '[]byte{..}' -/
theorem wpList_buildB {w : World} {ops : Array Oper} {rest : List Oper} {o : Oper} {a : Act} {Q : Exit → Act → World → Prop} {parts : Array (Nat × Operand)} (l : List Nat) (hn : l.length ≤ 1000)
    (hg : Region.wanted o (yielded ops a.tmps) = true) (ho : o.op = .buildSlice 28 l.length parts)
    (hf : (parts.toList.map fun q => (q.1, a.eval q.2)) = ((bv l).zipIdx 0).map fun q => (q.2, q.1))
    (hK : ∀ g w', w.heap.size ≤ g → g < w'.heap.size → w'.ownsRow w.heap.size 5 1 (.slice (some ⟨g, 0, none⟩) l.length l.length) l.length (bv l) → Below w.heap.size w w' → wpList Try.prog ops Q rest (a.put o.dst (.slice (some ⟨g, 0, none⟩) l.length l.length)) w') : wpList Try.prog ops Q (o :: rest) a w :=
  wpList_buildSlice Try.underlying28 info_u8 (by omega) (bv l).toArray hg ho (by
    rw [zeroRow_one (.int .u8 0) l.length rfl]
    have h := fill_ones (bv l) [] (List.replicate l.length (.int .u8 0)) (fun v hv => by
      simp only [bv, List.mem_map] at hv
      obtain ⟨x, _, rfl⟩ := hv
      rfl) (by simp)
    rw [List.nil_append, List.length_nil, ← hf] at h
    rw [Array.toList_map]
    exact h) fun g w' h1 h2 h3 h4 => hK g w' h1 h2 (by
    have := own_of_row h3 (n := l.length) (by simp) h1 (by unfold maxLen; omega)
    simpa using this) h4

/-- an append, as a step of a region that draws its order -/
theorem step_append {P : Program} {w : World} {ops : Array Oper} {o : Oper} {a : Act} {K : Act → World → Prop} {Q : Exit → Act → World → Prop} {E : Prop} {sO xO : Operand} {t : TypeId}
    {base : Nat} {e : TypeId} {z : Value} {size bytes : Nat} (ht : P.underlying t = some (.slice e)) (hi : (P.info? e).map (fun i => (i.zero, i.size, i.bytes)) = some (some z, size, bytes)) (hzs : z.cells.size = size) (hsz : 0 < size)
    {v : Value} {n : Nat} {xs : List Value} (hown : w.ownsRow base e size v n xs) {B m : Nat} {y : Value} {ys : List Value} (h : RdS B size w y m ys) (h1 : ∀ u ∈ ys, u.oneCell' = true)
    (h63 : n + m ≤ 140737488351232) (hbytes : (n + m) * bytes ≤ 140737488355328) (hbase : base ≤ w.heap.size)
    (hg : Region.wanted o (yielded ops a.tmps) = true) (ho : o.op = .call { callee := .builtin .append, args := #[sO, xO], argTypes := #[t, t] }) (hs : a.eval sO = v) (hx : a.eval xO = y)
    (hK : ∀ v' w', w'.ownsRow base e size v' (n + m) (xs ++ ys) → w.grownBy w' v.ownBlock → K (a.put o.dst v') w') : if Region.wanted o (yielded ops a.tmps) = true then Oper.wp P o a w K Q else E := by
  rw [if_pos hg]
  obtain ⟨i, hi', hz, hs', hb⟩ := info_parts hi
  by_cases hm : m = 0
  · subst hm
    obtain ⟨hl, ax, c, rfl, _, _⟩ := h
    have hys : ys = [] := List.eq_nil_of_length_eq_zero (by rw [hl]; simp)
    subst hys
    have hv : ∃ b k, v = .slice b n k ∧ n ≤ k := by
      rcases hown.2 with ⟨rfl, rfl⟩ | ⟨g, cap, cur, rfl, _, _, hn, _⟩
      · exact ⟨none, 0, rfl, Nat.le_refl _⟩
      · exact ⟨_, _, rfl, hn⟩
    obtain ⟨b, k, hv, hnk⟩ := hv
    unfold Oper.wp
    simp [execOp, ho, resolve, invoke, builtin, hs, hx, hv, run_append_zero ht hi' hs' b n k hnk ax c, Result.andThen]
    rw [← hv]
    exact hK v w (by simpa using hown) (World.grownBy.refl w _)
  · have hne : ys ≠ [] := by
      intro h0
      have := h.1
      rw [h0] at this
      have h2 : 0 < m * size := Nat.mul_pos (by omega) hsz
      simp at this
      omega
    obtain ⟨ad, c, rfl, hc, hB, hr⟩ := h.addr hne
    obtain ⟨v', w', hrun, h2, h3, _⟩ := run_append_own (P := P) w base t o.type e i z size bytes ht hi' hz hs' hb hzs hsz v n xs hown ad m c ys h.1 hr h1 (by unfold maxLen; omega) hbytes hbase
    unfold Oper.wp
    simp [execOp, ho, resolve, invoke, builtin, hs, hx, hrun, Result.andThen]
    exact hK v' w' h2 h3

theorem step_appendB {w : World} {ops : Array Oper} {o : Oper} {a : Act} {K : Act → World → Prop} {Q : Exit → Act → World → Prop} {E : Prop} {sO xO : Operand} {base : Nat} {v : Value} {xs : List Nat}
    (hown : w.ownsRow base 5 1 v xs.length (bv xs)) {B : Nat} {y : Value} {ys : List Nat} (h : RdB B w y ys)
    (hg : Region.wanted o (yielded ops a.tmps) = true) (ho : o.op = .call { callee := .builtin .append, args := #[sO, xO], argTypes := #[28, 28] }) (hs : a.eval sO = v) (hx : a.eval xO = y)
    (h63 : xs.length + ys.length ≤ 140737488351232) (hbase : base ≤ w.heap.size)
    (hK : ∀ v' w', w'.ownsRow base 5 1 v' (xs ++ ys).length (bv (xs ++ ys)) → w.grownBy w' v.ownBlock → K (a.put o.dst v') w') : if Region.wanted o (yielded ops a.tmps) = true then Oper.wp Try.prog o a w K Q else E :=
  step_append Try.underlying28 info_u8 rfl (by omega) hown h (bv_oneCell ys) h63 (by omega) hbase hg ho hs hx fun v' w' h1 h2 => hK v' w' (by rwa [List.length_append, bv_append]) h2

/-- a literal of some bytes that was made last -/
theorem RdB.lit (w : World) (l : List Nat) (n : Nat) (hn : n = l.length) : RdB (w.heap.size + 1) (w.alloc (.cells (bv l).toArray 5)) (.slice (some ⟨w.heap.size, 0, none⟩) n n) l := by
  have h := RdS.of_row (Row.new w 5 (bv l).toArray) (n := n) (cap := n) (s := 1) (by simp [hn]) (Nat.le_refl _)
  unfold RdB
  subst hn
  simpa using h
theorem own_alloc' {base e s : Nat} {w : World} {v : Value} {n : Nat} {xs : List Value} (h : w.ownsRow base e s v n xs) (o : Obj) : (w.alloc o).ownsRow base e s v n xs := h.alloc o
theorem cell_alloc' {w : World} {p : Addr} {v : Value} (h : w.cell? p = some v) (o : Obj) : (w.alloc o).cell? p = some v := cell_next' h o
where
  cell_next' {w : World} {p : Addr} {v : Value} (h : w.cell? p = some v) (o : Obj) : (w.alloc o).cell? p = some v :=
    (((Below.refl w.heap.size w).alloc (Nat.le_refl _) o).cell (World.block_lt_of_cell? w p h)).trans h

theorem below_own {B base : Nat} {e s : Nat} {w w' : World} {v : Value} {n : Nat} {xs : List Value} (hg : w.grownBy w' v.ownBlock) (hown : w.ownsRow base e s v n xs) (hB : B ≤ base) (hw : B ≤ w.heap.size) : Below B w w' :=
  below_grown hg hw fun k hk => Nat.le_trans hB (hown.lt k hk).1

/-- what is owned stays owned while what is not of its block grows -/
theorem own_next {base e s : Nat} {w w' : World} {v : Value} {n : Nat} {xs : List Value} (h : w.ownsRow base e s v n xs) (hb : Below w.heap.size w w') : w'.ownsRow base e s v n xs := by
  refine ⟨h.1, ?_⟩
  rcases h.2 with hn | ⟨g, cap, cur, rfl, hbg, hgg, r⟩
  · exact .inl hn
  · exact .inr ⟨g, cap, cur, rfl, hbg, (hb.block g (Array.getElem?_eq_some_iff.1 hgg).1).trans hgg, r⟩
theorem own_base {base base' e s : Nat} {w : World} {v : Value} {n : Nat} {xs : List Value} (h : w.ownsRow base e s v n xs) (hb : base' ≤ base) : w.ownsRow base' e s v n xs := by
  refine ⟨h.1, ?_⟩
  rcases h.2 with hn | ⟨g, cap, cur, rfl, hbg, r⟩
  · exact .inl hn
  · exact .inr ⟨g, cap, cur, rfl, Nat.le_trans hb hbg, r⟩
theorem below_undrew {B : Nat} {w w' : World} (h : Below B w.drew w') : Below B w w' := ⟨h.os, h.tape, h.output, h.size, h.block⟩
/-- a cell below the old heap's end is as it was -/
theorem cell_next {w w' : World} {p : Addr} {v : Value} (h : w.cell? p = some v) (hb : Below w.heap.size w w') : w'.cell? p = some v :=
  (hb.cell (World.block_lt_of_cell? w p h)).trans h
theorem RdB.at {B : Nat} {w : World} {v : Value} {l : List Nat} (h : RdB B w v l) {k : Nat} (hk : k < l.length) :
    ∃ ad c, v = .slice (some ad) l.length c ∧ ad.block < B ∧ (ad.add k).block = ad.block ∧ w.cell? (ad.add k) = some (.int .u8 ((l.getD k 0 : Nat) : Int)) := by
  obtain ⟨ad, c, hv, _, hB, hr⟩ := RdS.addr h (by intro h0; have := bv_length l; rw [h0] at this; simp at this; omega)
  exact ⟨ad, c, hv, hB, by unfold Addr.add; split <;> rfl, hr k _ (bv_get l k hk)⟩

/-- it returns a slice of its own with these bytes, and OK -/
def RetSE (ys : List Nat) (w : World) (e : Ending) (w' : World) : Prop :=
  ∃ v', e = .returned (.tuple #[v', .int .i64 0]) ∧ w'.ownsRow w.heap.size 5 1 v' ys.length (bv ys) ∧ Below w.heap.size w w'
/-- it returns nil and an error -/
def RetE (c : Int) (w : World) (e : Ending) (w' : World) : Prop := e = .returned (.tuple #[.slice none 0 0, .int .i64 c]) ∧ Below w.heap.size w w'
end Go.Proofs.Ytfinekmegiengaa
/- Slices of words, as slices of bytes in Mem3 and Mem4. -/
namespace Go.Proofs.Ytfinekmegiengaa
open Go.RowKit
set_option linter.unusedSimpArgs false
set_option linter.unusedVariables false

/-- v is a slice of words that reads l, in blocks below B -/
def RdW (B : Nat) (w : World) (v : Value) (l : List Nat) : Prop := RdS B 1 w v l.length (wv l)
theorem RdW.mono {B : Nat} {w w' : World} {v : Value} {l : List Nat} (h : RdW B w v l) (hb : Below B w w') : RdW B w' v l := RdS.mono h hb
theorem RdW.up {B B' : Nat} {w : World} {v : Value} {l : List Nat} (h : RdW B w v l) (hB : B ≤ B') : RdW B' w v l := RdS.up h hB
theorem RdW.next {w w' : World} {v : Value} {l : List Nat} (h : RdW w.heap.size w v l) (hb : Below w.heap.size w w') : RdW w'.heap.size w' v l := RdS.next h hb
theorem RdW.of_own {base : Nat} {w : World} {v : Value} {l : List Nat} (h : w.ownsRow base 25 1 v l.length (wv l)) : RdW w.heap.size w v l := RdS.of_own h
theorem wpList_lenW {w : World} {ops : Array Oper} {rest : List Oper} {o : Oper} {a : Act} {Q : Exit → Act → World → Prop} {x : Operand} {v : Value} {B : Nat} {l : List Nat} (h : RdW B w v l)
    (hg : Region.wanted o (yielded ops a.tmps) = true) (ho : o.op = .call { callee := .builtin .len, args := #[x], argTypes := #[31] }) (hx : a.eval x = v) (hK : wpList Try.prog ops Q rest (a.put o.dst (.int .i64 (l.length : Int))) w) : wpList Try.prog ops Q (o :: rest) a w :=
  wpList_len hg ho Try.underlying31 hx h hK

theorem wpList_indexW {w : World} {ops : Array Oper} {rest : List Oper} {o : Oper} {a : Act} {Q : Exit → Act → World → Prop} {x j : Operand} {v : Value} {B : Nat} {l : List Nat} (h : RdW B w v l) (i : Nat) (hi : i < l.length)
    {k : IntKind} {J : Int} (hg : Region.wanted o (yielded ops a.tmps) = true) (ho : o.op = .indexAddr 31 x j) (hx : a.eval x = v) (hj : a.eval j = .int k J) (hJ : J = (i : Int))
    (hK : ∀ p : Addr, p.block < B → w.cell? p = some (.int .u32 ((l.getD i 0 : Nat) : Int)) → wpList Try.prog ops Q rest (a.put o.dst (.pointer (some p))) w) : wpList Try.prog ops Q (o :: rest) a w :=
  wpList_index hg ho Try.underlying31 size_u32 hx hj hJ h hi (by omega) fun p hp hc => hK p hp (by
    have := hc 0 _ (by omega) (by rw [Nat.mul_one, Nat.add_zero]; exact wv_get l i hi)
    rwa [Addr.add_zero'] at this)

theorem wpList_cutW {w : World} {ops : Array Oper} {rest : List Oper} {o : Oper} {a : Act} {Q : Exit → Act → World → Prop} {x : Operand} {lo hi mx : Option Operand} {v : Value} {B : Nat} {l : List Nat} (h : RdW B w v l) (L H : Nat)
    (hg : Region.wanted o (yielded ops a.tmps) = true) (ho : o.op = .slice 31 x lo hi mx) (hx : a.eval x = v)
    (hlo : (lo.map a.eval = none ∧ L = 0) ∨ ∃ k N, lo.map a.eval = some (.int k N) ∧ N = (L : Int)) (hhi : (hi.map a.eval = none ∧ mx.map a.eval = none ∧ H = l.length) ∨ ∃ k N, hi.map a.eval = some (.int k N) ∧ N = (H : Int))
    (hmx : mx.map a.eval = none ∨ ∃ k N M, mx.map a.eval = some (.int k N) ∧ N = ((M : Nat) : Int) ∧ H ≤ M ∧ M ≤ l.length) (hLH : L ≤ H) (hHn : H ≤ l.length)
    (hK : ∀ v', RdW B w v' ((l.drop L).take (H - L)) → wpList Try.prog ops Q rest (a.put o.dst v') w) : wpList Try.prog ops Q (o :: rest) a w :=
  wpList_cut hg ho Try.underlying31 size_u32 hx h L H hlo hhi hmx hLH hHn fun v' hr => hK v' (by
    unfold RdW
    rw [Nat.mul_one, Nat.mul_one, wv_drop, wv_take] at hr
    have hl : ((l.drop L).take (H - L)).length = H - L := by rw [List.length_take, List.length_drop]; omega
    rw [hl]
    exact hr)

theorem wpList_appendW {w : World} {ops : Array Oper} {rest : List Oper} {o : Oper} {a : Act} {Q : Exit → Act → World → Prop} {sO xO : Operand} {base : Nat} {v : Value} {xs : List Nat} (hown : w.ownsRow base 25 1 v xs.length (wv xs)) {B : Nat} {y : Value} {ys : List Nat} (h : RdW B w y ys)
    (hg : Region.wanted o (yielded ops a.tmps) = true) (ho : o.op = .call { callee := .builtin .append, args := #[sO, xO], argTypes := #[31, 31] }) (hs : a.eval sO = v) (hx : a.eval xO = y)
    (h63 : xs.length + ys.length ≤ 35184372087808) (hbase : base ≤ w.heap.size)
    (hK : ∀ v' w', w'.ownsRow base 25 1 v' (xs ++ ys).length (wv (xs ++ ys)) → w.grownBy w' v.ownBlock → wpList Try.prog ops Q rest (a.put o.dst v') w') : wpList Try.prog ops Q (o :: rest) a w :=
  wpList_append hg ho Try.underlying31 info_u32 rfl (by omega) hs hown hx h (wv_oneCell ys) (by omega) (by omega) hbase fun v' w' h1 h2 => hK v' w' (by rwa [List.length_append, wv_append]) h2

theorem wpList_buildW {w : World} {ops : Array Oper} {rest : List Oper} {o : Oper} {a : Act} {Q : Exit → Act → World → Prop} {parts : Array (Nat × Operand)} (l : List Nat) (hn : l.length ≤ 1000)
    (hg : Region.wanted o (yielded ops a.tmps) = true) (ho : o.op = .buildSlice 31 l.length parts)
    (hf : (parts.toList.map fun q => (q.1, a.eval q.2)) = ((wv l).zipIdx 0).map fun q => (q.2, q.1))
    (hK : ∀ g w', w.heap.size ≤ g → g < w'.heap.size → w'.ownsRow w.heap.size 25 1 (.slice (some ⟨g, 0, none⟩) l.length l.length) l.length (wv l) → Below w.heap.size w w' → wpList Try.prog ops Q rest (a.put o.dst (.slice (some ⟨g, 0, none⟩) l.length l.length)) w') : wpList Try.prog ops Q (o :: rest) a w :=
  wpList_buildSlice Try.underlying31 info_u32 (by omega) (wv l).toArray hg ho (by
    rw [zeroRow_one (.int .u32 0) l.length rfl]
    have h := fill_ones (wv l) [] (List.replicate l.length (.int .u32 0)) (fun v hv => by
      simp only [wv, List.mem_map] at hv
      obtain ⟨x, _, rfl⟩ := hv
      rfl) (by simp)
    rw [List.nil_append, List.length_nil, ← hf] at h
    rw [Array.toList_map]
    exact h) fun g w' h1 h2 h3 h4 => hK g w' h1 h2 (by
    have := own_of_row h3 (n := l.length) (by simp) h1 (by unfold maxLen; omega)
    simpa using this) h4

theorem RdW.at {B : Nat} {w : World} {v : Value} {l : List Nat} (h : RdW B w v l) {k : Nat} (hk : k < l.length) :
    ∃ ad c, v = .slice (some ad) l.length c ∧ ad.block < B ∧ (ad.add k).block = ad.block ∧ w.cell? (ad.add k) = some (.int .u32 ((l.getD k 0 : Nat) : Int)) := by
  obtain ⟨ad, c, hv, _, hB, hr⟩ := RdS.addr h (by intro h0; have := wv_length l; rw [h0] at this; simp at this; omega)
  exact ⟨ad, c, hv, hB, by unfold Addr.add; split <;> rfl, hr k _ (wv_get l k hk)⟩


theorem own_of_rowW {w : World} {g : Nat} {l : List Nat} (h : Row w g 25 (wv l).toArray) {base n : Nat} (hn : n = l.length) (hb : base ≤ g) (hm : n ≤ maxLen) : w.ownsRow base 25 1 (.slice (some ⟨g, 0, none⟩) n n) l.length (wv l) := by
  have := own_of_row h (n := n) (by simp [hn]) hb hm
  subst hn
  simpa using this
end Go.Proofs.Ytfinekmegiengaa
/- Laws for the walks: a slice's literal of one array; arrays loaded and stored, as steps of a region that draws its order. -/
namespace Go.Proofs.Ytfinekmegiengaa
open Go.RowKit
set_option linter.unusedSimpArgs false
set_option linter.unusedVariables false

theorem fold_set (vs : List Value) : ∀ (pre zs : List Value), zs.length = vs.length →
    ((vs.zipIdx pre.length).foldl (fun cs (x : Value × Nat) => match x with | (c, j) => cs.setIfInBounds j c) (pre ++ zs).toArray) = (pre ++ vs).toArray := by
  induction vs with
  | nil =>
    intro pre zs h
    have : zs = [] := List.eq_nil_of_length_eq_zero h
    subst this
    rfl
  | cons v vs ih =>
    intro pre zs h
    cases zs with
    | nil => simp at h
    | cons z zs =>
      have h1 := ih (pre ++ [v]) zs (by simpa using h)
      rw [List.zipIdx_cons, List.foldl_cons]
      have hset : ((pre ++ z :: zs).toArray.setIfInBounds pre.length v) = (pre ++ [v] ++ zs).toArray := by simp
      have hl : (pre ++ [v]).length = pre.length + 1 := by simp
      rw [hl] at h1
      show List.foldl _ ((pre ++ z :: zs).toArray.setIfInBounds pre.length v) _ = _
      rw [hset, h1]
      simp

theorem fill_one (s : Nat) (row cs : Array Value) (hr : row.size = s) (hc : cs.size = s) : Instr.fill (fun i => some (i * s, s)) row [(0, .agg cs)] = some cs := by
  have h := fold_set cs.toList [] row.toList (by simp; omega)
  simp only [List.nil_append, List.length_nil] at h
  have hfold : (cs.zipIdx.foldl (fun cs (x : Value × Nat) => match x with | (c, j) => cs.setIfInBounds (0 * s + j) c) row) = cs := by
    simp only [Nat.zero_mul, Nat.zero_add]
    rw [← Array.foldl_toList, Array.toList_zipIdx]
    exact h
  have hcond : (decide ((Value.agg cs).cells.size ≠ s) || decide (0 * s + (Value.agg cs).cells.size > row.size)) = false := by
    simp [Value.cells, hc, hr]
  show (if (decide ((Value.agg cs).cells.size ≠ s) || decide (0 * s + (Value.agg cs).cells.size > row.size)) = true then none else Instr.fill (fun i => some (i * s, s)) (cs.zipIdx.foldl (fun cs (x : Value × Nat) => match x with | (c, j) => cs.setIfInBounds (0 * s + j) c) row) []) = some cs
  rw [hcond, hfold]
  rfl

variable {P : Program} {w : World} {ops : Array Oper} {rest : List Oper} {o : Oper} {a : Act} {Q : Exit → Act → World → Prop} {K : Act → World → Prop} {E : Prop}

/-- '[][n]T{v}': the array's cells are a new block -/
theorem run_build1 {t : TypeId} {e : TypeId} {z : Value} {s bytes : Nat} (ht : P.underlying t = some (.slice e)) (hi : (P.info? e).map (fun i => (i.zero, i.size, i.bytes)) = some (some z, s, bytes)) (hs0 : 0 < s) (hn : s ≤ 1000) (cs : Array Value) (hcs : cs.size = s) :
    (Instr.buildSlice t 1 #[(0, .agg cs)]).run P w = .ok (.slice (some ⟨w.heap.size, 0, none⟩) 1 1) (w.alloc (.cells cs e)) := by
  obtain ⟨i, hi', hz, hs, hb⟩ := info_parts hi
  have h24 : ¬ 16777216 < s := by omega
  have hf := fill_one s ((Array.range s).map fun j => z.cells[j % z.cells.size]!) cs (by simp) hcs
  simp [Instr.buildSlice, run_underlying ht, sizeOf, typeInfo, hi', hs, show s ≠ 0 by omega, h24, zeroValue, hz, newRow, hf]

theorem step_build1 {x : Operand} {t e : TypeId} {z : Value} {s bytes : Nat} (cs : Array Value) (ht : P.underlying t = some (.slice e)) (hi : (P.info? e).map (fun i => (i.zero, i.size, i.bytes)) = some (some z, s, bytes)) (hs0 : 0 < s) (hn : s ≤ 1000) (hcs : cs.size = s)
    (hg : Region.wanted o (yielded ops a.tmps) = true) (ho : o.op = .buildSlice t 1 #[(0, x)]) (hx : a.eval x = .agg cs)
    (hK : ∀ g w', w.heap.size ≤ g → g < w'.heap.size → Row w' g e cs → Below w.heap.size w w' → K (a.put o.dst (.slice (some ⟨g, 0, none⟩) 1 1)) w') : if Region.wanted o (yielded ops a.tmps) = true then Oper.wp P o a w K Q else E := by
  rw [if_pos hg]
  have hrun := run_build1 (w := w) ht hi hs0 hn cs hcs
  unfold Oper.wp
  have hp : (#[(0, x)] : Array (Nat × Operand)).map (fun (i, x) => (i, a.eval x)) = #[(0, .agg cs)] := by simp [hx]
  simp only [execOp, ho, hp, Sem.run_bind, hrun, Result.andThen_ok, Sem.run_pure]
  exact hK _ _ (Nat.le_refl _) (by simp [World.alloc_size']) (Row.new _ _ _) ((Below.refl _ _).alloc (Nat.le_refl _) _)

theorem wpList_build1 {x : Operand} {t e : TypeId} {z : Value} {s bytes : Nat} (cs : Array Value) (ht : P.underlying t = some (.slice e)) (hi : (P.info? e).map (fun i => (i.zero, i.size, i.bytes)) = some (some z, s, bytes)) (hs0 : 0 < s) (hn : s ≤ 1000) (hcs : cs.size = s)
    (hg : Region.wanted o (yielded ops a.tmps) = true) (ho : o.op = .buildSlice t 1 #[(0, x)]) (hx : a.eval x = .agg cs)
    (hK : ∀ g w', w.heap.size ≤ g → g < w'.heap.size → Row w' g e cs → Below w.heap.size w w' → wpList P ops Q rest (a.put o.dst (.slice (some ⟨g, 0, none⟩) 1 1)) w') : wpList P ops Q (o :: rest) a w := by
  refine wpList_go hg fun K hK' => ?_
  have := step_build1 (K := K) (E := True) (Q := Q) cs ht hi hs0 hn hcs hg ho hx (fun g w' h1 h2 h3 h4 => hK' _ _ (hK g w' h1 h2 h3 h4))
  rwa [if_pos hg] at this

theorem run_loadArr {T e : TypeId} {n : Nat} (hT : P.underlying T = some (.array n e)) (hs : (P.info? T).map (·.size) = some n) {ad : Addr}
    (cs : List Value) (hl : cs.length = n) (hr : ∀ i x, cs[i]? = some x → w.cell? (ad.add i) = some x) : (loadVar T ad).run P w = .ok (.agg cs.toArray) w := by
  cases hq : P.info? T with
  | none => simp [hq] at hs
  | some inf =>
    have hs' : inf.size = n := by simpa [hq] using hs
    have hld := run_loadCells_list (P := P) w ad cs hr
    rw [hl] at hld
    have hagg : (isAgg T).run P w = .ok true w := by
      unfold isAgg
      rw [Sem.run_bind, run_underlying hT w]
      rfl
    simp [loadVar, Sem.run_bind, hagg, sizeOf, typeInfo, hq, hs', hld]

/-- an array, loaded, in a region that draws its order -/
theorem step_loadArr {x : Operand} {T e : TypeId} {n : Nat} (cs : List Value) (hg : Region.wanted o (yielded ops a.tmps) = true) (ho : o.op = .load T x) (hT : P.underlying T = some (.array n e)) (hs : (P.info? T).map (·.size) = some n) {ad : Addr} (hx : a.eval x = .pointer (some ad))
    (hl : cs.length = n) (hr : ∀ i x, cs[i]? = some x → w.cell? (ad.add i) = some x)
    (hK : K (a.put o.dst (.agg cs.toArray)) w) : if Region.wanted o (yielded ops a.tmps) = true then Oper.wp P o a w K Q else E := by
  rw [if_pos hg]
  have hrun := run_loadArr hT hs cs hl hr
  unfold Oper.wp
  simp only [execOp, ho, hx, Instr.loadAt, Instr.sureAddr, Sem.run_bind, Sem.run_pure, Result.andThen_ok, hrun]
  exact hK

/-- an array, stored into a block of its own -/
theorem run_storeRow {T : TypeId} {g : Nat} {t : TypeId} {c c' : Array Value} (hr : Row w g t c) (hi : (P.info? T).map (·.size) = some c'.size) (hs : c.size = c'.size) (h1 : c'.all (·.oneCell') = true) :
    (Instr.storeAt T (.pointer (some ⟨g, 0, none⟩)) (.agg c')).run P w = .ok () (w.setRow g c') := by
  simp only [Instr.storeAt, Instr.sureAddr, Sem.run_bind, Sem.run_pure, Result.andThen_ok, run_storeVar_row w g t T c c' hr hi hs h1]

theorem wpList_storeRow {T : TypeId} {x y : Operand} {g : Nat} {t : TypeId} {c : Array Value} (hr : Row w g t c) (c' : Array Value) (hg : Region.wanted o (yielded ops a.tmps) = true) (ho : o.op = .store T x y) (hx : a.eval x = .pointer (some ⟨g, 0, none⟩)) (hy : a.eval y = .agg c')
    (hi : (P.info? T).map (·.size) = some c'.size) (hs : c.size = c'.size) (h1 : c'.all (·.oneCell') = true)
    (hK : ∀ w', w' = w.setRow g c' → Row w' g t c' → w'.heap.size = w.heap.size → wpList P ops Q rest (a.put o.dst undef) w') : wpList P ops Q (o :: rest) a w := by
  refine wpList_go hg fun K hK' => ?_
  have hrun := run_storeRow (P := P) (T := T) hr hi hs h1
  unfold Oper.wp
  simp only [execOp, ho, hx, hy, Sem.run_bind, hrun, Result.andThen_ok, Sem.run_pure]
  exact hK' _ _ (hK _ rfl (heap_setRow_same w g t c c' hr) (by simp [World.setRow]))

theorem step_storeRow {T : TypeId} {x y : Operand} {g : Nat} {t : TypeId} {c : Array Value} (hr : Row w g t c) (c' : Array Value) (hg : Region.wanted o (yielded ops a.tmps) = true) (ho : o.op = .store T x y) (hx : a.eval x = .pointer (some ⟨g, 0, none⟩)) (hy : a.eval y = .agg c')
    (hi : (P.info? T).map (·.size) = some c'.size) (hs : c.size = c'.size) (h1 : c'.all (·.oneCell') = true)
    (hK : ∀ w', w' = w.setRow g c' → Row w' g t c' → w'.heap.size = w.heap.size → K (a.put o.dst undef) w') : if Region.wanted o (yielded ops a.tmps) = true then Oper.wp P o a w K Q else E := by
  rw [if_pos hg]
  have hrun := run_storeRow (P := P) (T := T) hr hi hs h1
  unfold Oper.wp
  simp only [execOp, ho, hx, hy, Sem.run_bind, hrun, Result.andThen_ok, Sem.run_pure]
  exact hK _ rfl (heap_setRow_same w g t c c' hr) (by simp [World.setRow])
end Go.Proofs.Ytfinekmegiengaa
namespace Go.Proofs.Ytfinekmegiengaa
open Go.RowKit
variable {P : Program} {w : World} {ops : Array Oper} {rest : List Oper} {o : Oper} {a : Act} {Q : Exit → Act → World → Prop} {K : Act → World → Prop} {E : Prop}
/-- an array's address out of a slice, in a region that draws its order -/
theorem step_arr {x : Operand} {T e : TypeId} {n : Nat} (hg : Region.wanted o (yielded ops a.tmps) = true) (ho : o.op = .sliceToArrayPointer T x) (hT : P.underlying T = some (.array n e)) {ad : Addr} {m c : Nat} (hx : a.eval x = .slice (some ad) m c) (hn : n ≤ m)
    (hK : K (a.put o.dst (.pointer (some ad))) w) : if Region.wanted o (yielded ops a.tmps) = true then Oper.wp P o a w K Q else E := by
  rw [if_pos hg]
  unfold Oper.wp
  simp [execOp, ho, hx, Instr.arrayAt, run_underlying hT, show ¬ m < n by omega, Result.andThen]
  exact hK
theorem rangeAt_add {w : World} {g k : Nat} {cs : List Value} (h : w.rangeAt g k cs) : ∀ i x, cs[i]? = some x → w.cell? ((⟨g, k, none⟩ : Addr).add i) = some x := fun i x hx => by rw [Addr.add_lit]; exact h i x hx
theorem rangeAt_below {B : Nat} {w w' : World} {g k : Nat} {cs : List Value} (h : w.rangeAt g k cs) (hb : Below B w w') (hg : g < B) : w'.rangeAt g k cs := fun j v hv => (hb.cell (by exact hg)).trans (h j v hv)
theorem rangeAt_grown {w w' : World} {g k : Nat} {cs : List Value} (h : w.rangeAt g k cs) {r : Option Nat} (hg : w.grownBy w' r) (hlt : g < w.heap.size) (hr : some g ≠ r) : w'.rangeAt g k cs := fun j v hv => by
  have h1 := h j v hv
  have hb := hg.block g hlt hr
  unfold World.cell? at h1 ⊢
  simp only [hb] at h1 ⊢
  exact h1
theorem rangeAt_setCell {w : World} {g k : Nat} {cs : List Value} (h : w.rangeAt g k cs) {kb i : Nat} (v : Value) (hne : g ≠ kb) : (w.setCell ⟨kb, i, none⟩ v).rangeAt g k cs := fun j x hx => by
  have h1 := h j x hx
  have hb := heap_setCell_other w ⟨kb, i, none⟩ g v hne
  unfold World.cell? at h1 ⊢
  simp only [hb] at h1 ⊢
  exact h1
theorem own_slice {base e s : Nat} {w : World} {v : Value} {n : Nat} {xs : List Value} (h : w.ownsRow base e s v n xs) (hn : 0 < n) : ∃ g c, v = .slice (some ⟨g, 0, none⟩) n c := by
  rcases h.2 with ⟨_, h0⟩ | ⟨g, cap, cur, rfl, _⟩
  · omega
  · exact ⟨g, cap, rfl⟩
set_option linter.unusedVariables false in
/-- it frees the goals' names that the kit's walk through a drawn region takes a second time ('apply' lays them anew, 'case' takes them off) -/
theorem names_fresh (hS hu hd hi hc rest : True) : True := trivial
/-- what is owned stays owned when another block's cell is written -/
theorem own_setCell {base e s : Nat} {w : World} {v : Value} {n : Nat} {xs : List Value} (h : w.ownsRow base e s v n xs) {k i : Nat} (hk : k < base) (x : Value) : (w.setCell ⟨k, i, none⟩ x).ownsRow base e s v n xs := by
  refine ⟨h.1, ?_⟩
  rcases h.2 with hn | ⟨g, cap, cur, rfl, hbg, hgg, r⟩
  · exact .inl hn
  · exact .inr ⟨g, cap, cur, rfl, hbg, (heap_setCell_other w ⟨k, i, none⟩ g x (by show g ≠ k; omega)).trans hgg, r⟩
theorem below_setCell {B : Nat} {w : World} {k i : Nat} (x : Value) (h : B ≤ k) : Below B w (w.setCell ⟨k, i, none⟩ x) := (Below.refl B w).setCell h x
/-- a box, its block under a name -/
theorem wpList_boxR {T : TypeId} {x : Operand} (v : Value) (hg : Region.wanted o (yielded ops a.tmps) = true) (ho : o.op = .box T x) (hx : a.eval x = v)
    (hK : ∀ g w', w.heap.size ≤ g → g < w'.heap.size → Row w' g T v.cells → Below w.heap.size w w' → wpList P ops Q rest (a.put o.dst (.pointer (some ⟨g, 0, none⟩))) w') : wpList P ops Q (o :: rest) a w :=
  wpList_box hg ho hx (hK _ _ (Nat.le_refl _) (by rw [World.alloc_size']; omega) (Row.new _ _ _) ((Below.refl _ _).alloc (Nat.le_refl _) _))
theorem wpList_allocR {t : TypeId} (z : Value) (n : Nat) (hz : (P.info? t).map (fun i => (i.zero, i.size)) = some (some z, n)) (hg : Region.wanted o (yielded ops a.tmps) = true) (ho : o.op = .alloc t)
    (hK : ∀ g w', w.heap.size ≤ g → g < w'.heap.size → Row w' g t z.cells → Below w.heap.size w w' → wpList P ops Q rest (a.put o.dst (.pointer (some ⟨g, 0, none⟩))) w') : wpList P ops Q (o :: rest) a w :=
  wpList_alloc hg t ho z n hz (hK _ _ (Nat.le_refl _) (by rw [World.alloc_size']; omega) (Row.new _ _ _) ((Below.refl _ _).alloc (Nat.le_refl _) _))
/-- a whole array out of its block -/
theorem wpList_loadRow {x : Operand} {T e : TypeId} {n : Nat} {g : Nat} {t : TypeId} {cs : List Value} (hr : Row w g t cs.toArray) (hl : cs.length = n) (hT : P.underlying T = some (.array n e)) (hs : (P.info? T).map (·.size) = some n)
    (hg : Region.wanted o (yielded ops a.tmps) = true) (ho : o.op = .load T x) (hx : a.eval x = .pointer (some ⟨g, 0, none⟩))
    (hK : wpList P ops Q rest (a.put o.dst (.agg cs.toArray)) w) : wpList P ops Q (o :: rest) a w :=
  wpList_loadArr hg ho hT hs hx cs hl (fun i v hv => by rw [Addr.add_lit, Nat.zero_add]; exact hr.cell (by rwa [List.getElem?_toArray])) hK
theorem wpList_arrL {x : Operand} {T e : TypeId} {n : Nat} (hg : Region.wanted o (yielded ops a.tmps) = true) (ho : o.op = .sliceToArrayPointer T x) (hT : P.underlying T = some (.array n e)) {ad : Addr} {m c : Nat} (hx : a.eval x = .slice (some ad) m c) (hn : n ≤ m)
    (hK : wpList P ops Q rest (a.put o.dst (.pointer (some ad))) w) : wpList P ops Q (o :: rest) a w := by
  refine wpList_go hg fun K hK' => ?_
  unfold Oper.wp
  simp [execOp, ho, hx, Instr.arrayAt, run_underlying hT, show ¬ m < n by omega, Result.andThen]
  exact hK' _ _ hK
/-- an array's block, cut: the bounds told first -/
theorem wpList_cutArrL (L H M : Nat) {x : Operand} {lo hi mx : Option Operand} {t e : TypeId} {n : Nat} {g : Nat} (hg : Region.wanted o (yielded ops a.tmps) = true) (ho : o.op = .slice t x lo hi mx)
    (ht : P.underlying t = some (.array n e)) (hs : (P.info? e).map (·.size) = some 1) (hx : a.eval x = .pointer (some ⟨g, 0, none⟩))
    (hlo : (lo.map a.eval = none ∧ L = 0) ∨ ∃ k N, lo.map a.eval = some (.int k N) ∧ N = (L : Int)) (hhi : (hi.map a.eval = none ∧ mx.map a.eval = none ∧ H = n) ∨ ∃ k N, hi.map a.eval = some (.int k N) ∧ N = (H : Int))
    (hmx : (mx.map a.eval = none ∧ M = n) ∨ ∃ k N, mx.map a.eval = some (.int k N) ∧ N = ((M : Nat) : Int) ∧ H ≤ M ∧ M ≤ n) (hLH : L ≤ H) (hHn : H ≤ n) (hLM : L < M)
    (hK : wpList P ops Q rest (a.put o.dst (.slice (some ⟨g, L, none⟩) (H - L) (M - L))) w) : wpList P ops Q (o :: rest) a w :=
  wpList_cutArr hg ho ht hs hx L H hlo hhi M hmx hLH hHn hLM hK
set_option linter.unusedSimpArgs false in
set_option linter.unusedVariables false in
/-- an array's block, cut, as a run -/
theorem run_cutArr (L H M : Nat) {t e : TypeId} {n : Nat} {g : Nat} {lo hi mx : Option Value}
    (ht : P.underlying t = some (.array n e)) (hs : (P.info? e).map (·.size) = some 1)
    (hlo : (lo = none ∧ L = 0) ∨ ∃ k N, lo = some (.int k N) ∧ N = (L : Int)) (hhi : (hi = none ∧ mx = none ∧ H = n) ∨ ∃ k N, hi = some (.int k N) ∧ N = (H : Int))
    (hmx : (mx = none ∧ M = n) ∨ ∃ k N, mx = some (.int k N) ∧ N = ((M : Nat) : Int) ∧ H ≤ M ∧ M ≤ n) (hLH : L ≤ H) (hHn : H ≤ n) (hLM : L < M) (w : World) :
    (Instr.sliceAt t (.pointer (some ⟨g, 0, none⟩)) lo hi mx).run P w = .ok (.slice (some ⟨g, L, none⟩) (H - L) (M - L)) w := by
  cases hq : P.info? e with
  | none => simp [hq] at hs
  | some inf =>
    have hs' : inf.size = 1 := by simpa [hq] using hs
    have hadd : (⟨g, 0, none⟩ : Addr).add (L * 1) = ⟨g, L, none⟩ := by rw [Nat.mul_one, Addr.add_lit, Nat.zero_add]
    have hML : ¬ M = L := by omega
    have e2 : (L : Int) ≤ (H : Int) := by omega
    have e1 : (H : Int) ≤ (n : Int) := by omega
    rcases hmx with ⟨hm, rfl⟩ | ⟨km, NM, hm, rfl, hHM, hMn⟩
    · rcases hhi with ⟨hh, _, rfl⟩ | ⟨kh, NH, hh, rfl⟩
      · rcases hlo with ⟨hl, rfl⟩ | ⟨kl, NL, hl, rfl⟩
        · rw [hm, hh, hl]
          simp [Instr.sliceAt, Instr.sureAddr, Instr.sliceBounds, Instr.sliceBound, asIntOf, run_underlying ht, sizeOf, typeInfo, hq, hs', hML, Addr.add_zero']
        · rw [hm, hh, hl]
          simp [Instr.sliceAt, Instr.sureAddr, Instr.sliceBounds, Instr.sliceBound, asIntOf, run_underlying ht, sizeOf, typeInfo, hq, hs', hML, hadd, e2, hLH, Addr.add_lit]
      · rcases hlo with ⟨hl, rfl⟩ | ⟨kl, NL, hl, rfl⟩
        · rw [hm, hh, hl]
          simp [Instr.sliceAt, Instr.sureAddr, Instr.sliceBounds, Instr.sliceBound, asIntOf, run_underlying ht, sizeOf, typeInfo, hq, hs', hML, e1, hHn, Addr.add_zero']
        · rw [hm, hh, hl]
          simp [Instr.sliceAt, Instr.sureAddr, Instr.sliceBounds, Instr.sliceBound, asIntOf, run_underlying ht, sizeOf, typeInfo, hq, hs', hML, hadd, e1, e2, hLH, hHn, Addr.add_lit]
    · have e6 : (M : Int) ≤ (n : Int) := by omega
      have e7 : (H : Int) ≤ (M : Int) := by omega
      rcases hhi with ⟨_, hno, _⟩ | ⟨kh, NH, hh, rfl⟩
      · rw [hno] at hm; cases hm
      · rcases hlo with ⟨hl, rfl⟩ | ⟨kl, NL, hl, rfl⟩
        · rw [hm, hh, hl]
          simp [Instr.sliceAt, Instr.sureAddr, Instr.sliceBounds, Instr.sliceBound, asIntOf, run_underlying ht, sizeOf, typeInfo, hq, hs', hML, e6, e7, hHM, hMn, Addr.add_zero']
        · rw [hm, hh, hl]
          simp [Instr.sliceAt, Instr.sureAddr, Instr.sliceBounds, Instr.sliceBound, asIntOf, run_underlying ht, sizeOf, typeInfo, hq, hs', hML, hadd, e6, e7, e2, hLH, hHM, hMn, Addr.add_lit]

theorem wpStill_run {Q : Act → Prop} {v : Value} (hg : Region.wanted o (yielded ops a.tmps) = true) (hrun : (execOp a.eval o).run P w = .ok (.value v) w) (h : wpStill P ops w Q rest (a.put o.dst v)) : wpStill P ops w Q (o :: rest) a := by
  unfold wpStill
  rw [if_pos hg]
  unfold Oper.still
  rw [hrun]
  exact ⟨rfl, h⟩
theorem wpStill_cutArr (L H M : Nat) {Q : Act → Prop} {x : Operand} {lo hi mx : Option Operand} {t e : TypeId} {n : Nat} {g : Nat} (hg : Region.wanted o (yielded ops a.tmps) = true) (ho : o.op = .slice t x lo hi mx)
    (ht : P.underlying t = some (.array n e)) (hs : (P.info? e).map (·.size) = some 1) (hx : a.eval x = .pointer (some ⟨g, 0, none⟩))
    (hlo : (lo.map a.eval = none ∧ L = 0) ∨ ∃ k N, lo.map a.eval = some (.int k N) ∧ N = (L : Int)) (hhi : (hi.map a.eval = none ∧ mx.map a.eval = none ∧ H = n) ∨ ∃ k N, hi.map a.eval = some (.int k N) ∧ N = (H : Int))
    (hmx : (mx.map a.eval = none ∧ M = n) ∨ ∃ k N, mx.map a.eval = some (.int k N) ∧ N = ((M : Nat) : Int) ∧ H ≤ M ∧ M ≤ n) (hLH : L ≤ H) (hHn : H ≤ n) (hLM : L < M)
    (h : wpStill P ops w Q rest (a.put o.dst (.slice (some ⟨g, L, none⟩) (H - L) (M - L)))) : wpStill P ops w Q (o :: rest) a :=
  wpStill_run hg (by
    have hrun := run_cutArr (P := P) (g := g) L H M ht hs hlo hhi hmx hLH hHn hLM w
    simp only [execOp, ho, hx, Sem.run_bind, hrun, Result.andThen_ok, Sem.run_pure]) h
/-- an array, loaded from wherever its cells lie, in the head of a region that draws -/
theorem wpStill_loadArr {Q : Act → Prop} {x : Operand} {T e : TypeId} {n : Nat} {ad : Addr} (cs : List Value) (hg : Region.wanted o (yielded ops a.tmps) = true) (ho : o.op = .load T x) (hT : P.underlying T = some (.array n e)) (hs : (P.info? T).map (·.size) = some n) (hx : a.eval x = .pointer (some ad))
    (hl : cs.length = n) (hr : ∀ i x, cs[i]? = some x → w.cell? (ad.add i) = some x)
    (h : wpStill P ops w Q rest (a.put o.dst (.agg cs.toArray))) : wpStill P ops w Q (o :: rest) a :=
  wpStill_run hg (by
    have hrun := run_loadArr (P := P) hT hs cs hl hr
    simp only [execOp, ho, hx, Instr.loadAt, Instr.sureAddr, Sem.run_bind, Sem.run_pure, Result.andThen_ok, hrun]) h
theorem wpStill_arrL {Q : Act → Prop} {x : Operand} {T e : TypeId} {n : Nat} (hg : Region.wanted o (yielded ops a.tmps) = true) (ho : o.op = .sliceToArrayPointer T x) (hT : P.underlying T = some (.array n e)) {ad : Addr} {m c : Nat} (hx : a.eval x = .slice (some ad) m c) (hn : n ≤ m)
    (h : wpStill P ops w Q rest (a.put o.dst (.pointer (some ad)))) : wpStill P ops w Q (o :: rest) a :=
  wpStill_run hg (by
    simp [execOp, ho, hx, Instr.arrayAt, run_underlying hT, show ¬ m < n by omega, Result.andThen]) h
theorem rdb_of_row {w : World} {g n : Nat} {t : TypeId} {ys : List Nat} (h : Row w g t (bv ys).toArray) (hn : ys.length = n) : RdB (g + 1) w (.slice (some ⟨g, 0, none⟩) n n) ys := by
  subst hn
  have h1 := RdS.of_row h (n := ys.length) (cap := ys.length) (s := 1) (by simp) (Nat.le_refl _)
  exact h1
end Go.Proofs.Ytfinekmegiengaa
/- Regions that draw their order: the last operation, where all others come up ahead of it, is carried out behind the region of the others. -/
namespace Go.Proofs.Ytfinekmegiengaa
open Go.RowKit
set_option linter.unusedVariables false
set_option linter.unusedSimpArgs false

/-- the post of the others: the last operation is yet to come -/
def lastPost (P : Program) (o : Oper) (Q : Exit → Act → World → Prop) : Exit → Act → World → Prop
  | .normal, a, w => Oper.wp P o a w (Q .normal) Q
  | e, a, w => Q e a w

section
variable {P : Program} {ops : Array Oper} {o : Oper} {Q : Exit → Act → World → Prop} {md : Region.Mode}

theorem upon_last (o' : Oper) (a : Act) (next : Act → World → Prop) (r : Result Next) : o'.upon P a next (lastPost P o Q) r = o'.upon P a next Q r := by
  cases r with
  | ok n w => cases n <;> rfl
  | halt x w => cases x <;> rfl

/-- what the kernel looks at: every operation waits for earlier ones alone; no guard; each but the last has a later one that waits for it -/
def popB (md : Region.Mode) (ops : Array Oper) (o : Oper) : Bool :=
  ((List.range (ops.size + 1)).all fun i => match (ops.push o)[i]? with | some x => x.guard.isNone && x.after.all (fun e => !Region.binds md e || decide (e.on < i)) | none => true) && Region.sinkB md (ops.push o) ops.size

theorem getD_push (listed : Array Bool) (k : Nat) : (listed.push false).getD k false = listed.getD k false := by
  simp only [Array.getD_eq_getD_getElem?, Array.getElem?_push]
  split
  · subst_vars; simp
  · rfl
theorem getD_push' (listed : Array Bool) (k : Nat) (h : k < listed.size) : (listed.push false).getD k true = listed.getD k true := by
  simp only [Array.getD_eq_getD_getElem?, Array.getElem?_push]
  rw [if_neg (by omega)]
theorem set_push (listed : Array Bool) (k : Nat) (h : k < listed.size) : (listed.push false).setIfInBounds k true = (listed.setIfInBounds k true).push false := by
  apply Array.ext_getElem?
  intro j
  simp only [Array.getElem?_setIfInBounds, Array.getElem?_push, Array.size_push, Array.size_setIfInBounds]
  by_cases hj : k = j
  · subst hj
    simp [h, show ¬ k = listed.size by omega, show k < listed.size + 1 by omega]
  · simp only [if_neg hj]

theorem popB_spec (h : popB md ops o = true) : (∀ i x, (ops.push o)[i]? = some x → x.guard = none ∧ ∀ e ∈ x.after, Region.binds md e = true → e.on < i) ∧ Region.sinkB md (ops.push o) ops.size = true := by
  unfold popB at h
  rw [Bool.and_eq_true] at h
  refine ⟨fun i x hx => ?_, h.2⟩
  have hi : i < ops.size + 1 := by
    have := (Array.getElem?_eq_some_iff.1 hx).1
    simpa using this
  have h1 := List.all_eq_true.1 h.1 i (List.mem_range.2 hi)
  simp only [hx, Bool.and_eq_true, Option.isNone_iff_eq_none] at h1
  refine ⟨h1.1, fun e he hb => ?_⟩
  have h2 := Array.all_eq_true_iff_forall_mem.1 h1.2 e he
  simpa [hb] using h2

theorem ready_push {listed : Array Bool} (hs : listed.size = ops.size) {i : Nat} (hi : i < ops.size) : i ∈ Region.ready md (ops.push o) (listed.push false) ↔ i ∈ Region.ready md ops listed := by
  rw [mem_ready, mem_ready, getD_push' _ _ (by omega), Array.getElem?_push, if_neg (by omega)]
  simp only [getD_push]

/-- with nothing left to come up, all has come up -/
theorem all_listed (hf : ∀ i x, ops[i]? = some x → ∀ e ∈ x.after, Region.binds md e = true → e.on < i) {listed : Array Bool} (hs : listed.size = ops.size) (hr : Region.ready md ops listed = []) :
    ∀ i, i < ops.size → listed.getD i false = true := by
  intro i
  induction i using Nat.strongRecOn with
  | _ i ih =>
    intro hi
    cases hl : listed.getD i false with
    | true => rfl
    | false =>
      exfalso
      have hm : i ∈ Region.ready md ops listed := mem_ready.2 ⟨getD_in (by omega) hl, ops[i], Array.getElem?_eq_getElem hi, fun e he hb => by
        have := hf i _ (Array.getElem?_eq_getElem hi) e he hb
        exact ih e.on this (by omega)⟩
      rw [hr] at hm
      cases hm

theorem wpAny_pop (hB : popB md ops o = true) : ∀ (fuel : Nat) (listed : Array Bool) (a : Act) (w : World), HeadInv md (ops.push o) ops.size (listed.push false) → listed.size = ops.size →
    wpAny P md ops (lastPost P o Q) fuel listed a w → wpAny P md (ops.push o) Q (fuel + 1) (listed.push false) a w := by
  obtain ⟨hf, hsink⟩ := popB_spec hB
  have hn : ops.size < (ops.push o).size := by simp
  have hlast : (ops.push o)[ops.size]? = some o := by simp
  have hfo := hf _ _ hlast
  have hfh : ∀ i x, ops[i]? = some x → ∀ e ∈ x.after, Region.binds md e = true → e.on < i := fun i x hx => (hf i x (by
    have := (Array.getElem?_eq_some_iff.1 hx).1
    rw [Array.getElem?_push, if_neg (by omega)]; exact hx)).2
  have hchain : Region.chainB md (ops.push o) ops.size = true := by
    unfold Region.chainB
    rw [List.all_eq_true]
    intro t ht
    have := List.mem_range.1 ht
    simp at this ⊢
    left; omega
  -- all have come up but the last
  have hdone : ∀ (f : Nat) (listed : Array Bool) (a : Act) (w : World), listed.size = ops.size → Region.ready md ops listed = [] → lastPost P o Q .normal a w → wpAny P md (ops.push o) Q (f + 1) (listed.push false) a w := by
    intro f listed a w hs hr hq
    have hall := all_listed hfh hs hr
    have hin : ops.size ∈ Region.ready md (ops.push o) (listed.push false) := mem_ready.2 ⟨by
      simp [← hs], o, hlast, fun e he hb => by rw [getD_push]; exact hall _ (hfo.2 e he hb)⟩
    have honly : ∀ i ∈ Region.ready md (ops.push o) (listed.push false), i = ops.size := fun i hi => by
      obtain ⟨h1, x, hx, _⟩ := mem_ready.1 hi
      have hlt := (Array.getElem?_eq_some_iff.1 hx).1
      rw [Array.size_push] at hlt
      by_cases h : i = ops.size
      · exact h
      · have h2 := hall i (by omega)
        have h3 := getD_both h1
        rw [getD_push, h2] at h3
        cases h3
    refine ⟨fun h0 => (by rw [h0] at hin; cases hin), fun i hi => ?_⟩
    obtain rfl := honly i hi
    unfold wpOp
    rw [hlast]
    simp only [Region.wanted, hfo.1, if_true]
    refine .inl (Oper.wp_mono (fun a' w' h => ?_) hq)
    have hnone : Region.ready md (ops.push o) ((listed.push false).setIfInBounds ops.size true) = [] := by
      rw [List.eq_nil_iff_forall_not_mem]
      intro i hi
      obtain ⟨h1, x, hx, _⟩ := mem_ready.1 hi
      have hlt := (Array.getElem?_eq_some_iff.1 hx).1
      rw [Array.size_push] at hlt
      by_cases h : i = ops.size
      · subst h
        simp [← hs] at h1
      · rw [getD_set_ne true (by omega), getD_push' _ _ (by omega)] at h1
        have h2 := hall i (by omega)
        rw [getD_both h1] at h2
        cases h2
    cases f with
    | zero => exact ⟨hnone, h⟩
    | succ f => exact ⟨fun _ => h, by rw [hnone]; simp⟩
  intro fuel
  induction fuel with
  | zero =>
    intro listed a w inv hs h
    exact hdone 0 listed a w hs h.1 h.2
  | succ fuel ih =>
    intro listed a w inv hs h
    by_cases hr : Region.ready md ops listed = []
    · exact hdone (fuel + 1) listed a w hs hr (h.1 hr)
    · obtain ⟨i0, hi0⟩ := List.exists_mem_of_ne_nil _ hr
      obtain ⟨hu0, x0, hx0, _⟩ := mem_ready.1 hi0
      have hlt0 := (Array.getElem?_eq_some_iff.1 hx0).1
      have hnot : ∀ t, ops.size ≤ t → t ∉ Region.ready md (ops.push o) (listed.push false) := tail_waits hsink hchain hn inv _ i0 rfl hlt0 (by rw [getD_push' _ _ (by omega)]; exact hu0)
      have hlt : ∀ i ∈ Region.ready md (ops.push o) (listed.push false), i < ops.size := fun i hi => by
        rcases Nat.lt_or_ge i ops.size with h | h
        · exact h
        · exact absurd hi (hnot i h)
      refine ⟨fun h0 => ?_, fun i hi => ?_⟩
      · have := (ready_push (o := o) hs hlt0).2 hi0
        rw [h0] at this
        cases this
      · have hil := hlt i hi
        have h1 := h.2 i ((ready_push hs hil).1 hi)
        have hx : (ops.push o)[i]? = ops[i]? := by rw [Array.getElem?_push, if_neg (by omega)]
        have hw : ∀ x, ops[i]? = some x → x.guard = none := fun x hx' => (hf i x (by rw [hx]; exact hx')).1
        unfold wpOp at h1 ⊢
        rw [hx]
        have hxs : ops[i]? = some ops[i] := Array.getElem?_eq_getElem hil
        rw [hxs] at h1 ⊢
        simp only [Region.wanted, hw _ hxs, if_true] at h1 ⊢
        have hstep : ∀ a' w', wpAny P md ops (lastPost P o Q) fuel (listed.setIfInBounds i true) a' w' → wpAny P md (ops.push o) Q (fuel + 1) ((listed.push false).setIfInBounds i true) a' w' := fun a' w' h2 => by
          have inv2 := inv.set hi hil
          rw [set_push _ _ (by omega)] at inv2 ⊢
          exact ih _ a' w' inv2 (by simp [hs]) h2
        rcases h1 with h1 | h1
        · left
          have h2 := Oper.wp_mono hstep h1
          unfold Oper.wp at h2 ⊢
          rw [upon_last] at h2
          exact h2
        · exact .inr h1

theorem wp_region_pop {id : Nat} {l : List Oper} {a : Act} {w : World} (n : Nat) (hm : P.follows .mixedOrders = true) (hl : l[n]? = some o) (hlen : l.length = n + 1) (hB : popB .any (l.take n).toArray o = true)
    (h : wpAny P .any (l.take n).toArray (lastPost P o Q) n (Array.replicate n false) a w.drew) : (Code.region id l.toArray true).wp P Q a w := by
  have he : l.toArray = (l.take n).toArray.push o := by
    apply Array.ext'
    simp only [Array.toList_push]
    rw [← List.take_append_drop n l, List.take_left' (by simp; omega)]
    congr 1
    have hd : l.drop n = [o] := by
      have hnl : n < l.length := by omega
      rw [List.drop_eq_getElem_cons hnl]
      have : l[n] = o := by
        rw [List.getElem?_eq_getElem hnl] at hl
        exact Option.some.inj hl
      rw [this, List.drop_eq_nil_of_le (by omega)]
    rw [hd]
  have hsz : (l.take n).toArray.size = n := by simp; omega
  rw [he]
  refine wp_region_any hm ?_
  rw [Array.size_push, hsz]
  have hrep : Array.replicate (n + 1) false = (Array.replicate n false).push false := Array.replicate_succ
  rw [hrep]
  refine wpAny_pop hB n _ a _ ⟨by rw [Array.size_push, Array.size_push, hsz, Array.size_replicate], fun j oj _ hl => ?_, fun t ht ht' => ?_⟩ (by rw [hsz, Array.size_replicate]) h
  · rw [getD_push, getD_replicate_false] at hl
    cases hl
  · rw [Array.size_push, hsz] at ht'
    rw [hsz] at ht
    have : t = n := by omega
    subst this
    rw [Array.getD_eq_getD_getElem?, Array.getElem?_push, if_pos (by simp)]
    rfl

/-- from wpAnyH on -/
theorem wp_region_popH {id : Nat} {l : List Oper} {a : Act} {w : World} {S : World → Prop} (n : Nat) (hm : P.follows .mixedOrders = true) (hl : l[n]? = some o) (hlen : l.length = n + 1) (hB : popB .any (l.take n).toArray o = true)
    (h : wpAnyH P .any (l.take n).toArray (lastPost P o Q) S n (Array.replicate n false) a w.drew) : (Code.region id l.toArray true).wp P Q a w :=
  wp_region_pop n hm hl hlen hB (wpAny_of_held _ _ _ _ h)

/-- the last operation, as a list of one -/
theorem lastPost_go {a : Act} {w : World} (h : ∀ K : Act → World → Prop, (∀ a w, Q .normal a w → K a w) → Oper.wp P o a w K Q) : lastPost P o Q .normal a w := h _ fun _ _ h => h

/-- a slice's address as an array's: in whatever world -/
theorem yieldsIf_arr {S : World → Prop} {op : Oper} {a : Act} {ty e : TypeId} {n : Nat} {x : Operand} (hw : Region.wanted op (yielded ops a.tmps) = true) (ho : op.op = .sliceToArrayPointer ty x) (hT : P.underlying ty = some (.array n e)) {ad : Addr} {m c : Nat} (hx : a.eval x = .slice (some ad) m c) (hn : n ≤ m) :
    YieldsIf P ops S op (.pointer (some ad)) a :=
  .inl ⟨hw, fun w _ => by
    simp [execOp, ho, hx, Instr.arrayAt, run_underlying hT, show ¬ m < n by omega, Result.andThen]⟩
/-- an array, loaded under an S that tells its cells -/
theorem yieldsIf_loadArr {S : World → Prop} {op : Oper} {a : Act} {ty e : TypeId} {n : Nat} {x : Operand} (cs : List Value) (hw : Region.wanted op (yielded ops a.tmps) = true) (ho : op.op = .load ty x) (hT : P.underlying ty = some (.array n e)) (hs : (P.info? ty).map (·.size) = some n) {ad : Addr} (hx : a.eval x = .pointer (some ad))
    (hl : cs.length = n) (hS : ∀ w, S w → ∀ i x, cs[i]? = some x → w.cell? (ad.add i) = some x) : YieldsIf P ops S op (.agg cs.toArray) a :=
  .inl ⟨hw, fun w hw' => by
    have hrun := run_loadArr hT hs cs hl (hS w hw')
    simp only [execOp, ho, hx, Instr.loadAt, Instr.sureAddr, Sem.run_bind, Sem.run_pure, Result.andThen_ok, hrun]⟩
/-- one operation that yields in every world that meets S is taken first -/
theorem takeS {S : World → Prop} {i : Nat} {oi : Oper} {v : Value} {t : Tmp} {fuel : Nat} {listed : Array Bool} {a : Act} {w : World} (hS : S w) (hi : ops[i]? = some oi) (hd : oi.dst = some t)
    (hs : Region.noSelect ops = true) (hf : Region.free md ops listed i = true) (hr : (Region.ready md ops listed).contains i = true)
    (hQ : ∀ c a w, Q (.panic c) (a.put (some t) v) w → Q (.panic c) a w) (hw : Region.wanted oi (yielded ops a.tmps) = true)
    (hy : ∀ w, S w → (execOp a.eval oi).run P w = .ok (.value v) w)
    (h : wpAnyH P md ops Q S fuel (listed.setIfInBounds i true) (a.put (some t) v) w) : wpAnyH P md ops Q S (fuel + 1) listed a w :=
  wpAnyH_take hi hs hf hr (hd ▸ hQ) (.inl ⟨hw, hy⟩) hS (hd ▸ h)
theorem takeY {S : World → Prop} {i : Nat} {oi : Oper} {v : Value} {t : Tmp} {fuel : Nat} {listed : Array Bool} {a : Act} {w : World} (hS : S w) (hi : ops[i]? = some oi) (hd : oi.dst = some t)
    (hs : Region.noSelect ops = true) (hf : Region.free md ops listed i = true) (hr : (Region.ready md ops listed).contains i = true)
    (hQ : ∀ c a w, Q (.panic c) (a.put (some t) v) w → Q (.panic c) a w) (hy : YieldsIf P ops S oi v a)
    (h : wpAnyH P md ops Q S fuel (listed.setIfInBounds i true) (a.put (some t) v) w) : wpAnyH P md ops Q S (fuel + 1) listed a w :=
  wpAnyH_take hi hs hf hr (hd ▸ hQ) hy hS (hd ▸ h)
/-- the one operation that may come up now, with its destination told -/
theorem oneS {S : World → Prop} {i : Nat} {oi : Oper} {t : Tmp} {fuel : Nat} {listed : Array Bool} {a : Act} {w : World} (hi : ops[i]? = some oi) (hd : oi.dst = some t) (hr : Region.ready md ops listed = [i])
    (hw : Region.wanted oi (yielded ops a.tmps) = true)
    (h : ∀ K : Act → World → Prop, Shut (∀ a w, S w → (S w → wpAnyH P md ops Q S fuel (listed.setIfInBounds i true) a w) → K a w) → if Region.wanted ({ oi with dst := some t } : Oper) (yielded ops a.tmps) = true then Oper.wp P { oi with dst := some t } a w K Q else False) : wpAnyH P md ops Q S (fuel + 1) listed a w := by
  have ho : ({ oi with dst := some t } : Oper) = oi := by rw [← hd]
  refine wpAnyH_ready (rs := [i]) hr (by simp) (AllReadyH.cons hi (fun K hK => ?_) AllReadyH.nil)
  rw [if_pos hw]
  have h1 := h K hK
  rwa [ho, if_pos hw] at h1
/-- the beginning, the number of operations told -/
theorem wp_region_heldN {id : Nat} {l : List Oper} {a : Act} {w : World} {S : World → Prop} (n : Nat) (hn : l.length = n) (hm : P.follows .mixedOrders = true)
    (h : wpAnyH P .any l.toArray Q S n (Array.replicate n false) a w.drew) : (Code.region id l.toArray true).wp P Q a w := by
  refine wp_region_held (S := S) hm ?_
  rw [List.size_toArray, hn]
  exact h
/-- a slice's element, its address: in whatever world -/
theorem yieldsIf_indexS {S : World → Prop} {op : Oper} {a : Act} {t e : TypeId} {s n i : Nat} {x j : Operand} (hw : Region.wanted op (yielded ops a.tmps) = true) (ho : op.op = .indexAddr t x j) (ht : P.underlying t = some (.slice e)) (hs : (P.info? e).map (·.size) = some s)
    {ad : Addr} {c : Nat} {k : IntKind} {J : Int} (hx : a.eval x = .slice (some ad) n c) (hj : a.eval j = .int k J) (hJ : J = (i : Int)) (hi : i < n) : YieldsIf P ops S op (.pointer (some (ad.add (i * s)))) a :=
  .inl ⟨hw, fun w _ => by
    subst hJ
    simp only [execOp, ho, hx, hj, Sem.run_bind, run_indexAt ht hs hi, Result.andThen_ok, Sem.run_pure]⟩
theorem wpStill_indexS {w : World} {Q : Act → Prop} {rest : List Oper} {op : Oper} {a : Act} {t e : TypeId} {s n : Nat} (i : Nat) {x j : Operand} (hw : Region.wanted op (yielded ops a.tmps) = true) (ho : op.op = .indexAddr t x j) (ht : P.underlying t = some (.slice e)) (hs : (P.info? e).map (·.size) = some s)
    {ad : Addr} {c : Nat} {k : IntKind} {J : Int} (hx : a.eval x = .slice (some ad) n c) (hj : a.eval j = .int k J) (hJ : J = (i : Int)) (hi : i < n)
    (h : wpStill P ops w Q rest (a.put op.dst (.pointer (some (ad.add (i * s)))))) : wpStill P ops w Q (op :: rest) a :=
  wpStill_run hw (by
    subst hJ
    simp only [execOp, ho, hx, hj, Sem.run_bind, run_indexAt ht hs hi, Result.andThen_ok, Sem.run_pure]) h
/-- two operations may come up now -/
theorem twoS {S : World → Prop} {i j : Nat} {oi oj : Oper} {t u : Tmp} {fuel : Nat} {listed : Array Bool} {a : Act} {w : World} (hr : Region.ready md ops listed = [i, j]) (hi : ops[i]? = some oi) (hd : oi.dst = some t) (hw : Region.wanted oi (yielded ops a.tmps) = true)
    (hi' : ops[j]? = some oj) (hd' : oj.dst = some u) (hw' : Region.wanted oj (yielded ops a.tmps) = true)
    (h : ∀ K : Act → World → Prop, Shut (∀ a w, S w → (S w → wpAnyH P md ops Q S fuel (listed.setIfInBounds i true) a w) → K a w) → if Region.wanted ({ oi with dst := some t } : Oper) (yielded ops a.tmps) = true then Oper.wp P { oi with dst := some t } a w K Q else False)
    (h' : ∀ K : Act → World → Prop, Shut (∀ a w, S w → (S w → wpAnyH P md ops Q S fuel (listed.setIfInBounds j true) a w) → K a w) → if Region.wanted ({ oj with dst := some u } : Oper) (yielded ops a.tmps) = true then Oper.wp P { oj with dst := some u } a w K Q else False) : wpAnyH P md ops Q S (fuel + 1) listed a w := by
  have ho : ({ oi with dst := some t } : Oper) = oi := by rw [← hd]
  have ho' : ({ oj with dst := some u } : Oper) = oj := by rw [← hd']
  refine wpAnyH_ready (rs := [i, j]) hr (by simp) (AllReadyH.cons hi (fun K hK => ?_) (AllReadyH.cons hi' (fun K hK => ?_) AllReadyH.nil))
  · rw [if_pos hw]
    have h1 := h K hK
    rwa [ho, if_pos hw] at h1
  · rw [if_pos hw']
    have h1 := h' K hK
    rwa [ho', if_pos hw'] at h1
theorem oneN {S : World → Prop} {i : Nat} {oi : Oper} {fuel : Nat} {listed : Array Bool} {a : Act} {w : World} (hi : ops[i]? = some oi) (hd : oi.dst = none) (hr : Region.ready md ops listed = [i])
    (hw : Region.wanted oi (yielded ops a.tmps) = true)
    (h : ∀ K : Act → World → Prop, Shut (∀ a w, S w → (S w → wpAnyH P md ops Q S fuel (listed.setIfInBounds i true) a w) → K a w) → if Region.wanted ({ oi with dst := none } : Oper) (yielded ops a.tmps) = true then Oper.wp P { oi with dst := none } a w K Q else False) : wpAnyH P md ops Q S (fuel + 1) listed a w := by
  have ho : ({ oi with dst := none } : Oper) = oi := by rw [← hd]
  refine wpAnyH_ready (rs := [i]) hr (by simp) (AllReadyH.cons hi (fun K hK => ?_) AllReadyH.nil)
  rw [if_pos hw]
  have h1 := h K hK
  rwa [ho, if_pos hw] at h1
theorem step_allocR {w : World} {a : Act} {o : Oper} {K : Act → World → Prop} {E : Prop} {t : TypeId} (z : Value) (n : Nat) (hz : (P.info? t).map (fun i => (i.zero, i.size)) = some (some z, n)) (hg : Region.wanted o (yielded ops a.tmps) = true) (ho : o.op = .alloc t)
    (hK : ∀ g w', w.heap.size ≤ g → g < w'.heap.size → Row w' g t z.cells → Below w.heap.size w w' → K (a.put o.dst (.pointer (some ⟨g, 0, none⟩))) w') : if Region.wanted o (yielded ops a.tmps) = true then Oper.wp P o a w K Q else E := by
  rw [if_pos hg]
  have hrun : (Instr.alloc t true (.tuple #[])).run P w = .ok (.pointer (some ⟨w.heap.size, 0, none⟩)) (w.alloc (.cells z.cells t)) := by
    unfold Instr.alloc
    rw [Sem.run_bind, (zero_of_info hz).1 w]
    rfl
  unfold Oper.wp execOp
  simp only [ho, Sem.run_bind, hrun, Result.andThen_ok, Sem.run_pure]
  exact hK _ _ (Nat.le_refl _) (by rw [World.alloc_size']; omega) (Row.new _ _ _) ((Below.refl _ _).alloc (Nat.le_refl _) _)
end
end Go.Proofs.Ytfinekmegiengaa
/- Slices of slices of bytes: read, indexed, built, appended to. -/
namespace Go.Proofs.Ytfinekmegiengaa
open Go.RowKit
set_option linter.unusedSimpArgs false
set_option linter.unusedVariables false

theorem info_bs : (Try.prog.info? 28).map (fun i => (i.zero, i.size, i.bytes)) = some (some (.slice none 0 0), 1, 24) := by kernel_rfl
theorem size_bs : (Try.prog.info? 28).map (·.size) = some 1 := by kernel_rfl
/-- the values vs read the lists of L, in blocks below B -/
def Reads (B : Nat) (w : World) (vs : List Value) (L : List (List Nat)) : Prop := vs.length = L.length ∧ ∀ (i : Nat) (x : List Nat), L[i]? = some x → ∃ y, vs[i]? = some y ∧ RdB B w y x
theorem Reads.mono {B : Nat} {w w' : World} {vs : List Value} {L : List (List Nat)} (h : Reads B w vs L) (hb : Below B w w') : Reads B w' vs L :=
  ⟨h.1, fun i x hx => let ⟨y, hy, hr⟩ := h.2 i x hx; ⟨y, hy, hr.mono hb⟩⟩
theorem Reads.up {B B' : Nat} {w : World} {vs : List Value} {L : List (List Nat)} (h : Reads B w vs L) (hb : B ≤ B') : Reads B' w vs L :=
  ⟨h.1, fun i x hx => let ⟨y, hy, hr⟩ := h.2 i x hx; ⟨y, hy, hr.up hb⟩⟩
theorem Reads.next {w w' : World} {vs : List Value} {L : List (List Nat)} (h : Reads w.heap.size w vs L) (hb : Below w.heap.size w w') : Reads w'.heap.size w' vs L := (h.mono hb).up hb.size
theorem Reads.nil (B : Nat) (w : World) : Reads B w [] [] := ⟨rfl, fun i x hx => by simp at hx⟩
theorem Reads.snoc {B : Nat} {w : World} {vs : List Value} {L : List (List Nat)} (h : Reads B w vs L) {y : Value} {x : List Nat} (hy : RdB B w y x) : Reads B w (vs ++ [y]) (L ++ [x]) := by
  refine ⟨by simp [h.1], fun i u hu => ?_⟩
  by_cases hi : i < L.length
  · rw [List.getElem?_append_left hi] at hu
    obtain ⟨z, hz, hr⟩ := h.2 i u hu
    exact ⟨z, by rw [List.getElem?_append_left (by rw [h.1]; exact hi)]; exact hz, hr⟩
  · have hi2 : i = L.length := by
      have := (List.getElem?_eq_some_iff.1 hu).1
      simp at this
      omega
    subst hi2
    simp at hu
    subst hu
    exact ⟨y, by rw [← h.1]; simp, hy⟩
/-- all are slices: of one cell each -/
def Slices (vs : List Value) : Prop := ∀ v ∈ vs, ∃ a n c, v = .slice a n c
theorem Slices.oneCell {vs : List Value} (h : Slices vs) : ∀ u ∈ vs, u.oneCell' = true := fun u hu => by obtain ⟨a, n, c, rfl⟩ := h u hu; rfl
theorem Reads.slices {B : Nat} {w : World} {vs : List Value} {L : List (List Nat)} (h : Reads B w vs L) : Slices vs := by
  intro v hv
  obtain ⟨i, hi, rfl⟩ := List.getElem_of_mem hv
  obtain ⟨y, hy, hr⟩ := h.2 i (L[i]'(by rw [← h.1]; exact hi)) (List.getElem?_eq_getElem _)
  rw [List.getElem?_eq_getElem hi] at hy
  obtain rfl := Option.some.inj hy
  obtain ⟨_, a, c, hv, _⟩ := hr
  exact ⟨a, _, c, hv⟩

/-- v is a slice of slices that reads L -/
def RdL (B : Nat) (w : World) (v : Value) (L : List (List Nat)) : Prop := ∃ vs, RdS B 1 w v L.length vs ∧ Reads B w vs L
theorem RdL.mono {B : Nat} {w w' : World} {v : Value} {L : List (List Nat)} (h : RdL B w v L) (hb : Below B w w') : RdL B w' v L := let ⟨vs, h1, h2⟩ := h; ⟨vs, h1.mono hb, h2.mono hb⟩
theorem RdL.up {B B' : Nat} {w : World} {v : Value} {L : List (List Nat)} (h : RdL B w v L) (hb : B ≤ B') : RdL B' w v L := let ⟨vs, h1, h2⟩ := h; ⟨vs, h1.up hb, h2.up hb⟩
theorem RdL.next {w w' : World} {v : Value} {L : List (List Nat)} (h : RdL w.heap.size w v L) (hb : Below w.heap.size w w') : RdL w'.heap.size w' v L := (h.mono hb).up hb.size
/-- a slice that does not lie in block g, or is empty -/
def Apart (g : Nat) (v : Value) : Prop := ∀ ad n c, v = .slice (some ad) n c → 0 < n → ad.block ≠ g
theorem RdB.apart {B : Nat} {w : World} {v : Value} {l : List Nat} (h : RdB B w v l) {g : Nat} (hg : B ≤ g) : Apart g v := by
  intro ad n c he hn
  obtain ⟨hl, a', c', hv', _, hcell⟩ := h
  rw [he] at hv'
  simp only [Value.slice.injEq] at hv'
  obtain ⟨ha, hn', _⟩ := hv'
  obtain ⟨ad', hea, hB, _⟩ := hcell 0 _ (List.getElem?_eq_getElem (by rw [bv_length]; omega))
  rw [← ha] at hea
  obtain rfl := Option.some.inj hea
  omega
theorem own_apart {base e s : Nat} {w : World} {v : Value} {n : Nat} {xs : List Value} (h : w.ownsRow base e s v n xs) {g : Nat} (hg : g < base) : Apart g v := by
  intro ad n' c he _
  rcases h.2 with ⟨rfl, _⟩ | ⟨g', cap, cur, rfl, hb, _⟩
  · cases he
  · simp only [Value.slice.injEq, Option.some.injEq] at he
    rw [← he.1]
    show g' ≠ g
    omega
theorem RdS.grown_apart {B s : Nat} {w w' : World} {v : Value} {n : Nat} {cs : List Value} (h : RdS B s w v n cs) {r : Option Nat} (hg : w.grownBy w' r) (ha : ∀ g, r = some g → Apart g v) : RdS B s w' v n cs := by
  obtain ⟨hl, a, c, hv, hc, hr⟩ := h
  refine ⟨hl, a, c, hv, hc, fun i x hx => ?_⟩
  obtain ⟨ad, rfl, hB, hcell⟩ := hr i x hx
  have hblk : (ad.add i).block = ad.block := by unfold Addr.add; split <;> rfl
  have hn : 0 < n := by
    have hi := (List.getElem?_eq_some_iff.1 hx).1
    rw [hl] at hi
    rcases Nat.eq_zero_or_pos n with h0 | h0
    · subst h0; simp at hi
    · exact h0
  exact ⟨ad, rfl, hB, hg.cell hcell (by rw [hblk]; intro h0; exact ha _ h0.symm ad n c hv hn rfl)⟩
/-- v is a row of its own of slices that read L -/
def OwnL (base : Nat) (w : World) (v : Value) (L : List (List Nat)) : Prop :=
  ∃ vs, w.ownsRow base 28 1 v L.length vs ∧ Reads w.heap.size w vs L ∧ ∀ g, v.ownBlock = some g → ∀ y ∈ vs, Apart g y
theorem OwnL.nil (base : Nat) (w : World) : OwnL base w (.slice none 0 0) [] := ⟨[], World.ownsRow_nil _ _ _ _, Reads.nil _ _, fun g hg => by cases hg⟩
theorem OwnL.rd {base : Nat} {w : World} {v : Value} {L : List (List Nat)} (h : OwnL base w v L) : RdL w.heap.size w v L := let ⟨vs, h1, h2, _⟩ := h; ⟨vs, RdS.of_own h1, h2⟩
theorem OwnL.next {base : Nat} {w w' : World} {v : Value} {L : List (List Nat)} (h : OwnL base w v L) (hb : Below w.heap.size w w') : OwnL base w' v L := let ⟨vs, h1, h2, h3⟩ := h; ⟨vs, own_next h1 hb, h2.next hb, h3⟩
theorem OwnL.base {base base' : Nat} {w : World} {v : Value} {L : List (List Nat)} (h : OwnL base w v L) (hb : base' ≤ base) : OwnL base' w v L := let ⟨vs, h1, h2, h3⟩ := h; ⟨vs, own_base h1 hb, h2, h3⟩
theorem OwnL.block_lt {base : Nat} {w : World} {v : Value} {L : List (List Nat)} (h : OwnL base w v L) : ∀ g, v.ownBlock = some g → base ≤ g ∧ g < w.heap.size := let ⟨vs, h1, h2, h3⟩ := h; h1.lt

/-- an append onto a row, and where the new slice lies -/
theorem wpList_append_at {P : Program} {w : World} {ops : Array Oper} {rest : List Oper} {o : Oper} {a : Act} {Q : Exit → Act → World → Prop} {sO xO : Operand} {t : TypeId} (hg : Region.wanted o (yielded ops a.tmps) = true) (ho : o.op = .call { callee := .builtin .append, args := #[sO, xO], argTypes := #[t, t] })
    {base : Nat} {e : TypeId} {z : Value} {size bytes : Nat} (ht : P.underlying t = some (.slice e)) (hi : (P.info? e).map (fun i => (i.zero, i.size, i.bytes)) = some (some z, size, bytes)) (hzs : z.cells.size = size) (hsz : 0 < size)
    {v : Value} {n : Nat} {xs : List Value} (hs : a.eval sO = v) (hown : w.ownsRow base e size v n xs) {B m : Nat} {y : Value} {ys : List Value} (hx : a.eval xO = y) (h : RdS B size w y m ys) (hne : ys ≠ []) (h1 : ∀ u ∈ ys, u.oneCell' = true)
    (h63 : n + m ≤ 140737488351232) (hbytes : (n + m) * bytes ≤ 140737488355328) (hbase : base ≤ w.heap.size)
    (hK : ∀ v' w', w'.ownsRow base e size v' (n + m) (xs ++ ys) → w.grownBy w' v.ownBlock → (v'.ownBlock = v.ownBlock ∨ v'.ownBlock = some w.heap.size) → wpList P ops Q rest (a.put o.dst v') w') : wpList P ops Q (o :: rest) a w := by
  obtain ⟨i, hi', hz, hs', hb⟩ := info_parts hi
  obtain ⟨ad, c, rfl, hc, hB, hr⟩ := h.addr hne
  obtain ⟨v', w', hrun, h2, h3, _, h5⟩ := run_append_own_at (P := P) w base t o.type e i z size bytes ht hi' hz hs' hb hzs hsz v n xs hown ad m c ys h.1 hr h1 (by unfold maxLen; omega) hbytes hbase
  refine wpList_go hg fun K hK' => ?_
  unfold Oper.wp
  simp [execOp, ho, resolve, invoke, builtin, hs, hx, hrun, Result.andThen]
  exact hK' _ _ (hK v' w' h2 h3 h5)

section
variable {w : World} {ops : Array Oper} {rest : List Oper} {o : Oper} {a : Act} {Q : Exit → Act → World → Prop}
theorem wpList_lenL {x : Operand} {v : Value} {B : Nat} {L : List (List Nat)} (h : RdL B w v L)
    (hg : Region.wanted o (yielded ops a.tmps) = true) (ho : o.op = .call { callee := .builtin .len, args := #[x], argTypes := #[38] }) (hx : a.eval x = v)
    (hK : wpList Try.prog ops Q rest (a.put o.dst (.int .i64 L.length)) w) : wpList Try.prog ops Q (o :: rest) a w := by
  obtain ⟨vs, h1, h2⟩ := h
  exact wpList_len hg ho Try.underlying38 hx h1 hK
theorem wpList_indexL {x j : Operand} {v : Value} {B : Nat} {L : List (List Nat)} (h : RdL B w v L) (i : Nat) (hi : i < L.length)
    {k : IntKind} {J : Int} (hg : Region.wanted o (yielded ops a.tmps) = true) (ho : o.op = .indexAddr 38 x j) (hx : a.eval x = v) (hj : a.eval j = .int k J) (hJ : J = (i : Int))
    (hK : ∀ (p : Addr) (y : Value), p.block < B → w.cell? p = some y → RdB B w y (L.getD i []) → wpList Try.prog ops Q rest (a.put o.dst (.pointer (some p))) w) : wpList Try.prog ops Q (o :: rest) a w := by
  obtain ⟨vs, h1, h2⟩ := h
  refine wpList_index hg ho Try.underlying38 size_bs hx hj hJ h1 hi (by omega) fun p hp hc => ?_
  obtain ⟨y, hy, hr⟩ := h2.2 i _ (List.getElem?_eq_getElem hi)
  refine hK p y hp ?_ (by rw [List.getD_eq_getElem?_getD, List.getElem?_eq_getElem hi]; exact hr)
  have := hc 0 y (by omega) (by rw [Nat.mul_one, Nat.add_zero]; exact hy)
  rwa [Addr.add_zero'] at this
theorem RdL.at {B : Nat} {w : World} {v : Value} {L : List (List Nat)} (h : RdL B w v L) {k : Nat} (hk : k < L.length) :
    ∃ ad c y, v = .slice (some ad) L.length c ∧ ad.block < B ∧ w.cell? (ad.add k) = some y ∧ RdB B w y (L.getD k []) := by
  obtain ⟨vs, h1, h2⟩ := h
  obtain ⟨y, hy, hr⟩ := h2.2 k _ (List.getElem?_eq_getElem hk)
  obtain ⟨ad, c, rfl, _, hB, hcell⟩ := h1.addr (by intro h0; rw [h0] at hy; simp at hy)
  exact ⟨ad, c, y, rfl, hB, hcell k y hy, by rw [List.getD_eq_getElem?_getD, List.getElem?_eq_getElem hk]; exact hr⟩
/-- '[][]byte{y}', as what is appended: its cell is a new block -/
theorem wpList_buildL1 {parts : Array (Nat × Operand)} (y : Value) (hy : y.cells = #[y])
    (hg : Region.wanted o (yielded ops a.tmps) = true) (ho : o.op = .buildSlice 38 1 parts) (hf : (parts.toList.map fun q => (q.1, a.eval q.2)) = [(0, y)])
    (hK : ∀ g w', w.heap.size ≤ g → g < w'.heap.size → RdS w'.heap.size 1 w' (.slice (some ⟨g, 0, none⟩) 1 1) 1 [y] → Below w.heap.size w w' → wpList Try.prog ops Q rest (a.put o.dst (.slice (some ⟨g, 0, none⟩) 1 1)) w') : wpList Try.prog ops Q (o :: rest) a w :=
  wpList_buildSlice Try.underlying38 info_bs (by omega) [y].toArray hg ho (by
    rw [zeroRow_one (.slice none 0 0) 1 rfl]
    have h := fill_ones [y] [] (List.replicate 1 (.slice none 0 0)) (fun v hv => by simp at hv; subst hv; exact hy) (by simp)
    rw [Array.toList_map, hf]
    simpa using h) fun g w' h1 h2 h3 h4 => hK g w' h1 h2 (by
      have := RdS.of_row h3 (n := 1) (cap := 1) (s := 1) (by simp) (Nat.le_refl _)
      exact this.up h2) h4
/-- an append of one slice to a row of slices -/
theorem wpList_appendL {sO xO : Operand} {base : Nat} {v : Value} {L : List (List Nat)} (hown : OwnL base w v L) {B : Nat} {y u : Value} {x : List Nat} (hr : RdB w.heap.size w y x) (hap : ∀ g, v.ownBlock = some g → Apart g y) (h : RdS B 1 w u 1 [y])
    (hg : Region.wanted o (yielded ops a.tmps) = true) (ho : o.op = .call { callee := .builtin .append, args := #[sO, xO], argTypes := #[38, 38] }) (hs : a.eval sO = v) (hx : a.eval xO = u)
    (h63 : L.length ≤ 1000000) (hbase : base ≤ w.heap.size)
    (hK : ∀ v' w', OwnL base w' v' (L ++ [x]) → w.grownBy w' v.ownBlock → wpList Try.prog ops Q rest (a.put o.dst v') w') : wpList Try.prog ops Q (o :: rest) a w := by
  obtain ⟨vs, h1, h2, h3⟩ := hown
  have hys : Slices [y] := fun z hz => by
    simp at hz
    subst hz
    obtain ⟨_, ay, cy, hye, _⟩ := hr
    exact ⟨_, _, _, hye⟩
  refine wpList_append_at hg ho Try.underlying38 info_bs rfl (by omega) hs h1 hx h (by simp) hys.oneCell (by omega) (by omega) hbase fun v' w' h4 h5 h6 => ?_
  have hrd : Reads w'.heap.size w' vs L := ⟨h2.1, fun i x' hx' => by
    obtain ⟨y', hy', hr'⟩ := h2.2 i x' hx'
    exact ⟨y', hy', (RdS.grown_apart hr' h5 (fun g hg => h3 g hg y' (List.mem_of_getElem? hy'))).up h5.size⟩⟩
  refine hK v' w' ⟨vs ++ [y], by rw [List.length_append]; exact h4, hrd.snoc ((RdS.grown_apart hr h5 hap).up h5.size), fun g hg z hz => ?_⟩ h5
  rcases List.mem_append.1 hz with hz | hz
  · rcases h6 with h6 | h6
    · exact h3 g (h6 ▸ hg) z hz
    · rw [h6] at hg
      obtain rfl := Option.some.inj hg
      obtain ⟨i, hi, rfl⟩ := List.getElem_of_mem hz
      obtain ⟨y', hy', hr'⟩ := h2.2 i (L[i]'(by rw [← h2.1]; exact hi)) (List.getElem?_eq_getElem _)
      rw [List.getElem?_eq_getElem hi] at hy'
      obtain rfl := Option.some.inj hy'
      exact hr'.apart (Nat.le_refl _)
  · simp at hz
    subst hz
    rcases h6 with h6 | h6
    · exact hap g (h6 ▸ hg)
    · rw [h6] at hg
      obtain rfl := Option.some.inj hg
      exact hr.apart (Nat.le_refl _)
end
end Go.Proofs.Ytfinekmegiengaa
/- Slices of slices: the empty literal; rows out of literals; what returns a row of slices. -/
namespace Go.Proofs.Ytfinekmegiengaa
open Go.RowKit
set_option linter.unusedSimpArgs false
set_option linter.unusedVariables false
theorem blk_add (ad : Addr) (i : Nat) : (ad.add i).block = ad.block := by unfold Addr.add; split <;> rfl
theorem bcell {W w1 : World} (hb : Below W.heap.size W w1) : (∀ b o, b < W.heap.size → w1.cell? ⟨b, o, none⟩ = W.cell? ⟨b, o, none⟩) ∧ (∀ b o, b < W.heap.size → w1.frozen? ⟨b, o, none⟩ = W.frozen? ⟨b, o, none⟩) :=
  ⟨fun b o h => hb.cell (p := ⟨b, o, none⟩) h, fun b o h => hb.frozen (p := ⟨b, o, none⟩) h⟩

/-- '[][]byte{}' -/
theorem wpList_buildL0 {w : World} {ops : Array Oper} {rest : List Oper} {o : Oper} {a : Act} {Q : Exit → Act → World → Prop} {parts : Array (Nat × Operand)}
    (hg : Region.wanted o (yielded ops a.tmps) = true) (ho : o.op = .buildSlice 38 0 parts) (hp : (parts.toList.map fun q => (q.1, a.eval q.2)) = [])
    (hK : ∀ g w', w.heap.size ≤ g → g < w'.heap.size → OwnL w.heap.size w' (.slice (some ⟨g, 0, none⟩) 0 0) [] → Below w.heap.size w w' → wpList Try.prog ops Q rest (a.put o.dst (.slice (some ⟨g, 0, none⟩) 0 0)) w') : wpList Try.prog ops Q (o :: rest) a w :=
  wpList_buildSlice Try.underlying38 info_bs (by omega) #[] hg ho (by
    rw [zeroRow_one (.slice none 0 0) 0 rfl]
    have h := fill_ones [] [] [] (fun v hv => by simp at hv) rfl
    rw [Array.toList_map, hp]
    simpa using h) fun g w' h1 h2 h3 h4 => hK g w' h1 h2 ⟨[], own_of_row h3 (n := 0) rfl h1 (by unfold maxLen; omega), Reads.nil _ _, fun g _ y hy => by simp at hy⟩ h4

theorem own_row {w : World} {base e n g : Nat} {xs : List Value} (h : w.ownsRow base e 1 (.slice (some ⟨g, 0, none⟩) n n) n xs) : Row w g e xs.toArray := by
  obtain ⟨hl, h | ⟨g', cap, cur, hv, hb, hg, hn, hm, hs, ht⟩⟩ := h
  · cases h.1
  · simp only [Value.slice.injEq, Option.some.injEq, Addr.mk.injEq, true_and, and_true] at hv
    obtain ⟨rfl, rfl⟩ := hv
    rw [Nat.mul_one] at hs ht
    rw [List.take_of_length_le (by rw [Array.length_toList, hs]; exact Nat.le_refl _)] at ht
    rw [← ht]
    exact hg
theorem below_ownL {B base : Nat} {w w' : World} {v : Value} {L : List (List Nat)} (hg : w.grownBy w' v.ownBlock) (hown : OwnL base w v L) (hB : B ≤ base) (hw : B ≤ w.heap.size) : Below B w w' :=
  let ⟨_, h1, _⟩ := hown; below_own hg h1 hB hw
theorem take_succ_getL {α : Type} (l : List α) (k : Nat) (d : α) (h : k < l.length) : l.take (k + 1) = l.take k ++ [l.getD k d] := by
  rw [List.take_succ_eq_append_getElem h]
  simp [List.getElem?_eq_getElem h]
theorem getD_take {α : Type} (l : List α) (k j : Nat) (d : α) (h : j < k) : (l.take k).getD j d = l.getD j d := by
  rw [List.getD_eq_getElem?_getD, List.getElem?_take, if_pos h, List.getD_eq_getElem?_getD]
/-- it returns a row of its own of slices that read L -/
def RetL (L : List (List Nat)) (w : World) (e : Ending) (w' : World) : Prop := ∃ v', e = .returned v' ∧ OwnL w.heap.size w' v' L ∧ Below w.heap.size w w'
end Go.Proofs.Ytfinekmegiengaa
