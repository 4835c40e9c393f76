/- Lists of bytes and words as cells; rows that are filled one by one; what returns a slice of its own. -/
import Derived.Test.YtfinekmegiengaaMem2
namespace Go.Proofs.Ytfinekmegiengaa
open Go.RowKit
set_option linter.unusedSimpArgs false
set_option linter.unusedVariables false

def bv (l : List Nat) : List Value := l.map fun x : Nat => Value.int .u8 (x : Int)
def wv (l : List Nat) : List Value := l.map fun x : Nat => Value.int .u32 (x : Int)
@[simp] theorem bv_length (l : List Nat) : (bv l).length = l.length := by simp [bv]
@[simp] theorem wv_length (l : List Nat) : (wv l).length = l.length := by simp [wv]
theorem bv_get (l : List Nat) (i : Nat) (h : i < l.length) : (bv l)[i]? = some (.int .u8 ((l.getD i 0 : Nat) : Int)) := by
  simp [bv, List.getElem?_eq_getElem h]
theorem wv_get (l : List Nat) (i : Nat) (h : i < l.length) : (wv l)[i]? = some (.int .u32 ((l.getD i 0 : Nat) : Int)) := by
  simp [wv, List.getElem?_eq_getElem h]
theorem bv_append (a b : List Nat) : bv (a ++ b) = bv a ++ bv b := by simp [bv]
theorem wv_append (a b : List Nat) : wv (a ++ b) = wv a ++ wv b := by simp [wv]
theorem bv_take (l : List Nat) (n : Nat) : (bv l).take n = bv (l.take n) := by simp [bv, List.map_take]
theorem bv_drop (l : List Nat) (n : Nat) : (bv l).drop n = bv (l.drop n) := by simp [bv, List.map_drop]
theorem wv_take (l : List Nat) (n : Nat) : (wv l).take n = wv (l.take n) := by simp [wv, List.map_take]
theorem wv_drop (l : List Nat) (n : Nat) : (wv l).drop n = wv (l.drop n) := by simp [wv, List.map_drop]
theorem bv_oneCell (l : List Nat) : ∀ u ∈ bv l, u.oneCell' = true := by
  intro u hu
  simp only [bv, List.mem_map] at hu
  obtain ⟨x, _, rfl⟩ := hu
  rfl
theorem wv_oneCell (l : List Nat) : ∀ u ∈ wv l, u.oneCell' = true := by
  intro u hu
  simp only [wv, List.mem_map] at hu
  obtain ⟨x, _, rfl⟩ := hu
  rfl
theorem bv_all (l : List Nat) : (bv l).toArray.all (·.oneCell') = true := by
  rw [Array.all_eq_true_iff_forall_mem]
  intro u hu
  exact bv_oneCell l u (by simpa using hu)

/-- all numbers of a list are bytes -/
def Bytes (l : List Nat) : Prop := ∀ x ∈ l, x < 256
theorem Bytes.get {l : List Nat} (h : Bytes l) (i : Nat) : l.getD i 0 < 256 := by
  by_cases hi : i < l.length
  · rw [List.getD_eq_getElem?_getD, List.getElem?_eq_getElem hi]
    exact h _ (List.getElem_mem hi)
  · rw [List.getD_eq_getElem?_getD, List.getElem?_eq_none (by omega)]
    decide
theorem Bytes.append {a b : List Nat} (ha : Bytes a) (hb : Bytes b) : Bytes (a ++ b) := fun x hx => (List.mem_append.1 hx).elim (ha x) (hb x)
theorem Bytes.take {a : List Nat} (ha : Bytes a) (n : Nat) : Bytes (a.take n) := fun x hx => ha x (List.mem_of_mem_take hx)
theorem Bytes.drop {a : List Nat} (ha : Bytes a) (n : Nat) : Bytes (a.drop n) := fun x hx => ha x (List.mem_of_mem_drop hx)

/-- the first k of ys, then zs from k on -/
def fillR {α : Type} (ys zs : List α) (k : Nat) : List α := ys.take k ++ zs.drop k
theorem fillR_zero {α : Type} (ys zs : List α) : fillR ys zs 0 = zs := by simp [fillR]
theorem fillR_length {α : Type} (ys zs : List α) (k : Nat) (h : ys.length = zs.length) : (fillR ys zs k).length = zs.length := by
  simp [fillR]; omega
theorem fillR_full {α : Type} (ys zs : List α) (k : Nat) (h : ys.length = zs.length) (hk : zs.length ≤ k) : fillR ys zs k = ys := by
  unfold fillR
  rw [List.take_of_length_le (by omega), List.drop_eq_nil_of_le hk, List.append_nil]
theorem fillR_set {α : Type} (ys zs : List α) (k : Nat) (h : ys.length = zs.length) (y : α) (hy : ys[k]? = some y) : (fillR ys zs k).set k y = fillR ys zs (k + 1) := by
  obtain ⟨hk, e⟩ := List.getElem?_eq_some_iff.1 hy
  apply List.ext_getElem?
  intro j
  unfold fillR
  rw [List.getElem?_set]
  by_cases hj : k = j
  · subst hj
    rw [if_pos rfl, if_pos (by simp; omega)]
    rw [List.getElem?_append_left (by simp; omega), List.getElem?_take, if_pos (by omega), hy]
  · rw [if_neg hj]
    by_cases hlt : j < k
    · rw [List.getElem?_append_left (by simp; omega), List.getElem?_append_left (by simp; omega), List.getElem?_take, List.getElem?_take, if_pos hlt, if_pos (by omega)]
    · rw [List.getElem?_append_right (by simp; omega), List.getElem?_append_right (by simp; omega), List.getElem?_drop, List.getElem?_drop]
      congr 1
      simp
      omega
theorem fillR_get {α : Type} (ys zs : List α) (k j : Nat) (h : ys.length = zs.length) (hkj : k ≤ j) (hk : k ≤ zs.length) : (fillR ys zs k)[j]? = zs[j]? := by
  unfold fillR
  rw [List.getElem?_append_right (by simp; omega), List.getElem?_drop]
  congr 1
  simp
  omega

/-- it returns a slice of its own with these bytes; what was there is as it was -/
def RetS (ys : List Nat) (w : World) (e : Ending) (w' : World) : Prop :=
  ∃ v', e = .returned v' ∧ w'.ownsRow w.heap.size 5 1 v' ys.length (bv ys) ∧ Below w.heap.size w w'

theorem own_of_row {w : World} {g : Nat} {t : TypeId} {c : Array Value} (h : Row w g t c) {base n : Nat} (hn : c.size = n) (hb : base ≤ g) (hm : n ≤ maxLen) : w.ownsRow base t 1 (.slice (some ⟨g, 0, none⟩) n n) n c.toList :=
  ⟨by simp [hn], .inr ⟨g, n, c, rfl, hb, h, Nat.le_refl _, hm, by omega, by rw [List.take_of_length_le (by simp; omega)]⟩⟩

theorem info_u8 : (Try.prog.info? 5).map (fun i => (i.zero, i.size, i.bytes)) = some (some (.int .u8 0), 1, 1) := by kernel_rfl
theorem size_u8 : (Try.prog.info? 5).map (·.size) = some 1 := by kernel_rfl
theorem info_u32 : (Try.prog.info? 25).map (fun i => (i.zero, i.size, i.bytes)) = some (some (.int .u32 0), 1, 4) := by kernel_rfl
theorem size_u32 : (Try.prog.info? 25).map (·.size) = some 1 := by kernel_rfl

theorem World.alloc_size' (w : World) (o : Obj) : (w.alloc o).heap.size = w.heap.size + 1 := by show (w.heap.push o).size = _; simp

/-- 'make([]byte, n)' -/
theorem wpList_makeBytes {w : World} {ops : Array Oper} {rest : List Oper} {o : Oper} {a : Act} {Q : Exit → Act → World → Prop} {x : Operand} {k : IntKind} {N : Int} {n : Nat} (hg : Region.wanted o (yielded ops a.tmps) = true) (ho : o.op = .makeSlice 28 x x)
    (hx : a.eval x = .int k N) (hN : N = (n : Int)) (hn : n ≤ 140737488351232)
    (hK : ∀ g w', w.heap.size ≤ g → g < w'.heap.size → Row w' g 5 (bv (List.replicate n 0)).toArray → Below w.heap.size w w' →
      wpList Try.prog ops Q rest (a.put o.dst (.slice (some ⟨g, 0, none⟩) n n)) w') : wpList Try.prog ops Q (o :: rest) a w := by
  obtain ⟨i, hi, hz, hs, hb⟩ := info_parts info_u8
  subst hN
  refine wpList_go hg fun K hK' => ?_
  have hrun := run_make (P := Try.prog) w 28 5 i _ Try.underlying28 hi hz k k (n : Int) (n : Int) (by omega) (by omega) (by rw [hb]; omega) (by omega)
  have hcells : madeCells (Value.int .u8 0).cells ((n : Int).toNat * i.size) = (bv (List.replicate n 0)).toArray := by
    rw [hs, Nat.mul_one, Int.toNat_natCast]
    apply Array.ext'
    rw [show (Value.int .u8 0).cells = #[Value.int .u8 0] from rfl, toList_madeCells_one]
    simp [bv]
  rw [hcells, Int.toNat_natCast] at hrun
  unfold Oper.wp
  simp only [execOp, ho, hx, Sem.run_bind, hrun, Result.andThen_ok, Sem.run_pure]
  exact hK' _ _ (hK _ _ (Nat.le_refl _) (by simp [World.alloc_size']) (Row.new _ _ _) ((Below.refl _ _).alloc (Nat.le_refl _) _))

/-- v is a slice of bytes that reads l, in blocks below B -/
def RdB (B : Nat) (w : World) (v : Value) (l : List Nat) : Prop := RdS B 1 w v l.length (bv l)
theorem RdB.mono {B : Nat} {w w' : World} {v : Value} {l : List Nat} (h : RdB B w v l) (hb : Below B w w') : RdB B w' v l := RdS.mono h hb
theorem RdB.up {B B' : Nat} {w : World} {v : Value} {l : List Nat} (h : RdB B w v l) (hB : B ≤ B') : RdB B' w v l := RdS.up h hB
theorem RdB.next {w w' : World} {v : Value} {l : List Nat} (h : RdB w.heap.size w v l) (hb : Below w.heap.size w w') : RdB w'.heap.size w' v l := RdS.next h hb
theorem RdB.of_own {base : Nat} {w : World} {v : Value} {l : List Nat} (h : w.ownsRow base 5 1 v l.length (bv l)) : RdB w.heap.size w v l := RdS.of_own h
theorem RdB.alloc {w : World} {v : Value} {l : List Nat} (h : RdB w.heap.size w v l) (o : Obj) : RdB w.heap.size (w.alloc o) v l := h.mono ((Below.refl _ _).alloc (Nat.le_refl _) o)

theorem wpList_lenB {w : World} {ops : Array Oper} {rest : List Oper} {o : Oper} {a : Act} {Q : Exit → Act → World → Prop} {x : Operand} {v : Value} {B : Nat} {l : List Nat} (h : RdB B w v l)
    (hg : Region.wanted o (yielded ops a.tmps) = true) (ho : o.op = .call { callee := .builtin .len, args := #[x], argTypes := #[28] }) (hx : a.eval x = v) (hK : wpList Try.prog ops Q rest (a.put o.dst (.int .i64 (l.length : Int))) w) : wpList Try.prog ops Q (o :: rest) a w :=
  wpList_len hg ho Try.underlying28 hx h hK

theorem wpList_indexB {w : World} {ops : Array Oper} {rest : List Oper} {o : Oper} {a : Act} {Q : Exit → Act → World → Prop} {x j : Operand} {v : Value} {B : Nat} {l : List Nat} (h : RdB B w v l) (i : Nat) (hi : i < l.length)
    {k : IntKind} {J : Int} (hg : Region.wanted o (yielded ops a.tmps) = true) (ho : o.op = .indexAddr 28 x j) (hx : a.eval x = v) (hj : a.eval j = .int k J) (hJ : J = (i : Int))
    (hK : ∀ p : Addr, p.block < B → w.cell? p = some (.int .u8 ((l.getD i 0 : Nat) : Int)) → wpList Try.prog ops Q rest (a.put o.dst (.pointer (some p))) w) : wpList Try.prog ops Q (o :: rest) a w :=
  wpList_index hg ho Try.underlying28 size_u8 hx hj hJ h hi (by omega) fun p hp hc => hK p hp (by
    have := hc 0 _ (by omega) (by rw [Nat.mul_one, Nat.add_zero]; exact bv_get l i hi)
    rwa [Addr.add_zero'] at this)

theorem wpList_cutB {w : World} {ops : Array Oper} {rest : List Oper} {o : Oper} {a : Act} {Q : Exit → Act → World → Prop} {x : Operand} {lo hi mx : Option Operand} {v : Value} {B : Nat} {l : List Nat} (h : RdB B w v l) (L H : Nat)
    (hg : Region.wanted o (yielded ops a.tmps) = true) (ho : o.op = .slice 28 x lo hi mx) (hx : a.eval x = v)
    (hlo : (lo.map a.eval = none ∧ L = 0) ∨ ∃ k N, lo.map a.eval = some (.int k N) ∧ N = (L : Int)) (hhi : (hi.map a.eval = none ∧ mx.map a.eval = none ∧ H = l.length) ∨ ∃ k N, hi.map a.eval = some (.int k N) ∧ N = (H : Int))
    (hmx : mx.map a.eval = none ∨ ∃ k N M, mx.map a.eval = some (.int k N) ∧ N = ((M : Nat) : Int) ∧ H ≤ M ∧ M ≤ l.length) (hLH : L ≤ H) (hHn : H ≤ l.length)
    (hK : ∀ v', RdB B w v' ((l.drop L).take (H - L)) → wpList Try.prog ops Q rest (a.put o.dst v') w) : wpList Try.prog ops Q (o :: rest) a w :=
  wpList_cut hg ho Try.underlying28 size_u8 hx h L H hlo hhi hmx hLH hHn fun v' hr => hK v' (by
    unfold RdB
    rw [Nat.mul_one, Nat.mul_one, bv_drop, bv_take] at hr
    have hl : ((l.drop L).take (H - L)).length = H - L := by rw [List.length_take, List.length_drop]; omega
    rw [hl]
    exact hr)

theorem wpList_appendB {w : World} {ops : Array Oper} {rest : List Oper} {o : Oper} {a : Act} {Q : Exit → Act → World → Prop} {sO xO : Operand} {base : Nat} {v : Value} {xs : List Nat} (hown : w.ownsRow base 5 1 v xs.length (bv xs)) {B : Nat} {y : Value} {ys : List Nat} (h : RdB B w y ys)
    (hg : Region.wanted o (yielded ops a.tmps) = true) (ho : o.op = .call { callee := .builtin .append, args := #[sO, xO], argTypes := #[28, 28] }) (hs : a.eval sO = v) (hx : a.eval xO = y)
    (h63 : xs.length + ys.length ≤ 140737488351232) (hbase : base ≤ w.heap.size)
    (hK : ∀ v' w', w'.ownsRow base 5 1 v' (xs ++ ys).length (bv (xs ++ ys)) → w.grownBy w' v.ownBlock → wpList Try.prog ops Q rest (a.put o.dst v') w') : wpList Try.prog ops Q (o :: rest) a w :=
  wpList_append hg ho Try.underlying28 info_u8 rfl (by omega) hs hown hx h (bv_oneCell ys) h63 (by omega) hbase fun v' w' h1 h2 => hK v' w' (by rwa [List.length_append, bv_append]) h2

/-- block g is a row, its first k cells ys's, the others zs's -/
structure FillRow (w : World) (g : Nat) (t : TypeId) (ys zs : List Value) (k : Nat) : Prop where
  row : Row w g t (fillR ys zs k).toArray
  len : ys.length = zs.length
theorem FillRow.start {w : World} {g : Nat} {t : TypeId} {ys zs : List Value} (h : Row w g t zs.toArray) (hl : ys.length = zs.length) : FillRow w g t ys zs 0 := ⟨by rw [fillR_zero]; exact h, hl⟩
theorem FillRow.mono {B : Nat} {w w' : World} {g : Nat} {t : TypeId} {ys zs : List Value} {k : Nat} (h : FillRow w g t ys zs k) (hb : Below B w w') (hg : g < B) : FillRow w' g t ys zs k := ⟨h.row.mono hb hg, h.len⟩
theorem FillRow.next {w w' : World} {g : Nat} {t : TypeId} {ys zs : List Value} {k : Nat} (h : FillRow w g t ys zs k) (hb : Below w.heap.size w w') : FillRow w' g t ys zs k := ⟨h.row.next hb, h.len⟩
theorem FillRow.lt {w : World} {g : Nat} {t : TypeId} {ys zs : List Value} {k : Nat} (h : FillRow w g t ys zs k) : g < w.heap.size := h.row.lt
theorem FillRow.free {w : World} {g : Nat} {t : TypeId} {ys zs : List Value} {k : Nat} (h : FillRow w g t ys zs k) (i : Nat) : w.frozen? ⟨g, i, none⟩ = false := h.row.free i
theorem FillRow.cell {w : World} {g : Nat} {t : TypeId} {ys zs : List Value} {k : Nat} (h : FillRow w g t ys zs k) (hk : k < zs.length) : w.cell? ⟨g, k, none⟩ = some (zs.getD k undef) := by
  refine h.row.cell ?_
  rw [List.getElem?_toArray, fillR_get _ _ _ _ h.len (Nat.le_refl _) (by omega)]
  simp [List.getElem?_eq_getElem hk]
theorem FillRow.put {w : World} {g : Nat} {t : TypeId} {ys zs : List Value} {k : Nat} (h : FillRow w g t ys zs k) {y : Value} (hy : ys[k]? = some y) : FillRow (w.setCell ⟨g, k, none⟩ y) g t ys zs (k + 1) := by
  refine ⟨?_, h.len⟩
  have := h.row.set k y
  rwa [List.setIfInBounds_toArray, fillR_set _ _ _ h.len _ hy] at this
theorem FillRow.done {w : World} {g : Nat} {t : TypeId} {ys zs : List Value} {k : Nat} (h : FillRow w g t ys zs k) (hk : zs.length ≤ k) : Row w g t ys.toArray := by
  have := h.row
  rwa [fillR_full _ _ _ h.len hk] at this
theorem RetS.of_row {ys : List Nat} {w w' : World} {g : Nat} (h : Row w' g 5 (bv ys).toArray) (hg : w.heap.size ≤ g) (hb : Below w.heap.size w w') (hn : ys.length ≤ 140737488351232) {n : Nat} (hl : n = ys.length) :
    RetS ys w (.returned (.slice (some ⟨g, 0, none⟩) n n)) w' := by
  subst hl
  refine ⟨_, rfl, ?_, hb⟩
  exact own_of_row h (by simp) hg (by unfold maxLen; omega)

end Go.Proofs.Ytfinekmegiengaa
