/- Slices of ints, as slices of bytes. -/
import Derived.Test.YtfinekmegiengaaMemA
namespace Go.Proofs.Ytfinekmegiengaa
open Go.RowKit
set_option linter.unusedSimpArgs false
set_option linter.unusedVariables false

def iv (l : List Int) : List Value := l.map fun x : Int => Value.int .i64 x
@[simp] theorem iv_length (l : List Int) : (iv l).length = l.length := by simp [iv]
theorem iv_get (l : List Int) (i : Nat) (h : i < l.length) : (iv l)[i]? = some (.int .i64 (l.getD i 0)) := by
  simp [iv, List.getElem?_eq_getElem h]
theorem iv_append (a b : List Int) : iv (a ++ b) = iv a ++ iv b := by simp [iv]
theorem iv_take (l : List Int) (n : Nat) : (iv l).take n = iv (l.take n) := by simp [iv, List.map_take]
theorem iv_drop (l : List Int) (n : Nat) : (iv l).drop n = iv (l.drop n) := by simp [iv, List.map_drop]
theorem iv_oneCell (l : List Int) : ∀ u ∈ iv l, u.oneCell' = true := by
  intro u hu
  simp only [iv, List.mem_map] at hu
  obtain ⟨x, _, rfl⟩ := hu
  rfl
theorem info_i64 : (Try.prog.info? 3).map (fun i => (i.zero, i.size, i.bytes)) = some (some (.int .i64 0), 1, 8) := by kernel_rfl
theorem size_i64 : (Try.prog.info? 3).map (·.size) = some 1 := by kernel_rfl

/-- v is a slice of ints that reads l, in blocks below B -/
def RdI (B : Nat) (w : World) (v : Value) (l : List Int) : Prop := RdS B 1 w v l.length (iv l)
theorem RdI.mono {B : Nat} {w w' : World} {v : Value} {l : List Int} (h : RdI B w v l) (hb : Below B w w') : RdI B w' v l := RdS.mono h hb
theorem RdI.up {B B' : Nat} {w : World} {v : Value} {l : List Int} (h : RdI B w v l) (hB : B ≤ B') : RdI B' w v l := RdS.up h hB
theorem RdI.next {w w' : World} {v : Value} {l : List Int} (h : RdI w.heap.size w v l) (hb : Below w.heap.size w w') : RdI w'.heap.size w' v l := RdS.next h hb
theorem RdI.of_own {base : Nat} {w : World} {v : Value} {l : List Int} (h : w.ownsRow base 3 1 v l.length (iv l)) : RdI w.heap.size w v l := RdS.of_own h
theorem wpList_lenI {w : World} {ops : Array Oper} {rest : List Oper} {o : Oper} {a : Act} {Q : Exit → Act → World → Prop} {x : Operand} {v : Value} {B : Nat} {l : List Int} (h : RdI B w v l)
    (hg : Region.wanted o (yielded ops a.tmps) = true) (ho : o.op = .call { callee := .builtin .len, args := #[x], argTypes := #[105] }) (hx : a.eval x = v) (hK : wpList Try.prog ops Q rest (a.put o.dst (.int .i64 (l.length : Int))) w) : wpList Try.prog ops Q (o :: rest) a w :=
  wpList_len hg ho Try.underlying105 hx h hK

theorem wpList_indexI {w : World} {ops : Array Oper} {rest : List Oper} {o : Oper} {a : Act} {Q : Exit → Act → World → Prop} {x j : Operand} {v : Value} {B : Nat} {l : List Int} (h : RdI B w v l) (i : Nat) (hi : i < l.length)
    {k : IntKind} {J : Int} (hg : Region.wanted o (yielded ops a.tmps) = true) (ho : o.op = .indexAddr 105 x j) (hx : a.eval x = v) (hj : a.eval j = .int k J) (hJ : J = (i : Int))
    (hK : ∀ p : Addr, p.block < B → w.cell? p = some (.int .i64 (l.getD i 0)) → wpList Try.prog ops Q rest (a.put o.dst (.pointer (some p))) w) : wpList Try.prog ops Q (o :: rest) a w :=
  wpList_index hg ho Try.underlying105 size_i64 hx hj hJ h hi (by omega) fun p hp hc => hK p hp (by
    have := hc 0 _ (by omega) (by rw [Nat.mul_one, Nat.add_zero]; exact iv_get l i hi)
    rwa [Addr.add_zero'] at this)

theorem wpList_cutI {w : World} {ops : Array Oper} {rest : List Oper} {o : Oper} {a : Act} {Q : Exit → Act → World → Prop} {x : Operand} {lo hi mx : Option Operand} {v : Value} {B : Nat} {l : List Int} (h : RdI B w v l) (L H : Nat)
    (hg : Region.wanted o (yielded ops a.tmps) = true) (ho : o.op = .slice 105 x lo hi mx) (hx : a.eval x = v)
    (hlo : (lo.map a.eval = none ∧ L = 0) ∨ ∃ k N, lo.map a.eval = some (.int k N) ∧ N = (L : Int)) (hhi : (hi.map a.eval = none ∧ mx.map a.eval = none ∧ H = l.length) ∨ ∃ k N, hi.map a.eval = some (.int k N) ∧ N = (H : Int))
    (hmx : mx.map a.eval = none ∨ ∃ k N M, mx.map a.eval = some (.int k N) ∧ N = ((M : Nat) : Int) ∧ H ≤ M ∧ M ≤ l.length) (hLH : L ≤ H) (hHn : H ≤ l.length)
    (hK : ∀ v', RdI B w v' ((l.drop L).take (H - L)) → wpList Try.prog ops Q rest (a.put o.dst v') w) : wpList Try.prog ops Q (o :: rest) a w :=
  wpList_cut hg ho Try.underlying105 size_i64 hx h L H hlo hhi hmx hLH hHn fun v' hr => hK v' (by
    unfold RdI
    rw [Nat.mul_one, Nat.mul_one, iv_drop, iv_take] at hr
    have hl : ((l.drop L).take (H - L)).length = H - L := by rw [List.length_take, List.length_drop]; omega
    rw [hl]
    exact hr)

theorem wpList_appendI {w : World} {ops : Array Oper} {rest : List Oper} {o : Oper} {a : Act} {Q : Exit → Act → World → Prop} {sO xO : Operand} {base : Nat} {v : Value} {xs : List Int} (hown : w.ownsRow base 3 1 v xs.length (iv xs)) {B : Nat} {y : Value} {ys : List Int} (h : RdI B w y ys)
    (hg : Region.wanted o (yielded ops a.tmps) = true) (ho : o.op = .call { callee := .builtin .append, args := #[sO, xO], argTypes := #[105, 105] }) (hs : a.eval sO = v) (hx : a.eval xO = y)
    (h63 : xs.length + ys.length ≤ 17592186044000) (hbase : base ≤ w.heap.size)
    (hK : ∀ v' w', w'.ownsRow base 3 1 v' (xs ++ ys).length (iv (xs ++ ys)) → w.grownBy w' v.ownBlock → wpList Try.prog ops Q rest (a.put o.dst v') w') : wpList Try.prog ops Q (o :: rest) a w :=
  wpList_append hg ho Try.underlying105 info_i64 rfl (by omega) hs hown hx h (iv_oneCell ys) (by omega) (by omega) hbase fun v' w' h1 h2 => hK v' w' (by rwa [List.length_append, iv_append]) h2

theorem wpList_buildI {w : World} {ops : Array Oper} {rest : List Oper} {o : Oper} {a : Act} {Q : Exit → Act → World → Prop} {parts : Array (Nat × Operand)} (l : List Int) (hn : l.length ≤ 1000)
    (hg : Region.wanted o (yielded ops a.tmps) = true) (ho : o.op = .buildSlice 105 l.length parts)
    (hf : (parts.toList.map fun q => (q.1, a.eval q.2)) = ((iv l).zipIdx 0).map fun q => (q.2, q.1))
    (hK : ∀ g w', w.heap.size ≤ g → g < w'.heap.size → w'.ownsRow w.heap.size 3 1 (.slice (some ⟨g, 0, none⟩) l.length l.length) l.length (iv l) → Below w.heap.size w w' → wpList Try.prog ops Q rest (a.put o.dst (.slice (some ⟨g, 0, none⟩) l.length l.length)) w') : wpList Try.prog ops Q (o :: rest) a w :=
  wpList_buildSlice Try.underlying105 info_i64 (by omega) (iv l).toArray hg ho (by
    rw [zeroRow_one (.int .i64 0) l.length rfl]
    have h := fill_ones (iv l) [] (List.replicate l.length (.int .i64 0)) (fun v hv => by
      simp only [iv, List.mem_map] at hv
      obtain ⟨x, _, rfl⟩ := hv
      rfl) (by simp)
    rw [List.nil_append, List.length_nil, ← hf] at h
    rw [Array.toList_map]
    exact h) fun g w' h1 h2 h3 h4 => hK g w' h1 h2 (by
    have := own_of_row h3 (n := l.length) (by simp) h1 (by unfold maxLen; omega)
    simpa using this) h4

theorem RdI.at {B : Nat} {w : World} {v : Value} {l : List Int} (h : RdI B w v l) {k : Nat} (hk : k < l.length) :
    ∃ ad c, v = .slice (some ad) l.length c ∧ ad.block < B ∧ (ad.add k).block = ad.block ∧ w.cell? (ad.add k) = some (.int .i64 (l.getD k 0)) := by
  obtain ⟨ad, c, hv, _, hB, hr⟩ := RdS.addr h (by intro h0; have := iv_length l; rw [h0] at this; simp at this; omega)
  exact ⟨ad, c, hv, hB, by unfold Addr.add; split <;> rfl, hr k _ (iv_get l k hk)⟩


theorem own_of_rowI {w : World} {g : Nat} {l : List Int} (h : Row w g 3 (iv l).toArray) {base n : Nat} (hn : n = l.length) (hb : base ≤ g) (hm : n ≤ maxLen) : w.ownsRow base 3 1 (.slice (some ⟨g, 0, none⟩) n n) l.length (iv l) := by
  have := own_of_row h (n := n) (by simp [hn]) hb hm
  subst hn
  simpa using this
end Go.Proofs.Ytfinekmegiengaa
