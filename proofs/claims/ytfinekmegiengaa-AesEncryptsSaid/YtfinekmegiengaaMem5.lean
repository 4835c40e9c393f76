/- Slices of words, as slices of bytes in Mem3 and Mem4. -/
import Derived.Test.YtfinekmegiengaaMem4
namespace Go.Proofs.Ytfinekmegiengaa
open Go.RowKit
set_option linter.unusedSimpArgs false
set_option linter.unusedVariables false

/-- v is a slice of words that reads l, in blocks below B -/
def RdW (B : Nat) (w : World) (v : Value) (l : List Nat) : Prop := RdS B 1 w v l.length (wv l)
theorem RdW.mono {B : Nat} {w w' : World} {v : Value} {l : List Nat} (h : RdW B w v l) (hb : Below B w w') : RdW B w' v l := RdS.mono h hb
theorem RdW.up {B B' : Nat} {w : World} {v : Value} {l : List Nat} (h : RdW B w v l) (hB : B ≤ B') : RdW B' w v l := RdS.up h hB
theorem RdW.next {w w' : World} {v : Value} {l : List Nat} (h : RdW w.heap.size w v l) (hb : Below w.heap.size w w') : RdW w'.heap.size w' v l := RdS.next h hb
theorem RdW.of_own {base : Nat} {w : World} {v : Value} {l : List Nat} (h : w.ownsRow base 25 1 v l.length (wv l)) : RdW w.heap.size w v l := RdS.of_own h
theorem wpList_lenW {w : World} {ops : Array Oper} {rest : List Oper} {o : Oper} {a : Act} {Q : Exit → Act → World → Prop} {x : Operand} {v : Value} {B : Nat} {l : List Nat} (h : RdW B w v l)
    (hg : Region.wanted o (yielded ops a.tmps) = true) (ho : o.op = .call { callee := .builtin .len, args := #[x], argTypes := #[31] }) (hx : a.eval x = v) (hK : wpList Try.prog ops Q rest (a.put o.dst (.int .i64 (l.length : Int))) w) : wpList Try.prog ops Q (o :: rest) a w :=
  wpList_len hg ho Try.underlying31 hx h hK

theorem wpList_indexW {w : World} {ops : Array Oper} {rest : List Oper} {o : Oper} {a : Act} {Q : Exit → Act → World → Prop} {x j : Operand} {v : Value} {B : Nat} {l : List Nat} (h : RdW B w v l) (i : Nat) (hi : i < l.length)
    {k : IntKind} {J : Int} (hg : Region.wanted o (yielded ops a.tmps) = true) (ho : o.op = .indexAddr 31 x j) (hx : a.eval x = v) (hj : a.eval j = .int k J) (hJ : J = (i : Int))
    (hK : ∀ p : Addr, p.block < B → w.cell? p = some (.int .u32 ((l.getD i 0 : Nat) : Int)) → wpList Try.prog ops Q rest (a.put o.dst (.pointer (some p))) w) : wpList Try.prog ops Q (o :: rest) a w :=
  wpList_index hg ho Try.underlying31 size_u32 hx hj hJ h hi (by omega) fun p hp hc => hK p hp (by
    have := hc 0 _ (by omega) (by rw [Nat.mul_one, Nat.add_zero]; exact wv_get l i hi)
    rwa [Addr.add_zero'] at this)

theorem wpList_cutW {w : World} {ops : Array Oper} {rest : List Oper} {o : Oper} {a : Act} {Q : Exit → Act → World → Prop} {x : Operand} {lo hi mx : Option Operand} {v : Value} {B : Nat} {l : List Nat} (h : RdW B w v l) (L H : Nat)
    (hg : Region.wanted o (yielded ops a.tmps) = true) (ho : o.op = .slice 31 x lo hi mx) (hx : a.eval x = v)
    (hlo : (lo.map a.eval = none ∧ L = 0) ∨ ∃ k N, lo.map a.eval = some (.int k N) ∧ N = (L : Int)) (hhi : (hi.map a.eval = none ∧ mx.map a.eval = none ∧ H = l.length) ∨ ∃ k N, hi.map a.eval = some (.int k N) ∧ N = (H : Int))
    (hmx : mx.map a.eval = none ∨ ∃ k N M, mx.map a.eval = some (.int k N) ∧ N = ((M : Nat) : Int) ∧ H ≤ M ∧ M ≤ l.length) (hLH : L ≤ H) (hHn : H ≤ l.length)
    (hK : ∀ v', RdW B w v' ((l.drop L).take (H - L)) → wpList Try.prog ops Q rest (a.put o.dst v') w) : wpList Try.prog ops Q (o :: rest) a w :=
  wpList_cut hg ho Try.underlying31 size_u32 hx h L H hlo hhi hmx hLH hHn fun v' hr => hK v' (by
    unfold RdW
    rw [Nat.mul_one, Nat.mul_one, wv_drop, wv_take] at hr
    have hl : ((l.drop L).take (H - L)).length = H - L := by rw [List.length_take, List.length_drop]; omega
    rw [hl]
    exact hr)

theorem wpList_appendW {w : World} {ops : Array Oper} {rest : List Oper} {o : Oper} {a : Act} {Q : Exit → Act → World → Prop} {sO xO : Operand} {base : Nat} {v : Value} {xs : List Nat} (hown : w.ownsRow base 25 1 v xs.length (wv xs)) {B : Nat} {y : Value} {ys : List Nat} (h : RdW B w y ys)
    (hg : Region.wanted o (yielded ops a.tmps) = true) (ho : o.op = .call { callee := .builtin .append, args := #[sO, xO], argTypes := #[31, 31] }) (hs : a.eval sO = v) (hx : a.eval xO = y)
    (h63 : xs.length + ys.length ≤ 35184372087808) (hbase : base ≤ w.heap.size)
    (hK : ∀ v' w', w'.ownsRow base 25 1 v' (xs ++ ys).length (wv (xs ++ ys)) → w.grownBy w' v.ownBlock → wpList Try.prog ops Q rest (a.put o.dst v') w') : wpList Try.prog ops Q (o :: rest) a w :=
  wpList_append hg ho Try.underlying31 info_u32 rfl (by omega) hs hown hx h (wv_oneCell ys) (by omega) (by omega) hbase fun v' w' h1 h2 => hK v' w' (by rwa [List.length_append, wv_append]) h2

theorem wpList_buildW {w : World} {ops : Array Oper} {rest : List Oper} {o : Oper} {a : Act} {Q : Exit → Act → World → Prop} {parts : Array (Nat × Operand)} (l : List Nat) (hn : l.length ≤ 1000)
    (hg : Region.wanted o (yielded ops a.tmps) = true) (ho : o.op = .buildSlice 31 l.length parts)
    (hf : (parts.toList.map fun q => (q.1, a.eval q.2)) = ((wv l).zipIdx 0).map fun q => (q.2, q.1))
    (hK : ∀ g w', w.heap.size ≤ g → g < w'.heap.size → w'.ownsRow w.heap.size 25 1 (.slice (some ⟨g, 0, none⟩) l.length l.length) l.length (wv l) → Below w.heap.size w w' → wpList Try.prog ops Q rest (a.put o.dst (.slice (some ⟨g, 0, none⟩) l.length l.length)) w') : wpList Try.prog ops Q (o :: rest) a w :=
  wpList_buildSlice Try.underlying31 info_u32 (by omega) (wv l).toArray hg ho (by
    rw [zeroRow_one (.int .u32 0) l.length rfl]
    have h := fill_ones (wv l) [] (List.replicate l.length (.int .u32 0)) (fun v hv => by
      simp only [wv, List.mem_map] at hv
      obtain ⟨x, _, rfl⟩ := hv
      rfl) (by simp)
    rw [List.nil_append, List.length_nil, ← hf] at h
    rw [Array.toList_map]
    exact h) fun g w' h1 h2 h3 h4 => hK g w' h1 h2 (by
    have := own_of_row h3 (n := l.length) (by simp) h1 (by unfold maxLen; omega)
    simpa using this) h4

theorem RdW.at {B : Nat} {w : World} {v : Value} {l : List Nat} (h : RdW B w v l) {k : Nat} (hk : k < l.length) :
    ∃ ad c, v = .slice (some ad) l.length c ∧ ad.block < B ∧ (ad.add k).block = ad.block ∧ w.cell? (ad.add k) = some (.int .u32 ((l.getD k 0 : Nat) : Int)) := by
  obtain ⟨ad, c, hv, _, hB, hr⟩ := RdS.addr h (by intro h0; have := wv_length l; rw [h0] at this; simp at this; omega)
  exact ⟨ad, c, hv, hB, by unfold Addr.add; split <;> rfl, hr k _ (wv_get l k hk)⟩


theorem own_of_rowW {w : World} {g : Nat} {l : List Nat} (h : Row w g 25 (wv l).toArray) {base n : Nat} (hn : n = l.length) (hb : base ≤ g) (hm : n ≤ maxLen) : w.ownsRow base 25 1 (.slice (some ⟨g, 0, none⟩) n n) l.length (wv l) := by
  have := own_of_row h (n := n) (by simp [hn]) hb hm
  subst hn
  simpa using this
end Go.Proofs.Ytfinekmegiengaa
