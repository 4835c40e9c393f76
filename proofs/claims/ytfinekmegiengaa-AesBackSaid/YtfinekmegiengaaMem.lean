/- Slices that are read, by what they hold: laws for the walks (length, index, cut, append, array of a slice), whatever address they have. -/
import Derived.Test.YtfinekmegiengaaBase
import Derived.Laws.AppendOwnNone
import Derived.DataElems
namespace Go.Proofs.Ytfinekmegiengaa
open Go.RowKit
set_option linter.unusedSimpArgs false
set_option linter.unusedVariables false

/-- v is a slice of n elements of s cells each; its cells are cs; they lie in blocks below B -/
def RdS (B s : Nat) (w : World) (v : Value) (n : Nat) (cs : List Value) : Prop :=
  cs.length = n * s ∧ ∃ a c, v = .slice a n c ∧ n ≤ c ∧ ∀ i x, cs[i]? = some x → ∃ ad, a = some ad ∧ ad.block < B ∧ w.cell? (ad.add i) = some x

theorem RdS.len {B s w v n cs} (h : RdS B s w v n cs) : cs.length = n * s := h.1
theorem RdS.mono {B s : Nat} {w w' : World} {v : Value} {n : Nat} {cs : List Value} (h : RdS B s w v n cs) (hb : Below B w w') : RdS B s w' v n cs := by
  obtain ⟨hl, a, c, hv, hc, hr⟩ := h
  refine ⟨hl, a, c, hv, hc, fun i x hx => ?_⟩
  obtain ⟨ad, ha, hB, hcell⟩ := hr i x hx
  refine ⟨ad, ha, hB, ?_⟩
  have hblk : (ad.add i).block = ad.block := by unfold Addr.add; split <;> rfl
  rw [hb.cell (by rw [hblk]; exact hB)]
  exact hcell
theorem RdS.up {B B' s : Nat} {w : World} {v : Value} {n : Nat} {cs : List Value} (h : RdS B s w v n cs) (hB : B ≤ B') : RdS B' s w v n cs := by
  obtain ⟨hl, a, c, hv, hc, hr⟩ := h
  exact ⟨hl, a, c, hv, hc, fun i x hx => let ⟨ad, ha, hb, hcell⟩ := hr i x hx; ⟨ad, ha, Nat.lt_of_lt_of_le hb hB, hcell⟩⟩
/-- behind a callee that leaves what was there as it was -/
theorem RdS.next {s : Nat} {w w' : World} {v : Value} {n : Nat} {cs : List Value} (h : RdS w.heap.size s w v n cs) (hb : Below w.heap.size w w') : RdS w'.heap.size s w' v n cs :=
  (h.mono hb).up hb.size
theorem RdS.nil (B s : Nat) (w : World) : RdS B s w (.slice none 0 0) 0 [] := ⟨by simp, none, 0, rfl, Nat.le_refl _, fun i x hx => by simp at hx⟩

theorem RdS.of_own {base e s : Nat} {w : World} {v : Value} {n : Nat} {xs : List Value} (h : w.ownsRow base e s v n xs) : RdS w.heap.size s w v n xs := by
  refine ⟨h.1, ?_⟩
  rcases h.2 with ⟨rfl, rfl⟩ | ⟨g, cap, cur, rfl, hb, hg, hn, hm, hs, ht⟩
  · have hx : xs = [] := List.eq_nil_of_length_eq_zero (by rw [h.1]; simp)
    subst hx
    exact ⟨none, 0, rfl, Nat.le_refl _, fun i x hx => by simp at hx⟩
  · refine ⟨_, _, rfl, hn, fun i x hx => ⟨⟨g, 0, none⟩, rfl, (Array.getElem?_eq_some_iff.1 hg).1, ?_⟩⟩
    exact h.cells (g := g) rfl i x hx

/-- the cells of a slice that is not empty lie at an address -/
theorem RdS.addr {B s : Nat} {w : World} {v : Value} {n : Nat} {cs : List Value} (h : RdS B s w v n cs) (hn : cs ≠ []) :
    ∃ ad c, v = .slice (some ad) n c ∧ n ≤ c ∧ ad.block < B ∧ ∀ i x, cs[i]? = some x → w.cell? (ad.add i) = some x := by
  obtain ⟨hl, a, c, hv, hc, hr⟩ := h
  obtain ⟨x0, rest, rfl⟩ : ∃ x rest, cs = x :: rest := by cases cs with
    | nil => exact absurd rfl hn
    | cons x r => exact ⟨x, r, rfl⟩
  obtain ⟨ad, rfl, hB, _⟩ := hr 0 x0 rfl
  refine ⟨ad, c, hv, hc, hB, fun i x hx => ?_⟩
  obtain ⟨ad', e, _, hcell⟩ := hr i x hx
  obtain rfl := Option.some.inj e
  exact hcell

section
variable {P : Program} {w : World} {ops : Array Oper} {rest : List Oper} {o : Oper} {a : Act} {Q : Exit → Act → World → Prop}

theorem wpList_len {x : Operand} {t e : TypeId} (hg : Region.wanted o (yielded ops a.tmps) = true) (ho : o.op = .call { callee := .builtin .len, args := #[x], argTypes := #[t] })
    (ht : P.underlying t = some (.slice e)) {v : Value} (hx : a.eval x = v) {B s n : Nat} {cs : List Value} (h : RdS B s w v n cs)
    (hK : wpList P ops Q rest (a.put o.dst (.int .i64 n)) w) : wpList P ops Q (o :: rest) a w := by
  refine wpList_go hg fun K hK' => ?_
  obtain ⟨_, ad, c, rfl, _, _⟩ := h
  unfold Oper.wp
  simp [execOp, ho, resolve, invoke, builtin, hx, Builtin.len_, run_underlying ht, goInt, Result.andThen]
  exact hK' _ _ hK

theorem run_indexAt {t e : TypeId} {k : IntKind} {i n s : Nat} {ad : Addr} {c : Nat} (ht : P.underlying t = some (.slice e)) (hs : (P.info? e).map (·.size) = some s) (hi : i < n) (w : World) :
    (Instr.indexAt t (.slice (some ad) n c) (.int k (i : Int))).run P w = .ok (.pointer (some (ad.add (i * s)))) w := by
  cases hq : P.info? e with
  | none => simp [hq] at hs
  | some inf =>
    have hs' : inf.size = s := by simpa [hq] using hs
    simp [Instr.indexAt, asIntOf, run_underlying ht, sizeOf, typeInfo, hq, hs']
    intro h2
    omega

theorem wpList_index {x j : Operand} {t e : TypeId} {s : Nat} (hg : Region.wanted o (yielded ops a.tmps) = true) (ho : o.op = .indexAddr t x j)
    (ht : P.underlying t = some (.slice e)) (hs : (P.info? e).map (·.size) = some s) {v : Value} (hx : a.eval x = v) {k : IntKind} {J : Int} (hj : a.eval j = .int k J) {i : Nat} (hJ : J = (i : Int))
    {B n : Nat} {cs : List Value} (h : RdS B s w v n cs) (hi : i < n) (hs0 : 0 < s)
    (hK : ∀ p : Addr, p.block < B → (∀ d x, d < s → cs[i * s + d]? = some x → w.cell? (p.add d) = some x) → wpList P ops Q rest (a.put o.dst (.pointer (some p))) w) : wpList P ops Q (o :: rest) a w := by
  refine wpList_go hg fun K hK' => ?_
  have hne : cs ≠ [] := by
    intro h0
    have := h.1
    rw [h0] at this
    have h1 : 0 < n * s := Nat.mul_pos (by omega) hs0
    simp at this
    omega
  obtain ⟨ad, c, rfl, hc, hB, hr⟩ := h.addr hne
  subst hJ
  unfold Oper.wp
  simp only [execOp, ho, hx, hj, Sem.run_bind, run_indexAt ht hs hi, Result.andThen_ok, Sem.run_pure]
  refine hK' _ _ (hK _ (by have : (ad.add (i * s)).block = ad.block := by unfold Addr.add; split <;> rfl
                           rw [this]; exact hB) fun d x hd hx => ?_)
  rw [Addr.add_add]
  exact hr _ _ hx

/-- an operand of a cut: none, or the number n -/
def BndAt (a : Act) (x : Option Operand) (n : Nat) : Prop := ∃ y k N, x = some y ∧ a.eval y = .int k N ∧ N = (n : Int)

theorem run_sliceS {t e : TypeId} {s : Nat} (ht : P.underlying t = some (.slice e)) (hs : (P.info? e).map (·.size) = some s) {B n : Nat} {v : Value} {cs : List Value} (h : RdS B s w v n cs)
    (lo hi mx : Option Value) (L H : Nat) (hlo : (lo = none ∧ L = 0) ∨ ∃ k, lo = some (.int k (L : Int))) (hhi : (hi = none ∧ mx = none ∧ H = n) ∨ ∃ k, hi = some (.int k (H : Int)))
    (hmx : mx = none ∨ ∃ k M, mx = some (.int k ((M : Nat) : Int)) ∧ H ≤ M ∧ M ≤ n) (hLH : L ≤ H) (hHn : H ≤ n) :
    ∃ v', (∀ W, (Instr.slice t v lo hi mx).run P W = .ok v' W) ∧ RdS B s w v' (H - L) ((cs.drop (L * s)).take ((H - L) * s)) := by
  obtain ⟨hl, a, c, rfl, hc, hr⟩ := h
  cases hq : P.info? e with
  | none => simp [hq] at hs
  | some inf =>
    have hs' : inf.size = s := by simpa [hq] using hs
    have main : ∀ m, m ≤ c → L ≤ m → H ≤ m → RdS B s w (.slice (if m = L then a else a.map (·.add (L * s))) (H - L) (m - L)) (H - L) ((cs.drop (L * s)).take ((H - L) * s)) := by
      intro m hm hLm hHm
      refine ⟨?_, _, _, rfl, by omega, fun i x hx => ?_⟩
      · rw [List.length_take, List.length_drop, hl, ← Nat.sub_mul]
        exact Nat.min_eq_left (Nat.mul_le_mul_right _ (by omega))
      · rw [List.getElem?_take] at hx
        split at hx
        · rename_i hi
          rw [List.getElem?_drop] at hx
          obtain ⟨ad, rfl, hB, hcell⟩ := hr _ _ hx
          split
          · rename_i e0
            subst e0
            have : H - m = 0 := by omega
            rw [this] at hi
            omega
          · exact ⟨_, rfl, by have : (ad.add (L * s)).block = ad.block := by unfold Addr.add; split <;> rfl
                              rw [this]; exact hB, by rw [Addr.add_add]; exact hcell⟩
        · cases hx
    have e1 : (H : Int) ≤ (c : Int) := by omega
    have e2 : (L : Int) ≤ (H : Int) := by omega
    have e3 : H ≤ c := by omega
    rcases hmx with rfl | ⟨km, M, rfl, hHM, hMn⟩
    · refine ⟨_, fun W => ?_, main c (Nat.le_refl _) (by omega) (by omega)⟩
      rcases hhi with ⟨rfl, _, hH⟩ | ⟨kh, rfl⟩
      · rcases hlo with ⟨rfl, hL⟩ | ⟨kl, rfl⟩
        · subst hL
          simp [Instr.slice, Instr.sliceBounds, Instr.sliceBound, asIntOf, run_underlying ht, sizeOf, typeInfo, hq, hs', hH]
        · have e4 : (L : Int) ≤ (n : Int) := by omega
          have e5 : L ≤ n := by omega
          simp [Instr.slice, Instr.sliceBounds, Instr.sliceBound, asIntOf, run_underlying ht, sizeOf, typeInfo, hq, hs', hH, e4, e5]
      · rcases hlo with ⟨rfl, hL⟩ | ⟨kl, rfl⟩
        · subst hL
          simp [Instr.slice, Instr.sliceBounds, Instr.sliceBound, asIntOf, run_underlying ht, sizeOf, typeInfo, hq, hs', e1, e3]
        · simp [Instr.slice, Instr.sliceBounds, Instr.sliceBound, asIntOf, run_underlying ht, sizeOf, typeInfo, hq, hs', e1, e2, e3, hLH]
    · refine ⟨_, fun W => ?_, main M (by omega) (by omega) hHM⟩
      have e6 : (M : Int) ≤ (c : Int) := by omega
      have e7 : (H : Int) ≤ (M : Int) := by omega
      have e8 : M ≤ c := by omega
      rcases hhi with ⟨_, hno, _⟩ | ⟨kh, rfl⟩
      · cases hno
      · rcases hlo with ⟨rfl, hL⟩ | ⟨kl, rfl⟩
        · subst hL
          simp [Instr.slice, Instr.sliceBounds, Instr.sliceBound, asIntOf, run_underlying ht, sizeOf, typeInfo, hq, hs', e6, e7, e8, hHM]
        · simp [Instr.slice, Instr.sliceBounds, Instr.sliceBound, asIntOf, run_underlying ht, sizeOf, typeInfo, hq, hs', e6, e7, e8, e2, hLH, hHM]
end
end Go.Proofs.Ytfinekmegiengaa
