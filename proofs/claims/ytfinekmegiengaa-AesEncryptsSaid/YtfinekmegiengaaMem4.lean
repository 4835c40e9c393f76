/- Laws for the walks: a slice's literal; a small slice of bytes or words, as what is appended. -/
import Derived.Test.YtfinekmegiengaaMem3
import Derived.StillTailTactics
namespace Go.Proofs.Ytfinekmegiengaa
open Go.RowKit
set_option linter.unusedSimpArgs false
set_option linter.unusedVariables false

/-- a slice's literal: its cells are a new block -/
theorem wpList_buildSlice {P : Program} {w : World} {ops : Array Oper} {rest : List Oper} {o : Oper} {a : Act} {Q : Exit → Act → World → Prop} {t : TypeId} {n : Nat} {parts : Array (Nat × Operand)} {e : TypeId} {z : Value} {s bytes : Nat}
    (ht : P.underlying t = some (.slice e)) (hi : (P.info? e).map (fun i => (i.zero, i.size, i.bytes)) = some (some z, s, bytes)) (hn : n * s ≤ 1000) (cells : Array Value)
    (hg : Region.wanted o (yielded ops a.tmps) = true) (ho : o.op = .buildSlice t n parts)
    (hf : Instr.fill (fun i => some (i * s, s)) ((Array.range (n * s)).map fun j => (if n * s = 0 then #[] else z.cells)[j % (if n * s = 0 then #[] else z.cells).size]!) (parts.map fun (i, x) => (i, a.eval x)).toList = some cells)
    (hK : ∀ g w', w.heap.size ≤ g → g < w'.heap.size → Row w' g e cells → Below w.heap.size w w' → wpList P ops Q rest (a.put o.dst (.slice (some ⟨g, 0, none⟩) n n)) w') : wpList P ops Q (o :: rest) a w := by
  obtain ⟨i, hi', hz, hs, hb⟩ := info_parts hi
  refine wpList_go hg fun K hK' => ?_
  have h24 : ¬ 16777216 < n * s := by omega
  have hrun : (Instr.buildSlice t n (parts.map fun (i, x) => (i, a.eval x))).run P w = .ok (.slice (some ⟨w.heap.size, 0, none⟩) n n) (w.alloc (.cells cells e)) := by
    by_cases h0 : n * s = 0
    · rw [if_pos h0] at hf
      simp [Instr.buildSlice, run_underlying ht, sizeOf, typeInfo, hi', hs, h0, newRow] at hf ⊢
      rw [hf]
      rfl
    · rw [if_neg h0] at hf
      simp [Instr.buildSlice, run_underlying ht, sizeOf, typeInfo, hi', hs, h0, h24, zeroValue, hz, newRow] at hf ⊢
      rw [hf]
      rfl
  unfold Oper.wp
  simp only [execOp, ho, Sem.run_bind, hrun, Result.andThen_ok, Sem.run_pure]
  exact hK' _ _ (hK _ _ (Nat.le_refl _) (by simp [World.alloc_size']) (Row.new _ _ _) ((Below.refl _ _).alloc (Nat.le_refl _) _))

/-- the parts of a literal, in order, each of one cell -/
theorem fill_ones : ∀ (vs : List Value) (pre zs : List Value), (∀ v ∈ vs, v.cells = #[v]) → zs.length = vs.length →
    Instr.fill (fun i => some (i * 1, 1)) (pre ++ zs).toArray ((vs.zipIdx pre.length).map fun q => (q.2, q.1)) = some (pre ++ vs).toArray
  | [], pre, zs, _, hz => by
    have : zs = [] := List.eq_nil_of_length_eq_zero hz
    subst this
    rfl
  | v :: vs, pre, z :: zs, hv, hz => by
    have hc := hv v (by simp)
    have ih := fill_ones vs (pre ++ [v]) zs (fun u hu => hv u (by simp [hu])) (by simpa using hz)
    rw [List.zipIdx_cons, List.map_cons]
    unfold Instr.fill
    simp only [hc]
    rw [if_neg (by simp)]
    have hset : ((#[v] : Array Value).zipIdx.foldl (fun cs x => cs.setIfInBounds (pre.length * 1 + x.2) x.1) (pre ++ z :: zs).toArray) = (pre ++ [v] ++ zs).toArray := by
      simp
    have hset' : ((#[v] : Array Value).zipIdx.foldl (fun cs (x : Value × Nat) => match x with | (c, j) => cs.setIfInBounds (pre.length * 1 + j) c) (pre ++ z :: zs).toArray) = (pre ++ [v] ++ zs).toArray := hset
    rw [hset']
    simpa using ih

theorem zeroRow_one (z : Value) (n : Nat) (hz : z.cells = #[z]) : ((Array.range (n * 1)).map fun j => (if n * 1 = 0 then #[] else z.cells)[j % (if n * 1 = 0 then #[] else z.cells).size]!) = (List.replicate n z).toArray := by
  apply Array.ext'
  by_cases h : n = 0
  · subst h; simp
  · simp only [Nat.mul_one, if_neg h, hz]
    have := toList_madeCells_one z n
    unfold madeCells at this
    exact this

/-- '[]byte{..}' -/
theorem wpList_buildB {w : World} {ops : Array Oper} {rest : List Oper} {o : Oper} {a : Act} {Q : Exit → Act → World → Prop} {parts : Array (Nat × Operand)} (l : List Nat) (hn : l.length ≤ 1000)
    (hg : Region.wanted o (yielded ops a.tmps) = true) (ho : o.op = .buildSlice 28 l.length parts)
    (hf : (parts.toList.map fun q => (q.1, a.eval q.2)) = ((bv l).zipIdx 0).map fun q => (q.2, q.1))
    (hK : ∀ g w', w.heap.size ≤ g → g < w'.heap.size → w'.ownsRow w.heap.size 5 1 (.slice (some ⟨g, 0, none⟩) l.length l.length) l.length (bv l) → Below w.heap.size w w' → wpList Try.prog ops Q rest (a.put o.dst (.slice (some ⟨g, 0, none⟩) l.length l.length)) w') : wpList Try.prog ops Q (o :: rest) a w :=
  wpList_buildSlice Try.underlying28 info_u8 (by omega) (bv l).toArray hg ho (by
    rw [zeroRow_one (.int .u8 0) l.length rfl]
    have h := fill_ones (bv l) [] (List.replicate l.length (.int .u8 0)) (fun v hv => by
      simp only [bv, List.mem_map] at hv
      obtain ⟨x, _, rfl⟩ := hv
      rfl) (by simp)
    rw [List.nil_append, List.length_nil, ← hf] at h
    rw [Array.toList_map]
    exact h) fun g w' h1 h2 h3 h4 => hK g w' h1 h2 (by
    have := own_of_row h3 (n := l.length) (by simp) h1 (by unfold maxLen; omega)
    simpa using this) h4

/-- an append, as a step of a region that draws its order -/
theorem step_append {P : Program} {w : World} {ops : Array Oper} {o : Oper} {a : Act} {K : Act → World → Prop} {Q : Exit → Act → World → Prop} {E : Prop} {sO xO : Operand} {t : TypeId}
    {base : Nat} {e : TypeId} {z : Value} {size bytes : Nat} (ht : P.underlying t = some (.slice e)) (hi : (P.info? e).map (fun i => (i.zero, i.size, i.bytes)) = some (some z, size, bytes)) (hzs : z.cells.size = size) (hsz : 0 < size)
    {v : Value} {n : Nat} {xs : List Value} (hown : w.ownsRow base e size v n xs) {B m : Nat} {y : Value} {ys : List Value} (h : RdS B size w y m ys) (h1 : ∀ u ∈ ys, u.oneCell' = true)
    (h63 : n + m ≤ 140737488351232) (hbytes : (n + m) * bytes ≤ 140737488355328) (hbase : base ≤ w.heap.size)
    (hg : Region.wanted o (yielded ops a.tmps) = true) (ho : o.op = .call { callee := .builtin .append, args := #[sO, xO], argTypes := #[t, t] }) (hs : a.eval sO = v) (hx : a.eval xO = y)
    (hK : ∀ v' w', w'.ownsRow base e size v' (n + m) (xs ++ ys) → w.grownBy w' v.ownBlock → K (a.put o.dst v') w') : if Region.wanted o (yielded ops a.tmps) = true then Oper.wp P o a w K Q else E := by
  rw [if_pos hg]
  obtain ⟨i, hi', hz, hs', hb⟩ := info_parts hi
  by_cases hm : m = 0
  · subst hm
    obtain ⟨hl, ax, c, rfl, _, _⟩ := h
    have hys : ys = [] := List.eq_nil_of_length_eq_zero (by rw [hl]; simp)
    subst hys
    have hv : ∃ b k, v = .slice b n k ∧ n ≤ k := by
      rcases hown.2 with ⟨rfl, rfl⟩ | ⟨g, cap, cur, rfl, _, _, hn, _⟩
      · exact ⟨none, 0, rfl, Nat.le_refl _⟩
      · exact ⟨_, _, rfl, hn⟩
    obtain ⟨b, k, hv, hnk⟩ := hv
    unfold Oper.wp
    simp [execOp, ho, resolve, invoke, builtin, hs, hx, hv, run_append_zero ht hi' hs' b n k hnk ax c, Result.andThen]
    rw [← hv]
    exact hK v w (by simpa using hown) (World.grownBy.refl w _)
  · have hne : ys ≠ [] := by
      intro h0
      have := h.1
      rw [h0] at this
      have h2 : 0 < m * size := Nat.mul_pos (by omega) hsz
      simp at this
      omega
    obtain ⟨ad, c, rfl, hc, hB, hr⟩ := h.addr hne
    obtain ⟨v', w', hrun, h2, h3, _⟩ := run_append_own (P := P) w base t o.type e i z size bytes ht hi' hz hs' hb hzs hsz v n xs hown ad m c ys h.1 hr h1 (by unfold maxLen; omega) hbytes hbase
    unfold Oper.wp
    simp [execOp, ho, resolve, invoke, builtin, hs, hx, hrun, Result.andThen]
    exact hK v' w' h2 h3

theorem step_appendB {w : World} {ops : Array Oper} {o : Oper} {a : Act} {K : Act → World → Prop} {Q : Exit → Act → World → Prop} {E : Prop} {sO xO : Operand} {base : Nat} {v : Value} {xs : List Nat}
    (hown : w.ownsRow base 5 1 v xs.length (bv xs)) {B : Nat} {y : Value} {ys : List Nat} (h : RdB B w y ys)
    (hg : Region.wanted o (yielded ops a.tmps) = true) (ho : o.op = .call { callee := .builtin .append, args := #[sO, xO], argTypes := #[28, 28] }) (hs : a.eval sO = v) (hx : a.eval xO = y)
    (h63 : xs.length + ys.length ≤ 140737488351232) (hbase : base ≤ w.heap.size)
    (hK : ∀ v' w', w'.ownsRow base 5 1 v' (xs ++ ys).length (bv (xs ++ ys)) → w.grownBy w' v.ownBlock → K (a.put o.dst v') w') : if Region.wanted o (yielded ops a.tmps) = true then Oper.wp Try.prog o a w K Q else E :=
  step_append Try.underlying28 info_u8 rfl (by omega) hown h (bv_oneCell ys) h63 (by omega) hbase hg ho hs hx fun v' w' h1 h2 => hK v' w' (by rwa [List.length_append, bv_append]) h2

/-- a literal of some bytes that was made last -/
theorem RdB.lit (w : World) (l : List Nat) (n : Nat) (hn : n = l.length) : RdB (w.heap.size + 1) (w.alloc (.cells (bv l).toArray 5)) (.slice (some ⟨w.heap.size, 0, none⟩) n n) l := by
  have h := RdS.of_row (Row.new w 5 (bv l).toArray) (n := n) (cap := n) (s := 1) (by simp [hn]) (Nat.le_refl _)
  unfold RdB
  subst hn
  simpa using h
theorem own_alloc' {base e s : Nat} {w : World} {v : Value} {n : Nat} {xs : List Value} (h : w.ownsRow base e s v n xs) (o : Obj) : (w.alloc o).ownsRow base e s v n xs := h.alloc o
theorem cell_alloc' {w : World} {p : Addr} {v : Value} (h : w.cell? p = some v) (o : Obj) : (w.alloc o).cell? p = some v := cell_next' h o
where
  cell_next' {w : World} {p : Addr} {v : Value} (h : w.cell? p = some v) (o : Obj) : (w.alloc o).cell? p = some v :=
    (((Below.refl w.heap.size w).alloc (Nat.le_refl _) o).cell (World.block_lt_of_cell? w p h)).trans h

theorem below_own {B base : Nat} {e s : Nat} {w w' : World} {v : Value} {n : Nat} {xs : List Value} (hg : w.grownBy w' v.ownBlock) (hown : w.ownsRow base e s v n xs) (hB : B ≤ base) (hw : B ≤ w.heap.size) : Below B w w' :=
  below_grown hg hw fun k hk => Nat.le_trans hB (hown.lt k hk).1

/-- what is owned stays owned while what is not of its block grows -/
theorem own_next {base e s : Nat} {w w' : World} {v : Value} {n : Nat} {xs : List Value} (h : w.ownsRow base e s v n xs) (hb : Below w.heap.size w w') : w'.ownsRow base e s v n xs := by
  refine ⟨h.1, ?_⟩
  rcases h.2 with hn | ⟨g, cap, cur, rfl, hbg, hgg, r⟩
  · exact .inl hn
  · exact .inr ⟨g, cap, cur, rfl, hbg, (hb.block g (Array.getElem?_eq_some_iff.1 hgg).1).trans hgg, r⟩
theorem own_base {base base' e s : Nat} {w : World} {v : Value} {n : Nat} {xs : List Value} (h : w.ownsRow base e s v n xs) (hb : base' ≤ base) : w.ownsRow base' e s v n xs := by
  refine ⟨h.1, ?_⟩
  rcases h.2 with hn | ⟨g, cap, cur, rfl, hbg, r⟩
  · exact .inl hn
  · exact .inr ⟨g, cap, cur, rfl, Nat.le_trans hb hbg, r⟩
theorem below_undrew {B : Nat} {w w' : World} (h : Below B w.drew w') : Below B w w' := ⟨h.os, h.tape, h.output, h.size, h.block⟩
/-- a cell below the old heap's end is as it was -/
theorem cell_next {w w' : World} {p : Addr} {v : Value} (h : w.cell? p = some v) (hb : Below w.heap.size w w') : w'.cell? p = some v :=
  (hb.cell (World.block_lt_of_cell? w p h)).trans h
theorem RdB.at {B : Nat} {w : World} {v : Value} {l : List Nat} (h : RdB B w v l) {k : Nat} (hk : k < l.length) :
    ∃ ad c, v = .slice (some ad) l.length c ∧ ad.block < B ∧ (ad.add k).block = ad.block ∧ w.cell? (ad.add k) = some (.int .u8 ((l.getD k 0 : Nat) : Int)) := by
  obtain ⟨ad, c, hv, _, hB, hr⟩ := RdS.addr h (by intro h0; have := bv_length l; rw [h0] at this; simp at this; omega)
  exact ⟨ad, c, hv, hB, by unfold Addr.add; split <;> rfl, hr k _ (bv_get l k hk)⟩

/-- it returns a slice of its own with these bytes, and OK -/
def RetSE (ys : List Nat) (w : World) (e : Ending) (w' : World) : Prop :=
  ∃ v', e = .returned (.tuple #[v', .int .i64 0]) ∧ w'.ownsRow w.heap.size 5 1 v' ys.length (bv ys) ∧ Below w.heap.size w w'
/-- it returns nil and an error -/
def RetE (c : Int) (w : World) (e : Ending) (w' : World) : Prop := e = .returned (.tuple #[.slice none 0 0, .int .i64 c]) ∧ Below w.heap.size w w'
end Go.Proofs.Ytfinekmegiengaa
