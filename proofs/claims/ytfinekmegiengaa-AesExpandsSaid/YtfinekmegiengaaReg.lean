/- Regions that draw their order: the last operation, where all others come up ahead of it, is carried out behind the region of the others. -/
import Derived.Test.YtfinekmegiengaaMem6
import Derived.StillTail
import Derived.Deep.RegionHeld3
namespace Go.Proofs.Ytfinekmegiengaa
open Go.RowKit
set_option linter.unusedVariables false
set_option linter.unusedSimpArgs false

/-- the post of the others: the last operation is yet to come -/
def lastPost (P : Program) (o : Oper) (Q : Exit → Act → World → Prop) : Exit → Act → World → Prop
  | .normal, a, w => Oper.wp P o a w (Q .normal) Q
  | e, a, w => Q e a w

section
variable {P : Program} {ops : Array Oper} {o : Oper} {Q : Exit → Act → World → Prop} {md : Region.Mode}

theorem upon_last (o' : Oper) (a : Act) (next : Act → World → Prop) (r : Result Next) : o'.upon P a next (lastPost P o Q) r = o'.upon P a next Q r := by
  cases r with
  | ok n w => cases n <;> rfl
  | halt x w => cases x <;> rfl

/-- what the kernel looks at: every operation waits for earlier ones alone; no guard; each but the last has a later one that waits for it -/
def popB (md : Region.Mode) (ops : Array Oper) (o : Oper) : Bool :=
  ((List.range (ops.size + 1)).all fun i => match (ops.push o)[i]? with | some x => x.guard.isNone && x.after.all (fun e => !Region.binds md e || decide (e.on < i)) | none => true) && Region.sinkB md (ops.push o) ops.size

theorem getD_push (listed : Array Bool) (k : Nat) : (listed.push false).getD k false = listed.getD k false := by
  simp only [Array.getD_eq_getD_getElem?, Array.getElem?_push]
  split
  · subst_vars; simp
  · rfl
theorem getD_push' (listed : Array Bool) (k : Nat) (h : k < listed.size) : (listed.push false).getD k true = listed.getD k true := by
  simp only [Array.getD_eq_getD_getElem?, Array.getElem?_push]
  rw [if_neg (by omega)]
theorem set_push (listed : Array Bool) (k : Nat) (h : k < listed.size) : (listed.push false).setIfInBounds k true = (listed.setIfInBounds k true).push false := by
  apply Array.ext_getElem?
  intro j
  simp only [Array.getElem?_setIfInBounds, Array.getElem?_push, Array.size_push, Array.size_setIfInBounds]
  by_cases hj : k = j
  · subst hj
    simp [h, show ¬ k = listed.size by omega, show k < listed.size + 1 by omega]
  · simp only [if_neg hj]

theorem popB_spec (h : popB md ops o = true) : (∀ i x, (ops.push o)[i]? = some x → x.guard = none ∧ ∀ e ∈ x.after, Region.binds md e = true → e.on < i) ∧ Region.sinkB md (ops.push o) ops.size = true := by
  unfold popB at h
  rw [Bool.and_eq_true] at h
  refine ⟨fun i x hx => ?_, h.2⟩
  have hi : i < ops.size + 1 := by
    have := (Array.getElem?_eq_some_iff.1 hx).1
    simpa using this
  have h1 := List.all_eq_true.1 h.1 i (List.mem_range.2 hi)
  simp only [hx, Bool.and_eq_true, Option.isNone_iff_eq_none] at h1
  refine ⟨h1.1, fun e he hb => ?_⟩
  have h2 := Array.all_eq_true_iff_forall_mem.1 h1.2 e he
  simpa [hb] using h2

theorem ready_push {listed : Array Bool} (hs : listed.size = ops.size) {i : Nat} (hi : i < ops.size) : i ∈ Region.ready md (ops.push o) (listed.push false) ↔ i ∈ Region.ready md ops listed := by
  rw [mem_ready, mem_ready, getD_push' _ _ (by omega), Array.getElem?_push, if_neg (by omega)]
  simp only [getD_push]

/-- with nothing left to come up, all has come up -/
theorem all_listed (hf : ∀ i x, ops[i]? = some x → ∀ e ∈ x.after, Region.binds md e = true → e.on < i) {listed : Array Bool} (hs : listed.size = ops.size) (hr : Region.ready md ops listed = []) :
    ∀ i, i < ops.size → listed.getD i false = true := by
  intro i
  induction i using Nat.strongRecOn with
  | _ i ih =>
    intro hi
    cases hl : listed.getD i false with
    | true => rfl
    | false =>
      exfalso
      have hm : i ∈ Region.ready md ops listed := mem_ready.2 ⟨getD_in (by omega) hl, ops[i], Array.getElem?_eq_getElem hi, fun e he hb => by
        have := hf i _ (Array.getElem?_eq_getElem hi) e he hb
        exact ih e.on this (by omega)⟩
      rw [hr] at hm
      cases hm

theorem wpAny_pop (hB : popB md ops o = true) : ∀ (fuel : Nat) (listed : Array Bool) (a : Act) (w : World), HeadInv md (ops.push o) ops.size (listed.push false) → listed.size = ops.size →
    wpAny P md ops (lastPost P o Q) fuel listed a w → wpAny P md (ops.push o) Q (fuel + 1) (listed.push false) a w := by
  obtain ⟨hf, hsink⟩ := popB_spec hB
  have hn : ops.size < (ops.push o).size := by simp
  have hlast : (ops.push o)[ops.size]? = some o := by simp
  have hfo := hf _ _ hlast
  have hfh : ∀ i x, ops[i]? = some x → ∀ e ∈ x.after, Region.binds md e = true → e.on < i := fun i x hx => (hf i x (by
    have := (Array.getElem?_eq_some_iff.1 hx).1
    rw [Array.getElem?_push, if_neg (by omega)]; exact hx)).2
  have hchain : Region.chainB md (ops.push o) ops.size = true := by
    unfold Region.chainB
    rw [List.all_eq_true]
    intro t ht
    have := List.mem_range.1 ht
    simp at this ⊢
    left; omega
  -- all have come up but the last
  have hdone : ∀ (f : Nat) (listed : Array Bool) (a : Act) (w : World), listed.size = ops.size → Region.ready md ops listed = [] → lastPost P o Q .normal a w → wpAny P md (ops.push o) Q (f + 1) (listed.push false) a w := by
    intro f listed a w hs hr hq
    have hall := all_listed hfh hs hr
    have hin : ops.size ∈ Region.ready md (ops.push o) (listed.push false) := mem_ready.2 ⟨by
      simp [← hs], o, hlast, fun e he hb => by rw [getD_push]; exact hall _ (hfo.2 e he hb)⟩
    have honly : ∀ i ∈ Region.ready md (ops.push o) (listed.push false), i = ops.size := fun i hi => by
      obtain ⟨h1, x, hx, _⟩ := mem_ready.1 hi
      have hlt := (Array.getElem?_eq_some_iff.1 hx).1
      rw [Array.size_push] at hlt
      by_cases h : i = ops.size
      · exact h
      · have h2 := hall i (by omega)
        have h3 := getD_both h1
        rw [getD_push, h2] at h3
        cases h3
    refine ⟨fun h0 => (by rw [h0] at hin; cases hin), fun i hi => ?_⟩
    obtain rfl := honly i hi
    unfold wpOp
    rw [hlast]
    simp only [Region.wanted, hfo.1, if_true]
    refine .inl (Oper.wp_mono (fun a' w' h => ?_) hq)
    have hnone : Region.ready md (ops.push o) ((listed.push false).setIfInBounds ops.size true) = [] := by
      rw [List.eq_nil_iff_forall_not_mem]
      intro i hi
      obtain ⟨h1, x, hx, _⟩ := mem_ready.1 hi
      have hlt := (Array.getElem?_eq_some_iff.1 hx).1
      rw [Array.size_push] at hlt
      by_cases h : i = ops.size
      · subst h
        simp [← hs] at h1
      · rw [getD_set_ne true (by omega), getD_push' _ _ (by omega)] at h1
        have h2 := hall i (by omega)
        rw [getD_both h1] at h2
        cases h2
    cases f with
    | zero => exact ⟨hnone, h⟩
    | succ f => exact ⟨fun _ => h, by rw [hnone]; simp⟩
  intro fuel
  induction fuel with
  | zero =>
    intro listed a w inv hs h
    exact hdone 0 listed a w hs h.1 h.2
  | succ fuel ih =>
    intro listed a w inv hs h
    by_cases hr : Region.ready md ops listed = []
    · exact hdone (fuel + 1) listed a w hs hr (h.1 hr)
    · obtain ⟨i0, hi0⟩ := List.exists_mem_of_ne_nil _ hr
      obtain ⟨hu0, x0, hx0, _⟩ := mem_ready.1 hi0
      have hlt0 := (Array.getElem?_eq_some_iff.1 hx0).1
      have hnot : ∀ t, ops.size ≤ t → t ∉ Region.ready md (ops.push o) (listed.push false) := tail_waits hsink hchain hn inv _ i0 rfl hlt0 (by rw [getD_push' _ _ (by omega)]; exact hu0)
      have hlt : ∀ i ∈ Region.ready md (ops.push o) (listed.push false), i < ops.size := fun i hi => by
        rcases Nat.lt_or_ge i ops.size with h | h
        · exact h
        · exact absurd hi (hnot i h)
      refine ⟨fun h0 => ?_, fun i hi => ?_⟩
      · have := (ready_push (o := o) hs hlt0).2 hi0
        rw [h0] at this
        cases this
      · have hil := hlt i hi
        have h1 := h.2 i ((ready_push hs hil).1 hi)
        have hx : (ops.push o)[i]? = ops[i]? := by rw [Array.getElem?_push, if_neg (by omega)]
        have hw : ∀ x, ops[i]? = some x → x.guard = none := fun x hx' => (hf i x (by rw [hx]; exact hx')).1
        unfold wpOp at h1 ⊢
        rw [hx]
        have hxs : ops[i]? = some ops[i] := Array.getElem?_eq_getElem hil
        rw [hxs] at h1 ⊢
        simp only [Region.wanted, hw _ hxs, if_true] at h1 ⊢
        have hstep : ∀ a' w', wpAny P md ops (lastPost P o Q) fuel (listed.setIfInBounds i true) a' w' → wpAny P md (ops.push o) Q (fuel + 1) ((listed.push false).setIfInBounds i true) a' w' := fun a' w' h2 => by
          have inv2 := inv.set hi hil
          rw [set_push _ _ (by omega)] at inv2 ⊢
          exact ih _ a' w' inv2 (by simp [hs]) h2
        rcases h1 with h1 | h1
        · left
          have h2 := Oper.wp_mono hstep h1
          unfold Oper.wp at h2 ⊢
          rw [upon_last] at h2
          exact h2
        · exact .inr h1

theorem wp_region_pop {id : Nat} {l : List Oper} {a : Act} {w : World} (n : Nat) (hm : P.follows .mixedOrders = true) (hl : l[n]? = some o) (hlen : l.length = n + 1) (hB : popB .any (l.take n).toArray o = true)
    (h : wpAny P .any (l.take n).toArray (lastPost P o Q) n (Array.replicate n false) a w.drew) : (Code.region id l.toArray true).wp P Q a w := by
  have he : l.toArray = (l.take n).toArray.push o := by
    apply Array.ext'
    simp only [Array.toList_push]
    rw [← List.take_append_drop n l, List.take_left' (by simp; omega)]
    congr 1
    have hd : l.drop n = [o] := by
      have hnl : n < l.length := by omega
      rw [List.drop_eq_getElem_cons hnl]
      have : l[n] = o := by
        rw [List.getElem?_eq_getElem hnl] at hl
        exact Option.some.inj hl
      rw [this, List.drop_eq_nil_of_le (by omega)]
    rw [hd]
  have hsz : (l.take n).toArray.size = n := by simp; omega
  rw [he]
  refine wp_region_any hm ?_
  rw [Array.size_push, hsz]
  have hrep : Array.replicate (n + 1) false = (Array.replicate n false).push false := Array.replicate_succ
  rw [hrep]
  refine wpAny_pop hB n _ a _ ⟨by rw [Array.size_push, Array.size_push, hsz, Array.size_replicate], fun j oj _ hl => ?_, fun t ht ht' => ?_⟩ (by rw [hsz, Array.size_replicate]) h
  · rw [getD_push, getD_replicate_false] at hl
    cases hl
  · rw [Array.size_push, hsz] at ht'
    rw [hsz] at ht
    have : t = n := by omega
    subst this
    rw [Array.getD_eq_getD_getElem?, Array.getElem?_push, if_pos (by simp)]
    rfl

/-- from wpAnyH on -/
theorem wp_region_popH {id : Nat} {l : List Oper} {a : Act} {w : World} {S : World → Prop} (n : Nat) (hm : P.follows .mixedOrders = true) (hl : l[n]? = some o) (hlen : l.length = n + 1) (hB : popB .any (l.take n).toArray o = true)
    (h : wpAnyH P .any (l.take n).toArray (lastPost P o Q) S n (Array.replicate n false) a w.drew) : (Code.region id l.toArray true).wp P Q a w :=
  wp_region_pop n hm hl hlen hB (wpAny_of_held _ _ _ _ h)

/-- the last operation, as a list of one -/
theorem lastPost_go {a : Act} {w : World} (h : ∀ K : Act → World → Prop, (∀ a w, Q .normal a w → K a w) → Oper.wp P o a w K Q) : lastPost P o Q .normal a w := h _ fun _ _ h => h

/-- a slice's address as an array's: in whatever world -/
theorem yieldsIf_arr {S : World → Prop} {op : Oper} {a : Act} {ty e : TypeId} {n : Nat} {x : Operand} (hw : Region.wanted op (yielded ops a.tmps) = true) (ho : op.op = .sliceToArrayPointer ty x) (hT : P.underlying ty = some (.array n e)) {ad : Addr} {m c : Nat} (hx : a.eval x = .slice (some ad) m c) (hn : n ≤ m) :
    YieldsIf P ops S op (.pointer (some ad)) a :=
  .inl ⟨hw, fun w _ => by
    simp [execOp, ho, hx, Instr.arrayAt, run_underlying hT, show ¬ m < n by omega, Result.andThen]⟩
/-- an array, loaded under an S that tells its cells -/
theorem yieldsIf_loadArr {S : World → Prop} {op : Oper} {a : Act} {ty e : TypeId} {n : Nat} {x : Operand} (cs : List Value) (hw : Region.wanted op (yielded ops a.tmps) = true) (ho : op.op = .load ty x) (hT : P.underlying ty = some (.array n e)) (hs : (P.info? ty).map (·.size) = some n) {ad : Addr} (hx : a.eval x = .pointer (some ad))
    (hl : cs.length = n) (hS : ∀ w, S w → ∀ i x, cs[i]? = some x → w.cell? (ad.add i) = some x) : YieldsIf P ops S op (.agg cs.toArray) a :=
  .inl ⟨hw, fun w hw' => by
    have hrun := run_loadArr hT hs cs hl (hS w hw')
    simp only [execOp, ho, hx, Instr.loadAt, Instr.sureAddr, Sem.run_bind, Sem.run_pure, Result.andThen_ok, hrun]⟩
/-- one operation that yields in every world that meets S is taken first -/
theorem takeS {S : World → Prop} {i : Nat} {oi : Oper} {v : Value} {t : Tmp} {fuel : Nat} {listed : Array Bool} {a : Act} {w : World} (hS : S w) (hi : ops[i]? = some oi) (hd : oi.dst = some t)
    (hs : Region.noSelect ops = true) (hf : Region.free md ops listed i = true) (hr : (Region.ready md ops listed).contains i = true)
    (hQ : ∀ c a w, Q (.panic c) (a.put (some t) v) w → Q (.panic c) a w) (hw : Region.wanted oi (yielded ops a.tmps) = true)
    (hy : ∀ w, S w → (execOp a.eval oi).run P w = .ok (.value v) w)
    (h : wpAnyH P md ops Q S fuel (listed.setIfInBounds i true) (a.put (some t) v) w) : wpAnyH P md ops Q S (fuel + 1) listed a w :=
  wpAnyH_take hi hs hf hr (hd ▸ hQ) (.inl ⟨hw, hy⟩) hS (hd ▸ h)
theorem takeY {S : World → Prop} {i : Nat} {oi : Oper} {v : Value} {t : Tmp} {fuel : Nat} {listed : Array Bool} {a : Act} {w : World} (hS : S w) (hi : ops[i]? = some oi) (hd : oi.dst = some t)
    (hs : Region.noSelect ops = true) (hf : Region.free md ops listed i = true) (hr : (Region.ready md ops listed).contains i = true)
    (hQ : ∀ c a w, Q (.panic c) (a.put (some t) v) w → Q (.panic c) a w) (hy : YieldsIf P ops S oi v a)
    (h : wpAnyH P md ops Q S fuel (listed.setIfInBounds i true) (a.put (some t) v) w) : wpAnyH P md ops Q S (fuel + 1) listed a w :=
  wpAnyH_take hi hs hf hr (hd ▸ hQ) hy hS (hd ▸ h)
/-- the one operation that may come up now, with its destination told -/
theorem oneS {S : World → Prop} {i : Nat} {oi : Oper} {t : Tmp} {fuel : Nat} {listed : Array Bool} {a : Act} {w : World} (hi : ops[i]? = some oi) (hd : oi.dst = some t) (hr : Region.ready md ops listed = [i])
    (hw : Region.wanted oi (yielded ops a.tmps) = true)
    (h : ∀ K : Act → World → Prop, Shut (∀ a w, S w → (S w → wpAnyH P md ops Q S fuel (listed.setIfInBounds i true) a w) → K a w) → if Region.wanted ({ oi with dst := some t } : Oper) (yielded ops a.tmps) = true then Oper.wp P { oi with dst := some t } a w K Q else False) : wpAnyH P md ops Q S (fuel + 1) listed a w := by
  have ho : ({ oi with dst := some t } : Oper) = oi := by rw [← hd]
  refine wpAnyH_ready (rs := [i]) hr (by simp) (AllReadyH.cons hi (fun K hK => ?_) AllReadyH.nil)
  rw [if_pos hw]
  have h1 := h K hK
  rwa [ho, if_pos hw] at h1
/-- the beginning, the number of operations told -/
theorem wp_region_heldN {id : Nat} {l : List Oper} {a : Act} {w : World} {S : World → Prop} (n : Nat) (hn : l.length = n) (hm : P.follows .mixedOrders = true)
    (h : wpAnyH P .any l.toArray Q S n (Array.replicate n false) a w.drew) : (Code.region id l.toArray true).wp P Q a w := by
  refine wp_region_held (S := S) hm ?_
  rw [List.size_toArray, hn]
  exact h
/-- a slice's element, its address: in whatever world -/
theorem yieldsIf_indexS {S : World → Prop} {op : Oper} {a : Act} {t e : TypeId} {s n i : Nat} {x j : Operand} (hw : Region.wanted op (yielded ops a.tmps) = true) (ho : op.op = .indexAddr t x j) (ht : P.underlying t = some (.slice e)) (hs : (P.info? e).map (·.size) = some s)
    {ad : Addr} {c : Nat} {k : IntKind} {J : Int} (hx : a.eval x = .slice (some ad) n c) (hj : a.eval j = .int k J) (hJ : J = (i : Int)) (hi : i < n) : YieldsIf P ops S op (.pointer (some (ad.add (i * s)))) a :=
  .inl ⟨hw, fun w _ => by
    subst hJ
    simp only [execOp, ho, hx, hj, Sem.run_bind, run_indexAt ht hs hi, Result.andThen_ok, Sem.run_pure]⟩
theorem wpStill_indexS {w : World} {Q : Act → Prop} {rest : List Oper} {op : Oper} {a : Act} {t e : TypeId} {s n : Nat} (i : Nat) {x j : Operand} (hw : Region.wanted op (yielded ops a.tmps) = true) (ho : op.op = .indexAddr t x j) (ht : P.underlying t = some (.slice e)) (hs : (P.info? e).map (·.size) = some s)
    {ad : Addr} {c : Nat} {k : IntKind} {J : Int} (hx : a.eval x = .slice (some ad) n c) (hj : a.eval j = .int k J) (hJ : J = (i : Int)) (hi : i < n)
    (h : wpStill P ops w Q rest (a.put op.dst (.pointer (some (ad.add (i * s)))))) : wpStill P ops w Q (op :: rest) a :=
  wpStill_run hw (by
    subst hJ
    simp only [execOp, ho, hx, hj, Sem.run_bind, run_indexAt ht hs hi, Result.andThen_ok, Sem.run_pure]) h
/-- two operations may come up now -/
theorem twoS {S : World → Prop} {i j : Nat} {oi oj : Oper} {t u : Tmp} {fuel : Nat} {listed : Array Bool} {a : Act} {w : World} (hr : Region.ready md ops listed = [i, j]) (hi : ops[i]? = some oi) (hd : oi.dst = some t) (hw : Region.wanted oi (yielded ops a.tmps) = true)
    (hi' : ops[j]? = some oj) (hd' : oj.dst = some u) (hw' : Region.wanted oj (yielded ops a.tmps) = true)
    (h : ∀ K : Act → World → Prop, Shut (∀ a w, S w → (S w → wpAnyH P md ops Q S fuel (listed.setIfInBounds i true) a w) → K a w) → if Region.wanted ({ oi with dst := some t } : Oper) (yielded ops a.tmps) = true then Oper.wp P { oi with dst := some t } a w K Q else False)
    (h' : ∀ K : Act → World → Prop, Shut (∀ a w, S w → (S w → wpAnyH P md ops Q S fuel (listed.setIfInBounds j true) a w) → K a w) → if Region.wanted ({ oj with dst := some u } : Oper) (yielded ops a.tmps) = true then Oper.wp P { oj with dst := some u } a w K Q else False) : wpAnyH P md ops Q S (fuel + 1) listed a w := by
  have ho : ({ oi with dst := some t } : Oper) = oi := by rw [← hd]
  have ho' : ({ oj with dst := some u } : Oper) = oj := by rw [← hd']
  refine wpAnyH_ready (rs := [i, j]) hr (by simp) (AllReadyH.cons hi (fun K hK => ?_) (AllReadyH.cons hi' (fun K hK => ?_) AllReadyH.nil))
  · rw [if_pos hw]
    have h1 := h K hK
    rwa [ho, if_pos hw] at h1
  · rw [if_pos hw']
    have h1 := h' K hK
    rwa [ho', if_pos hw'] at h1
theorem oneN {S : World → Prop} {i : Nat} {oi : Oper} {fuel : Nat} {listed : Array Bool} {a : Act} {w : World} (hi : ops[i]? = some oi) (hd : oi.dst = none) (hr : Region.ready md ops listed = [i])
    (hw : Region.wanted oi (yielded ops a.tmps) = true)
    (h : ∀ K : Act → World → Prop, Shut (∀ a w, S w → (S w → wpAnyH P md ops Q S fuel (listed.setIfInBounds i true) a w) → K a w) → if Region.wanted ({ oi with dst := none } : Oper) (yielded ops a.tmps) = true then Oper.wp P { oi with dst := none } a w K Q else False) : wpAnyH P md ops Q S (fuel + 1) listed a w := by
  have ho : ({ oi with dst := none } : Oper) = oi := by rw [← hd]
  refine wpAnyH_ready (rs := [i]) hr (by simp) (AllReadyH.cons hi (fun K hK => ?_) AllReadyH.nil)
  rw [if_pos hw]
  have h1 := h K hK
  rwa [ho, if_pos hw] at h1
theorem step_allocR {w : World} {a : Act} {o : Oper} {K : Act → World → Prop} {E : Prop} {t : TypeId} (z : Value) (n : Nat) (hz : (P.info? t).map (fun i => (i.zero, i.size)) = some (some z, n)) (hg : Region.wanted o (yielded ops a.tmps) = true) (ho : o.op = .alloc t)
    (hK : ∀ g w', w.heap.size ≤ g → g < w'.heap.size → Row w' g t z.cells → Below w.heap.size w w' → K (a.put o.dst (.pointer (some ⟨g, 0, none⟩))) w') : if Region.wanted o (yielded ops a.tmps) = true then Oper.wp P o a w K Q else E := by
  rw [if_pos hg]
  have hrun : (Instr.alloc t true (.tuple #[])).run P w = .ok (.pointer (some ⟨w.heap.size, 0, none⟩)) (w.alloc (.cells z.cells t)) := by
    unfold Instr.alloc
    rw [Sem.run_bind, (zero_of_info hz).1 w]
    rfl
  unfold Oper.wp execOp
  simp only [ho, Sem.run_bind, hrun, Result.andThen_ok, Sem.run_pure]
  exact hK _ _ (Nat.le_refl _) (by rw [World.alloc_size']; omega) (Row.new _ _ _) ((Below.refl _ _).alloc (Nat.le_refl _) _)
end
end Go.Proofs.Ytfinekmegiengaa
