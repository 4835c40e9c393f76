/- The frame of a law's row: behind a walk that returns true and leaves what was there as it was, the row's post holds; the arguments' shapes. -/
import Derived.Test.YtfinekmegiengaaRows
import Derived.Test.YtfinekmegiengaaMemA
import Derived.ProofKit
import Derived.OpenShut
import Derived.SizedLaws
import Derived.SliceStrings
namespace Go.Proofs.Ytfinekmegiengaa
open Go.ChangeShapes Go.WideShapes Go.ChangeAt Go.RowKit

theorem Try.own : ownKnob Try.prog.godebug = none := by kernel_rfl
theorem Try.laidOut : laidOutB Try.prog = true := by kernel_rfl

/-! ### The closed facts on the program's head: its text is taken sign by sign (as one long string it costs the kernel too much memory). -/
def headCodes : List Nat := [
  104, 97, 114, 110, 101, 115, 115, 32, 101, 57, 53, 100, 55, 101, 49, 56, 54, 100, 49, 98, 101, 51, 56, 99, 97, 101, 101, 99, 101, 100, 100, 97, 51, 102, 51, 54, 49, 54, 98, 49,
  102, 52, 50, 48, 52, 50, 53, 99, 53, 51, 49, 99, 97, 102, 50, 50, 52, 52, 100, 57, 51, 49, 51, 101, 51, 52, 51, 48, 52, 48, 56, 55, 32, 99, 117, 116, 32, 97, 116, 32,
  110, 101, 112, 101, 110, 116, 104, 101, 47, 110, 101, 112, 101, 110, 116, 104, 101, 108, 97, 119, 48, 54, 46, 83, 98, 111, 120, 83, 117, 98, 115, 32, 110, 101, 112, 101, 110, 116, 104, 101,
  47, 110, 101, 112, 101, 110, 116, 104, 101, 108, 97, 119, 48, 54, 46, 83, 98, 111, 120, 87, 111, 114, 100, 115, 32, 110, 101, 112, 101, 110, 116, 104, 101, 47, 110, 101, 112, 101, 110, 116,
  104, 101, 108, 97, 119, 48, 54, 46, 83, 98, 111, 120, 76, 105, 115, 116, 115, 32, 110, 101, 112, 101, 110, 116, 104, 101, 47, 110, 101, 112, 101, 110, 116, 104, 101, 108, 97, 119, 48, 55,
  46, 65, 101, 115, 69, 120, 112, 97, 110, 100, 115, 32, 110, 101, 112, 101, 110, 116, 104, 101, 47, 110, 101, 112, 101, 110, 116, 104, 101, 108, 97, 119, 48, 55, 46, 65, 101, 115, 69, 110,
  99, 114, 121, 112, 116, 115, 32, 110, 101, 112, 101, 110, 116, 104, 101, 47, 110, 101, 112, 101, 110, 116, 104, 101, 108, 97, 119, 48, 55, 46, 65, 101, 115, 83, 104, 105, 102, 116, 115, 32,
  110, 101, 112, 101, 110, 116, 104, 101, 47, 110, 101, 112, 101, 110, 116, 104, 101, 108, 97, 119, 48, 55, 46, 65, 101, 115, 68, 101, 99, 114, 121, 112, 116, 115, 32, 110, 101, 112, 101, 110,
  116, 104, 101, 47, 110, 101, 112, 101, 110, 116, 104, 101, 108, 97, 119, 48, 55, 46, 65, 101, 115, 66, 97, 99, 107, 32, 110, 101, 112, 101, 110, 116, 104, 101, 47, 110, 101, 112, 101, 110,
  116, 104, 101, 108, 97, 119, 48, 55, 46, 65, 101, 115, 78, 105, 108, 32, 110, 101, 112, 101, 110, 116, 104, 101, 47, 110, 101, 112, 101, 110, 116, 104, 101, 108, 97, 119, 49, 55, 46, 83,
  108, 111, 116, 68, 101, 97, 100, 115, 32, 110, 101, 112, 101, 110, 116, 104, 101, 47, 110, 101, 112, 101, 110, 116, 104, 101, 108, 97, 119, 48, 57, 46, 88, 116, 115, 69, 110, 99, 114, 121,
  112, 116, 115, 32, 110, 101, 112, 101, 110, 116, 104, 101, 47, 110, 101, 112, 101, 110, 116, 104, 101, 108, 97, 119, 48, 57, 46, 88, 116, 115, 66, 108, 111, 99, 107, 115, 32, 110, 101, 112,
  101, 110, 116, 104, 101, 47, 110, 101, 112, 101, 110, 116, 104, 101, 108, 97, 119, 49, 55, 46, 83, 108, 111, 116, 82, 101, 97, 100, 115, 32, 110, 101, 112, 101, 110, 116, 104, 101, 47, 110,
  101, 112, 101, 110, 116, 104, 101, 108, 97, 119, 49, 55, 46, 83, 108, 111, 116, 66, 121, 116, 101, 115, 32, 110, 101, 112, 101, 110, 116, 104, 101, 47, 110, 101, 112, 101, 110, 116, 104, 101,
  108, 97, 119, 49, 48, 46, 87, 114, 97, 112, 87, 114, 97, 112, 115, 32, 110, 101, 112, 101, 110, 116, 104, 101, 47, 110, 101, 112, 101, 110, 116, 104, 101, 108, 97, 119, 49, 48, 46, 87,
  114, 97, 112, 85, 110, 119, 114, 97, 112, 115, 32, 110, 101, 112, 101, 110, 116, 104, 101, 47, 110, 101, 112, 101, 110, 116, 104, 101, 108, 97, 119, 49, 48, 46, 87, 114, 97, 112, 66, 97,
  99, 107, 32, 110, 101, 112, 101, 110, 116, 104, 101, 47, 110, 101, 112, 101, 110, 116, 104, 101, 108, 97, 119, 49, 48, 46, 87, 114, 97, 112, 65, 103, 97, 105, 110, 32, 110, 101, 112, 101,
  110, 116, 104, 101, 47, 110, 101, 112, 101, 110, 116, 104, 101, 108, 97, 119, 48, 57, 46, 88, 116, 115, 68, 101, 99, 114, 121, 112, 116, 115, 32, 110, 101, 112, 101, 110, 116, 104, 101, 47,
  110, 101, 112, 101, 110, 116, 104, 101, 108, 97, 119, 48, 57, 46, 88, 116, 115, 66, 97, 99, 107, 32, 110, 101, 112, 101, 110, 116, 104, 101, 47, 110, 101, 112, 101, 110, 116, 104, 101, 108,
  97, 119, 49, 55, 46, 83, 108, 111, 116, 77, 97, 107, 101, 115, 32, 110, 101, 112, 101, 110, 116, 104, 101, 47, 110, 101, 112, 101, 110, 116, 104, 101, 108, 97, 119, 49, 55, 46, 83, 108,
  111, 116, 75, 101, 121, 115, 32, 110, 101, 112, 101, 110, 116, 104, 101, 47, 110, 101, 112, 101, 110, 116, 104, 101, 108, 97, 119, 49, 54, 46, 83, 101, 97, 108, 83, 101, 97, 108, 115, 32,
  110, 101, 112, 101, 110, 116, 104, 101, 47, 110, 101, 112, 101, 110, 116, 104, 101, 108, 97, 119, 49, 54, 46, 83, 101, 97, 108, 84, 97, 103, 115, 32, 110, 101, 112, 101, 110, 116, 104, 101,
  47, 110, 101, 112, 101, 110, 116, 104, 101, 108, 97, 119, 49, 54, 46, 83, 101, 97, 108, 66, 97, 99, 107, 32, 110, 101, 112, 101, 110, 116, 104, 101, 47, 110, 101, 112, 101, 110, 116, 104,
  101, 108, 97, 119, 51, 52, 46, 66, 97, 99, 107, 117, 112, 66, 97, 99, 107]
theorem head_text : Try.prog.initOrder = String.ofList (headCodes.map Char.ofNat) := by kernel_rfl
theorem head_signs : Try.prog.initOrder.toList = headCodes.map Char.ofNat := by rw [head_text, String.toList_ofList]
theorem head_words : ∃ R, behindMainWord (wordsSigns Try.prog.initOrder.toList) = "cut".toList :: R :=
  ⟨(behindMainWord (wordsSigns (headCodes.map Char.ofNat))).tail, by rw [head_signs]; kernel_rfl⟩
theorem lifts_of {P : Program} {R : List (List Char)} (h : behindMainWord (wordsSigns P.initOrder.toList) = "cut".toList :: R) : P.headLifts = [] := by
  unfold Program.headLifts
  rw [h]
  rfl
theorem enter_of {P : Program} {R : List (List Char)} (h : behindMainWord (wordsSigns P.initOrder.toList) = "cut".toList :: R) (h1 : P.laysLater = false) (h2 : P.bearsReflect = false) (h3 : P.doorRows = []) : P.mayEnter = true := by
  unfold Program.mayEnter
  rw [h]
  unfold Program.doorFits
  rw [h1, h2, h3]
  rfl
theorem final_of {P : Program} {R : List (List Char)} (h : behindMainWord (wordsSigns P.initOrder.toList) = "cut".toList :: R) : P.liftsFinal = false := by
  unfold Program.liftsFinal
  rw [h, lifts_of h]
  rfl
theorem make_of {P : Program} {R : List (List Char)} (h : behindMainWord (wordsSigns P.initOrder.toList) = "cut".toList :: R) : P.make = some .cut := by
  unfold Program.make
  rw [h, lifts_of h]
  rfl
theorem head_enter : Try.prog.mayEnter = true := by
  obtain ⟨R, h⟩ := head_words
  exact enter_of h (by kernel_rfl) (by kernel_rfl) (by kernel_rfl)
theorem head_final : Try.prog.liftsFinal = false := by
  obtain ⟨R, h⟩ := head_words
  exact final_of h
theorem head_make : Try.prog.make = some .cut := by
  obtain ⟨R, h⟩ := head_words
  exact make_of h

theorem closed_of (P : Program) (f : FuncId) (fn : Func) (s : ChangeSpec) (c : OpenClaim) (hm : P.mayEnter = true) (hl : c.lifted = P.liftsFinal) (hk : P.make = some c.make)
    (h1 : (c.wf (OpenSpec.ofChange s) && (fn.params.all (P.readableRec ·) && (namedTie P c.named s.vars &&
      ((c.stops == []) && ((P.stops == []) && ((c.knobs == []) && (P.stopKnobs == [])))))))  = true)
    (h2 : (laidOutB P && mapsRowed P) = true)
    (h3 : ((c.inPlace == P.inPlace f) && ((c.unfollowed == P.unfollowed f) && ((c.recurses == P.recurses f) && (c.named == P.varsNamed f)))) = true)
    (h4 : ((c.maps == (fn.params.toList ++ s.plain.varTypes P).any (P.mapsRec ·)) && ((c.ifaces == (fn.params.toList ++ s.plain.varTypes P).any (P.ifacesRec ·)) && ((c.mapsOut == P.mapsAmong fn.resultTypes.toList) &&
      ((c.loops == (fn.params.toList ++ s.plain.varTypes P).any (P.loopsFrom ·)) && (c.wideKeys == (fn.params.toList ++ s.plain.varTypes P ++ fn.resultTypes.toList).any (P.wideKeysFrom ·)))))) = true)
    (h5 : (s.vars.all (P.varReadable ·) && (fn.resultTypes.all (fun t => P.readableRec t && decide (t < P.types.size)) && ((c.ifacesOut == fn.resultTypes.toList.any (P.ifacesRec ·)) && ((c.loopsOut == fn.resultTypes.toList.any (P.loopsFrom ·)) &&
      ((c.plainKeys == P.plainKeys) && (c.shortTexts.isNone && P.stopsHeard)))))) = true)
    (h6 : ((c.kinds == (if c.domain.isEmpty then [] else fn.params.toList.map fun t => match P.underlying t with | some (.int k) => some k | _ => none)) && ((c.pinned == c.pinnedBy) &&
      ((c.veiled == (fn.params.toList ++ s.plain.varTypes P ++ fn.resultTypes.toList).any (P.veiledRec ·)) && c.veiledFits P fn.params.toList (fn.params.toList ++ s.plain.varTypes P ++ fn.resultTypes.toList)))) = true) :
    joinedFacts P f fn s c = true := by
  have hl' : (c.lifted == P.liftsFinal) = true := beq_iff_eq.2 hl
  have hk' : (P.make == some c.make) = true := beq_iff_eq.2 hk
  simp only [Bool.and_eq_true] at h1 h2 h3 h4 h5 h6
  simp only [joinedFacts, Bool.and_eq_true]
  obtain ⟨a1, a2, a3, a4, a5, a6, a7⟩ := h1
  obtain ⟨b1, b2⟩ := h2
  obtain ⟨c1, c2, c3, c4⟩ := h3
  obtain ⟨d1, d2, d3, d4, d5⟩ := h4
  obtain ⟨e1, e2, e3, e4, e5, e6, e7⟩ := h5
  obtain ⟨f1, f2, f3, f4⟩ := h6
  refine ⟨⟨⟨⟨⟨⟨⟨⟨⟨⟨⟨⟨⟨⟨⟨⟨⟨⟨⟨⟨⟨⟨⟨⟨⟨⟨⟨⟨⟨⟨⟨?_, ?_⟩, ?_⟩, ?_⟩, ?_⟩, ?_⟩, ?_⟩, ?_⟩, ?_⟩, ?_⟩, ?_⟩, ?_⟩, ?_⟩, ?_⟩, ?_⟩, ?_⟩, ?_⟩, ?_⟩, ?_⟩, ?_⟩, ?_⟩, ?_⟩, ?_⟩, ?_⟩, ?_⟩, ?_⟩, ?_⟩, ?_⟩, ?_⟩, ?_⟩, ?_⟩, ?_⟩ <;> assumption

theorem trodAll_below {H : Type} {enc : TypeId × Value → H} {P : Program} (hl : laidOutB P = true) {W W' : World} (hb : Below W.heap.size W W') :
    ∀ (ts : List TypeId) (vs : List Value) (ds : List (DataW H)) (ps : List MemPlace), (∀ t ∈ ts, P.readableRec t = true ∧ t < P.types.size) → (∀ x ∈ ps, x.block < W.heap.size) →
      DataW.TrodAll enc P W 0 (fun _ => true) true ts vs ds ps → DataW.TrodAll enc P W' 0 (fun b => decide (b < W.heap.size)) true ts vs ds ps
  | [], vs, ds, ps, _, _, h => by
    obtain ⟨rfl, rfl, rfl⟩ := trodAll_nil h
    exact trodAll_mk0
  | t :: ts, vs, ds, ps, ht, hlt, h => by
    obtain ⟨v, vs', d, ds', p, q, rfl, rfl, rfl, h0, h1⟩ := trodAll_cons h
    have hr := ht t (by simp)
    exact trodAll_cons_mk (Below.trod hl hr.1 hr.2 h0 hb fun x hx => hlt x (by simp [hx]))
      (trodAll_below hl hb ts vs' ds' q (fun t' h' => ht t' (by simp [h'])) (fun x hx => hlt x (by simp [hx])) h1)

theorem law_post {H : Type} {enc : TypeId × Value → H} {P : Program} {fn : Func} {s : ChangeSpec} {W W' : World} {args : Array Value} {ds gs : List (DataW H)} {before : List MemPlace} {B : TypeId}
    (hW : DataW.Whole enc P fn.params.toList s.vars false W args.toList ds gs before) (hl : laidOutB P = true) (hv : s.vars = [])
    (hp : fn.params.toList.all (fun t => P.readableRec t && decide (t < P.types.size)) = true) (hres : fn.resultTypes = #[B]) (hB : P.underlying B = some .bool)
    (er : (s.fn H (ds ++ [])).results = [.lit (.bool true)]) (ea : (s.fn H (ds ++ [])).args = ds) (ev : (s.fn H (ds ++ [])).vars = [])
    (hb : Below W.heap.size W W') : s.post enc P fn false true false false W args (.bool true) W' := by
  have hW' := hW
  obtain ⟨p, q, hA, hV, rfl, hfz, hnd⟩ := hW
  rw [hv] at hV
  obtain ⟨rfl, rfl⟩ := trodVars_none hV
  have hlt : ∀ x ∈ p, x.block < W.heap.size := fun x hx => by simpa using hW'.lt x (by simpa using hx)
  have hp' : ∀ t ∈ fn.params.toList, P.readableRec t = true ∧ t < P.types.size := fun t ht => by
    have := List.all_eq_true.1 hp t ht
    simpa using this
  refine ⟨ds, [], p ++ [], [], p, [], hW', ?_, ?_, ?_, hb.frame _, fun h => by cases h⟩
  · rw [er, hres]
    exact trodAll_cons_mk (shut_bool hB true) trodAll_mk0
  · rw [ea]
    exact trodAll_below hl hb _ _ _ _ hp' hlt hA
  · rw [ev, hv]
    rfl

end Go.Proofs.Ytfinekmegiengaa
