/- SlotBytes holds of every input: its row. No condition. -/
import Derived.Test.YtfinekmegiengaaLawE
import Derived.Test.YtfinekmegiengaaL17b
namespace Go.Proofs.Ytfinekmegiengaa
open Go.ChangeShapes Go.WideShapes Go.ChangeAt Go.RowKit
set_option maxRecDepth 100000
set_option linter.unusedVariables false

theorem slotBytes_lifted (os : Os) (started : os.Started) (H : Type) (enc : TypeId × Value → H) :
    ReturnsInHanded {} Try.checked os 16 .any (Rows.slotBytesSpec.pre6 enc Try.prog Try.f16 Rows.slotBytesRow.domain false) (Rows.slotBytesSpec.post enc Try.prog Try.f16 false true false false) := by
  refine returnsInHanded_of_change_sized (C := Try.checked) Try.own started (by kernel_rfl) Try.func16
    (ChangeSpec.witness6 (enc := enc) (C := Try.checked) false ⟨#[], #[.agg #[.bool false, .int .i64 0, .int .u64 0, .int .u64 0, .slice none 0 0]], []⟩ 8 (by kernel_rfl) (by kernel_rfl) (by kernel_rfl) (by kernel_rfl)) ?_
  intro W base args ds gs before hval0 hW hcnd hsz0 _
  have hval : ∀ (j : Nat) t v, Try.f16.params[j]? = some t → args[j]? = some v → Value.okWide Try.prog W .any base t v := hval0
  have hsz : (DataW.weightsEach Try.prog (Try.f16.params.toList ++ Rows.slotBytesSpec.plain.varTypes Try.prog) (ds ++ gs)).all (· ≤ reachBytes) = true := hsz0
  have hW1 := hW
  obtain ⟨p, q, hA0, hV, rfl, hfz, hnd⟩ := hW
  have hA : DataW.TrodAll enc Try.prog W 0 (fun _ => true) true Try.f16.params.toList args.toList ds p := hA0
  rw [Try.params16] at hA hval hsz
  obtain ⟨v0, vs0, d0, ds0, p0, q0, hargs, rfl, rfl, h0, r0⟩ := trodAll_cons hA
  obtain ⟨rfl, rfl, rfl⟩ := trodAll_nil r0
  obtain rfl : args = #[v0] := by cases args; simp_all
  obtain ⟨rfl, rfl⟩ := trodVars_none hV
  have hlt : ∀ x ∈ p0, x.block < W.heap.size := fun x hx => by simpa using hW1.lt x (by simpa using hx)
  obtain ⟨u0, s0, e0, c0, v0s, l0, rfl, hs0, he0, hc0, hb0, hr0⟩ := open_slot (hval 0 55 v0 rfl rfl) h0 (fun x hx => hlt x (by simp [hx]))
  have hq0 := hr0
  obtain ⟨_, a0, k0, rfl, _⟩ := hq0
  refine (slotBytes_walk u0 s0 e0 c0 a0 k0 l0 W hb0 he0 hc0 hr0).mono fun e W1 ⟨he, hg⟩ => ?_
  exact ⟨_, he, law_post hW1 Try.laidOut rfl (by kernel_rfl) rfl Try.underlying4 rfl rfl rfl hg⟩

theorem slotBytes_holds : Rows.SlotBytesSaid :=
  OpenClaim.holds_of_wide 16 Try.f16 rfl rfl rfl rfl rfl rfl rfl ⟨rfl, rfl, rfl, rfl, rfl⟩ rfl rfl rfl rfl rfl (by as_aux_lemma => kernel_rfl) Try.func16
    (closed_of _ _ _ _ _ head_enter head_final.symm head_make (by as_aux_lemma => kernel_rfl) (by as_aux_lemma => kernel_rfl) (by as_aux_lemma => kernel_rfl) (by as_aux_lemma => kernel_rfl) (by as_aux_lemma => kernel_rfl) (by as_aux_lemma => kernel_rfl))
    (of_decide_eq_true (by as_aux_lemma => kernel_rfl)) (by unfold Func.isWrapper; first | (rw [if_pos (by decide +kernel)]; kernel_rfl) | (rw [if_neg (by decide +kernel)]; exact ⟨rfl, rfl⟩))
    (fun os started H enc _ => slotBytes_lifted os started H enc)
#print axioms slotBytes_holds
end Go.Proofs.Ytfinekmegiengaa
