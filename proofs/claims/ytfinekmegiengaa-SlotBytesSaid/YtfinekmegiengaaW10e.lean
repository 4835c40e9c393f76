/- The walk of layer 10's reference: bytes wrapped, unwrapped. -/
import Derived.Test.YtfinekmegiengaaW10d
import Derived.Test.YtfinekmegiengaaL10
namespace Go.Proofs.Ytfinekmegiengaa
open Go.RowKit Nep
set_option maxRecDepth 100000
set_option linter.unusedVariables false
set_option linter.unusedSimpArgs false
set_option maxHeartbeats 2000000

/-- a cut of bytes, as a run -/
theorem run_cutM {B : Nat} {w : World} {v : Value} {l : List Nat} (h : RdB B w v l) (L H : Nat) (hLH : L ≤ H) (hHn : H ≤ l.length) {N M : Int} (hN : N = L) (hM : M = H) :
    ∃ v', (∀ W, (Instr.slice 28 v (some (.int .i64 N)) (some (.int .i64 M)) none).run Try.prog W = .ok v' W) ∧ RdB B w v' ((l.drop L).take (H - L)) := by
  subst hN hM
  obtain ⟨v', hr, hd⟩ := run_sliceS Try.underlying28 size_u8 h (some (.int .i64 (L : Int))) (some (.int .i64 (H : Int))) none L H (.inr ⟨_, rfl⟩) (.inr ⟨_, rfl⟩) (.inl rfl) hLH hHn
  refine ⟨v', hr, ?_⟩
  unfold RdB
  rw [Nat.mul_one, Nat.mul_one, bv_drop, bv_take] at hd
  have hl : ((l.drop L).take (H - L)).length = H - L := by rw [List.length_take, List.length_drop]; omega
  rw [hl]
  exact hd
theorem own_lit0 (w : World) : (w.alloc (.cells #[] 5)).ownsRow w.heap.size 5 1 (.slice (some ⟨w.heap.size, 0, none⟩) 0 0) ([] : List Nat).length (bv []) :=
  own_of_row (Row.new w 5 #[]) (n := 0) rfl (Nat.le_refl _) (by unfold maxLen; omega)

theorem wpList_rem {w : World} {ops : Array Oper} {rest : List Oper} {o : Oper} {a : Act} {Q : Exit → Act → World → Prop} {t yt : TypeId} {x y : Operand} {k : IntKind} {A B : Int} (R : Int) (hB : ¬ B = 0) (hR : Int.tmod A B = R)
    (hg : Region.wanted o (yielded ops a.tmps) = true) (ho : o.op = .binOp .rem t x y yt) (hx : a.eval x = .int k A) (hy : a.eval y = .int k B)
    (h : wpList Try.prog ops Q rest (a.put o.dst (.int k R)) w) : wpList Try.prog ops Q (o :: rest) a w := by
  refine wpList_go hg fun K hK' => ?_
  have hr : (binOp .rem t (.int k A) (.int k B)).run Try.prog w = .ok (.int k R) w := by
    rw [binOp_rem]
    unfold Op.intDiv
    rw [if_neg hB, hR]
    rfl
  unfold Oper.wp
  simp only [execOp, ho, hx, hy, Sem.run_bind, eqGuard_rem, Sem.run_pure, Result.andThen_ok, hr]
  exact hK' _ _ h

theorem rwrap_calls (v1 v2 v3 : Value) (key b t : List Nat) (n : Nat) (w : World) (hkb : Bytes key) (hr1 : RdB w.heap.size w v1 key) (h32 : key.length = 32) (hbb : Bytes b) (hr2 : RdB w.heap.size w v2 b) (hr3 : RdB w.heap.size w v3 t) (ht : t = sboxL) (hl : b.length = 8 * n) (hn2 : 2 ≤ n) (hn32 : n ≤ 32) :
    Calls Try.prog 70 #[v1, v2, v3] w (RetS (wrapT key b n) w) := by
  have hE := encE_blocks key h32 hkb
  have C3 : RowKit.Hid (∀ w, Calls Try.prog 125 #[.int .u8 166, .int .i64 8] w (RetS ivA w)) := Lib.hid (fun w => rfill_calls 166 8 rfl rfl (by omega) w)
  have CE : RowKit.Hid (∀ x, x.length = 16 → Bytes x → ∀ va w, RdB w.heap.size w v1 key → RdB w.heap.size w va x → RdB w.heap.size w v3 t → Calls Try.prog 44 #[v1, va, v3] w (RetS (encE key x) w)) := Lib.hid (fun x hx hxb va w a c d => by
    have h := renc_calls v1 va v3 key x t w hkb a h32 hxb c hx d ht
    rwa [encE_eq key x h32 hkb] at h)
  have hst := st_parts (n := n) hl hbb ivA_oct
  unfold wrapT
  generalize encE key = E at *
  obtain ⟨p, hp⟩ : ∃ p : Nat → List Nat × List (List Nat), p = wrapAR E n (ivA, parts8 b n) := ⟨_, rfl⟩
  have hpst : ∀ t, St n (p t) := fun t => by rw [hp]; exact wrapAR_st hE (by omega) hst t
  have hps : ∀ t, flatP (p (t + 1)) = refWrap E (t + 1) (t % n) (flatP (p t)) := fun t => by rw [refWrap_eq E (hpst t) (Nat.mod_lt _ (by omega)), hp]; rfl
  have hp0 : flatP (p 0) = ivA ++ b := by rw [hp]; exact flatP_parts hl ivA
  rw [show wrapAR E n (ivA, parts8 b n) (6 * n) = p (6 * n) from by rw [hp]]
  have HE := Lib.hid hE
  have HST := Lib.hid hpst
  have HPS := Lib.hid hps
  have HP0 := Lib.hid hp0
  have HBL := Lib.hid hl
  have hbl : b.length ≤ 256 := by omega
  have hdiv : (b.length : Int) / 8 = (n : Int) := by omega
  clear hE hst hpst hps hp0 hp hl h32 ht
  go_enter Try.func70, Try.ntmps70
  have hr10 := hr1
  have hr20 := hr2
  have hr30 := hr3
  go_wp2_with (first
    | (go_at_call 125; refine (C3.out _).mono ?_; rintro e w1 ⟨va, rfl, ha1, hb1⟩; replace hr1 := hr1.next hb1; replace hr2 := hr2.next hb1; replace hr3 := hr3.next hb1)
    | (at_builtin; apply wpList_appendB ha1 hr2; rfl; rfl; rfl; rfl; simp [ivA]; omega; exact hb1.size; intro v' w' hown' hgr'; have hb' := below_own hgr' ha1 (Nat.le_refl _) hb1.size; replace hr2 := hr20.mono (hb1.trans hb'))
    | (refine wpList_lenB hr2 rfl rfl rfl ?_))
  have hb01 : Below w.heap.size w w' := hb1.trans hb'
  rw [← HP0.out] at hown'
  clear hr1 hr2 hr3 hb1 hb' hgr' ha1
  go_loopw [7, 9] (fun s ii wr => ∃ j : Nat, j ≤ 6 * n ∧ ii = .int .i64 ((j + 1 : Nat) : Int) ∧ wr.ownsRow w.heap.size 5 1 s (flatP (p j)).length (bv (flatP (p j))) ∧ Below w.heap.size w wr) (fun _ ii _ => 6 * n + 1 - (intOf ii).toNat)
  case atStart => exact ⟨0, by omega, rfl, hown', hb01⟩
  case round =>
    obtain ⟨j, hj, rfl, hown, hbj⟩ := hrel
    clear hown' hb01
    obtain ⟨j1, hj1⟩ : ∃ j1, j1 = j + 1 := ⟨_, rfl⟩
    rw [← hj1]
    obtain ⟨m6, hm6⟩ : ∃ m6, m6 = 6 * n := ⟨_, rfl⟩
    have e0 : IntKind.i64.wrap (6 * (n : Int)) = (m6 : Int) := by rw [IntWalk.i64_in _ (by omega)]; omega
    by_cases hlt : j < 6 * n
    · obtain ⟨i, hi⟩ : ∃ i, i = j % n := ⟨_, rfl⟩
      have hin : i < n := by rw [hi]; exact Nat.mod_lt _ (by omega)
      have hlt' : (j1 : Int) ≤ (m6 : Int) := by omega
      have e1 : IntKind.i64.wrap ((j1 : Int) - 1) = (j : Int) := by rw [IntWalk.i64_in _ (by omega)]; omega
      have e2 : Int.tmod (j : Int) (n : Int) = (i : Int) := by rw [hi]; exact Int.ofNat_tmod j n
      have e2' : (j : Int) % (n : Int) = (i : Int) := by rw [hi]; rfl
      have hn0 : ¬ (n : Int) = 0 := by omega
      have HJ1 := Lib.hid hj1
      have HM6 := Lib.hid hm6
      have HI := Lib.hid hi
      have HLT := Lib.hid hlt
      have fle : decide ((j1 : Int) ≤ (m6 : Int)) = true := by simp; omega
      have hj1b : j1 ≤ 200 := by omega
      have hjb : j ≤ 200 := by omega
      clear hj1 hm6 hi hlt hj e2'
      go_wp2_with (first | (refine wpList_rem (i : Int) hn0 e2 rfl rfl rfl rfl ?_; clear hn0))
      obtain ⟨c, hc⟩ : ∃ c, c = 8 * (i + 1) := ⟨_, rfl⟩
      have eat : (8 : Int) * ((i : Int) + 1) = (c : Int) := by omega
      rw [eat]
      have hst := HST.out j
      have hLb := flatP_bytes hst
      have hLl := flatP_length hst
      have hstep := HPS.out j
      rw [← HI.out] at hstep
      obtain ⟨L, hL⟩ : ∃ L, L = flatP (p j) := ⟨_, rfl⟩
      rw [← hL] at hLb hLl hstep hown
      have hs := RdB.of_own hown
      have hcn : c + 8 ≤ L.length := by omega
      obtain ⟨u1, hu1, hd1⟩ := run_cutTo hs 8 (by omega) (M := 8) rfl
      obtain ⟨u2, hu2, hd2⟩ := run_cutM hs c (c + 8) (by omega) hcn (N := (c : Int)) (M := (c : Int) + 8) rfl (by omega)
      obtain ⟨u3, hu3, hd3⟩ := run_cutM hs 8 c (by omega) (by omega) (N := 8) (M := (c : Int)) rfl rfl
      obtain ⟨u4, hu4, hd4⟩ := run_cutFrom hs (c + 8) hcn (M := (c : Int) + 8) (by omega)
      rw [show c + 8 - c = 8 from by omega] at hd2
      obtain ⟨x, hx⟩ : ∃ x, x = refX E i L := ⟨_, rfl⟩
      have hstep2 : flatP (p (j + 1)) = mix8 (x.take 8) j1 ++ (L.drop 8).take (c - 8) ++ x.drop 8 ++ L.drop (c + 8) := by
        rw [hstep, hx, HJ1.out]; unfold refWrap
        rw [List.drop_take, hc]
      unfold refX at hx
      rw [← hc] at hx
      have ho1 : Oct (L.take 8) := ⟨by rw [List.length_take]; omega, fun y hy => hLb y (List.mem_of_mem_take hy)⟩
      have ho2 : Oct ((L.drop c).take 8) := ⟨by rw [List.length_take, List.length_drop]; omega, fun y hy => hLb y (List.mem_of_mem_drop (List.mem_of_mem_take hy))⟩
      have hl3 : ((L.drop 8).take (c - 8)).length ≤ 300 := by rw [List.length_take, List.length_drop]; omega
      have hl4 : (L.drop (c + 8)).length ≤ 300 := by rw [List.length_drop]; omega
      generalize L.take 8 = d1 at *
      generalize (L.drop c).take 8 = d2 at *
      generalize (L.drop 8).take (c - 8) = d3 at *
      generalize L.drop (c + 8) = d4 at *
      have hz := ho1.app ho2
      have hxb := HE.out _ hz.1 hz.2
      rw [← hx] at hxb
      have CX : RowKit.Hid (∀ va w, RdB w.heap.size w v1 key → RdB w.heap.size w va (([] ++ d1) ++ d2) → RdB w.heap.size w v3 t → Calls Try.prog 44 #[v1, va, v3] w (RetS x w)) := Lib.hid (fun va w a b c => hx ▸ CE.out (d1 ++ d2) hz.1 hz.2 va w a b c)
      have hto := oct_take hxb.1 hxb.2
      have CM : RowKit.Hid (∀ va w, RdB w.heap.size w va (x.take 8) → Calls Try.prog 131 #[va, .int .i64 (j1 : Int)] w (RetS (mix8 (x.take 8) j1) w)) := Lib.hid (fun va w h => rmixed10_calls va _ j1 rfl (by omega) w hto.2 h hto.1)
      have hml := (mix8_blk (x.take 8) j1 hto.1 hto.2).1
      have hxd : (x.drop 8).length = 8 := (oct_drop hxb.1 hxb.2).1
      have HXL := Lib.hid hxb.1
      have HSTEP := Lib.hid hstep2
      have h1l := ho1.1
      have h2l := ho2.1
      have hcb : c ≤ 300 := by omega
      have ec8 : IntKind.i64.wrap ((c : Int) + 8) = (c : Int) + 8 := IntWalk.i64_in _ (by omega)
      have hbs := hbj.size
      have hkr := hr10.next hbj
      have htr := hr30.next hbj
      clear hst hLb hLl hstep hL hown hs hcn hx hstep2 ho1 ho2 hz hxb hto hc eat
      go_region_held3 (fun w' => Below wr.heap.size wr.drew w')
        (first | exact Below.refl _ _ | exact (‹Below _ wr.drew _›).trans (hb7.mono (‹Below _ wr.drew _›).size) | exact (‹Below _ wr.drew _›).trans hb6 | exact (‹Below _ wr.drew _›).trans hb5 | exact (‹Below _ wr.drew _›).alloc (‹Below _ wr.drew _›).size _)
        (first
          | (apply step_appendB (own_lit0 wr.drew) (hd1.next (Below.drewn ‹Below _ wr.drew _›)); rfl; rfl; rfl; rfl; simp; omega; exact (‹Below _ wr.drew _›).size; intro v5 w5 ho5 hg5; have hb5 := below_own hg5 (own_lit0 wr.drew) (Nat.le_refl _) (‹Below _ wr.drew _›).size)
          | (apply step_appendB ho5 (hd2.next (Below.drewn ‹Below _ wr.drew _›)); rfl; rfl; rfl; rfl; simp; omega; exact (‹Below _ wr.drew _›).size; intro v6 w6 ho6 hg6; have hb6 := below_own hg6 ho5 (Nat.le_refl _) (‹Below _ wr.drew _›).size)
          | (go_at_call 44; refine (CX.out _ _ (hkr.next (Below.drewn ‹Below _ wr.drew _›)) (RdB.of_own ho6) (htr.next (Below.drewn ‹Below _ wr.drew _›))).mono ?_; rintro e w7 ⟨v7, rfl, ho7, hb7⟩))
      have hS7 := Below.drewn (w := wr) ‹Below _ wr.drew w7›
      have hx7 := RdB.of_own ho7
      obtain ⟨y1, hy1, hf1⟩ := run_cutTo hx7 8 (by rw [HXL.out]; omega) (M := 8) rfl
      obtain ⟨y2, hy2, hf2⟩ := run_cutFrom hx7 8 (by rw [HXL.out]; omega) (M := 8) rfl
      have hd37 := hd3.next hS7
      have hd47 := hd4.next hS7
      clear hu1 hu2 hd1 hd2 hd3 hd4 hkr htr ho5 ho6 ho7 hb5 hb6 hb7 hg5 hg6 hx7 CX
      go_wp2_with fail
      go_region_held3 (fun w' => Below w7.heap.size w7.drew w')
        (first | exact Below.refl _ _ | exact (‹Below _ w7.drew _›).trans hb9 | exact (‹Below _ w7.drew _›).trans (hb8.mono (‹Below _ w7.drew _›).size))
        (first
          | (go_at_call 131; refine (CM.out _ _ (hf1.next (Below.drewn ‹Below _ w7.drew _›))).mono ?_; rintro e w8 ⟨v8, rfl, ho8, hb8⟩)
          | (apply step_appendB ho8 (hd37.next (Below.drewn ‹Below _ w7.drew _›)); rfl; rfl; rfl; rfl; rw [hml]; omega; exact hb8.size; intro v9 w9 ho9 hg9; have hb9 := below_own hg9 ho8 (by exact Nat.le_refl _) hb8.size))
      have hS9 := Below.drewn (w := w7) ‹Below _ w7.drew w9›
      have hf29 := hf2.next hS9
      have hd49 := hd47.mono hS9
      have s7 := hS7.size
      have s9 := hS9.size
      have hbw9 : Below w.heap.size w w9 := hbj.trans ((hS7.mono hbs).trans (hS9.mono (Nat.le_trans hbs s7)))
      have hw7 : w.heap.size ≤ w7.heap.size := Nat.le_trans hbs s7
      clear hy1 hf1 hf2 hd37 hd47 hb8 ho8 hb9 hg9 CM
      go_wp2_with (first
        | (at_builtin; apply wpList_appendB ho9 hf29; rfl; rfl; rfl; rfl; rw [List.length_append, hml, hxd]; omega; exact s9; intro v10 w10 ho10 hg10; have hb10 := below_own hg10 ho9 (Nat.le_refl _) s9; have hd410 : RdB w7.heap.size w10 u4 d4 := hd49.mono hb10)
        | (at_builtin; apply wpList_appendB ho10 hd410; rfl; rfl; rfl; rfl; rw [List.length_append, List.length_append, hml, hxd]; omega; exact Nat.le_trans s9 hb10.size; intro v11 w11 ho11 hg11; have hb11 := below_own hg11 ho10 (Nat.le_refl _) (Nat.le_trans s9 hb10.size)))
      go_roundw
      case rel => exact ⟨j + 1, by have := HLT.out; omega, by rw [HJ1.out]; go_num, by rw [HSTEP.out]; exact own_base ho11 hw7, hbw9.trans ((hb10.mono (by exact hw7)).trans (hb11.mono (by exact hw7)))⟩
      case measure => have := HLT.out; have := HJ1.out; simp [intOf]; omega
    · obtain rfl : j = 6 * n := by omega
      have hnle : ¬ ((j1 : Int) ≤ (m6 : Int)) := by omega
      have fle : decide ((j1 : Int) ≤ (m6 : Int)) = false := by simp; omega
      have hj1b : j1 ≤ 200 := by omega
      have hm6b : m6 ≤ 200 := by omega
      clear hj1 hm6 hlt hj
      go_wp2_with fail
      go_ret
      exact ⟨_, rfl, hown, hbj⟩
end Go.Proofs.Ytfinekmegiengaa
