/- The walk of layer 7: a key. -/
import Derived.Test.YtfinekmegiengaaW07b
import Derived.Test.YtfinekmegiengaaPlainE
import Derived.Test.YtfinekmegiengaaReg
import Derived.Deep.RegionHeld3
namespace Go.Proofs.Ytfinekmegiengaa
open Go.RowKit Nep
set_option maxRecDepth 100000
set_option linter.unusedVariables false
set_option linter.unusedSimpArgs false
set_option maxHeartbeats 1000000

/-- p points to a key, of which these are the rounds' bytes; it lies in blocks below B -/
def KeyAt (B : Nat) (w : World) (p : Value) (rk : List Nat) : Prop := ∃ kb sv, p = .pointer (some ⟨kb, 0, none⟩) ∧ kb < B ∧ w.cell? ⟨kb, 0, none⟩ = some sv ∧ RdS B 16 w sv 15 (bv rk)
theorem KeyAt.mono {B : Nat} {w w' : World} {p : Value} {rk : List Nat} (h : KeyAt B w p rk) (hb : Below B w w') : KeyAt B w' p rk := by
  obtain ⟨kb, sv, hp, hk, hc, hr⟩ := h
  exact ⟨kb, sv, hp, hk, (hb.cell (by exact hk)).trans hc, hr.mono hb⟩
theorem KeyAt.up {B B' : Nat} {w : World} {p : Value} {rk : List Nat} (h : KeyAt B w p rk) (hB : B ≤ B') : KeyAt B' w p rk := by
  obtain ⟨kb, sv, hp, hk, hc, hr⟩ := h
  exact ⟨kb, sv, hp, Nat.lt_of_lt_of_le hk hB, hc, hr.up hB⟩
/-- it returns a key, and OK -/
def RetK (rk : List Nat) (w : World) (e : Ending) (w' : World) : Prop := ∃ p, e = .returned (.tuple #[p, .int .i64 0]) ∧ KeyAt w'.heap.size w' p rk ∧ Below w.heap.size w w'
/-- it returns nil and an error -/
def RetPE (c : Int) (w : World) (e : Ending) (w' : World) : Prop := e = .returned (.tuple #[.pointer none, .int .i64 c]) ∧ Below w.heap.size w w'

theorem new_short (v : Value) (key : List Nat) (w : World) (hr : RdB w.heap.size w v key) (h : key.length ≠ 32) : Calls Try.prog 37 #[v] w (RetPE 2 w) := by
  go_enter Try.func37, Try.ntmps37
  go_wp2_with (first | (go_at_call 36; refine (expand_short _ _ _ hr h).mono ?_; rintro e w' ⟨rfl, hb⟩))
  go_ret2
  exact ⟨rfl, hb⟩

theorem info_a16 : (Try.prog.info? 49).map (fun i => (i.zero, i.size, i.bytes)) = some (some (.agg (Array.replicate 16 (.int .u8 0))), 16, 16) := by kernel_rfl
theorem size_a16 : (Try.prog.info? 49).map (·.size) = some 16 := by kernel_rfl

theorem sixteen {α : Type} {l : List α} (h : l.length = 16) : ∃ c0 c1 c2 c3 c4 c5 c6 c7 c8 c9 c10 c11 c12 c13 c14 c15, l = [c0, c1, c2, c3, c4, c5, c6, c7, c8, c9, c10, c11, c12, c13, c14, c15] := by
  match l, h with
  | [c0, c1, c2, c3, c4, c5, c6, c7, c8, c9, c10, c11, c12, c13, c14, c15], _ => exact ⟨_, _, _, _, _, _, _, _, _, _, _, _, _, _, _, _, rfl⟩

theorem new_calls (v : Value) (key : List Nat) (w : World) (hb : Bytes key) (hr : RdB w.heap.size w v key) (h32 : key.length = 32) : Calls Try.prog 37 #[v] w (RetK (flatL key) w) := by
  obtain ⟨ws, hws⟩ : ∃ ws, ws = wsL key := ⟨_, rfl⟩
  obtain ⟨rk, hrk⟩ : ∃ rk, rk = flatL key := ⟨_, rfl⟩
  have hwl : ws.length = 60 := by rw [hws, wsL_length]
  have hrl : rk.length = 240 := by rw [hrk, flatL_length key h32 hb]
  have hrb : Bytes rk := by rw [hrk]; exact flatL_bytes key h32 hb
  have hst : ∀ r j, 4 * r + j < 60 → (rk.drop (16 * r)).take (4 * (j + 1)) = (rk.drop (16 * r)).take (4 * j) ++ big (ws.getD (4 * r + j) 0) 4 := by
    intro r j hj
    rw [hrk, flat_step key h32 hb r j hj, hws, wsL_get key _ hj, big_num (expL_at key h32 hb _ hj)]
  have hwlt : ∀ i, ws.getD i 0 < 4294967296 := fun i => by rw [hws]; exact wsL_lt key h32 hb i
  have C := Lib.hid (fun w hr => hws ▸ expand_calls v key w hb hr h32)
  have HWL := Lib.hid hwl
  have HRL := Lib.hid hrl
  have HST := Lib.hid hst
  have HLT := Lib.hid hwlt
  rw [← hrk]
  clear hws hrk hwl hrl hst hwlt
  go_enter Try.func37, Try.ntmps37
  go_wp2_with (first | (go_at_call 36; refine (C.out _ hr).mono ?_; rintro e w1 ⟨vw, rfl, hw1, hb1⟩))
  have hrw1 : Row (w1.alloc (.cells #[.slice none 0 0] 53)) w1.heap.size 53 #[.slice none 0 0] := Row.new _ _ _
  have hws2 : RdW w1.heap.size (w1.alloc (.cells #[.slice none 0 0] 53)) vw ws := (RdW.of_own hw1).mono ((Below.refl _ _).alloc (Nat.le_refl _) _)
  have hb2 : Below w.heap.size w (w1.alloc (.cells #[.slice none 0 0] 53)) := hb1.alloc hb1.size _
  have hlt2 : w1.heap.size < (w1.alloc (.cells #[.slice none 0 0] 53)).heap.size := by rw [World.alloc_size']; omega
  have hkw := hb1.size
  clear hw1 hb1 hr C
  generalize w1.alloc (.cells #[.slice none 0 0] 53) = w2 at *
  generalize w1.heap.size = kb at *
  go_loopw [21] (fun i wr => ∃ (r : Nat) (sv : Value), r ≤ 15 ∧ i = .int .i64 r ∧ Row wr kb 53 #[sv] ∧ wr.ownsRow (kb + 1) 49 16 sv r (bv (rk.take (16 * r))) ∧ Below kb w2 wr ∧ kb < wr.heap.size) (fun i _ => 15 - (intOf i).toNat)
  case atStart => exact ⟨0, _, by omega, rfl, hrw1, World.ownsRow_nil _ _ _ _, Below.refl _ _, hlt2⟩
  case round =>
    obtain ⟨r, sv, hr15, rfl, hrow, hown, hbr, hkr⟩ := hrel
    clear hrw1
    have hwr := hws2.mono hbr
    by_cases hlt : r < 15
    · obtain ⟨wq, hwq⟩ : ∃ wq, wq = (ws.drop (4 * r)).take (4 * r + 4 - 4 * r) := ⟨_, rfl⟩
      have hql : wq.length = 4 := by rw [hwq, List.length_take, List.length_drop, HWL.out]; omega
      have hqg : ∀ j, j < 4 → wq.getD j 0 = ws.getD (4 * r + j) 0 := by
        intro j hj
        rw [hwq]
        simp only [List.getD_eq_getElem?_getD, List.getElem?_take, List.getElem?_drop, if_pos (show j < 4 * r + 4 - 4 * r by omega)]
      have hql1 : wq.length ≤ 4 := by omega
      have hql2 : 4 ≤ wq.length := by omega
      have hcw : 4 * r + 4 ≤ ws.length := by rw [HWL.out]; omega
      have HQ := Lib.hid hwq
      have HQG := Lib.hid hqg
      clear hwq hql hqg
      go_wp2_with (first
          | (apply wpList_cutW hwr (4 * r) (4 * r + 4); rfl; rfl; rfl; exact .inr ⟨_, _, rfl, by omega⟩; exact .inr ⟨_, _, rfl, by omega⟩; exact .inl rfl; omega; omega; intro vq hrq; rw [← HQ.out] at hrq)
          | (refine wpList_lenW hrq rfl rfl rfl ?_))
      obtain ⟨wo, rfl⟩ : ∃ wo : World, wo = wr := ⟨_, rfl⟩
      go_loopw [8, 32] (fun s i wi => ∃ j : Nat, j ≤ 4 ∧ i = .int .i64 j ∧ wi.ownsRow wo.heap.size 5 1 s ((rk.drop (16 * r)).take (4 * j)).length (bv ((rk.drop (16 * r)).take (4 * j))) ∧ Below wo.heap.size wo wi) (fun _ i _ => 4 - (intOf i).toNat)
      case atStart => exact ⟨0, by omega, rfl, World.ownsRow_nil _ _ _ _, Below.refl _ _⟩
      case round =>
        obtain ⟨j, hj4, rfl, hob, hbi⟩ := hrel
        have hrqi := hrq.mono (hbi.mono (Nat.le_of_lt hkr))
        by_cases hj : j < 4
        · obtain ⟨x, hx⟩ : ∃ x, x = wq.getD j 0 := ⟨_, rfl⟩
          have hst2 : (rk.drop (16 * r)).take (4 * (j + 1)) = (rk.drop (16 * r)).take (4 * j) ++ big x 4 := by rw [hx, HQG.out j hj]; exact HST.out r j (by omega)
          have hx32 : x < 4294967296 := by rw [hx, HQG.out j hj]; exact HLT.out _
          have hl1 : ((rk.drop (16 * r)).take (4 * j)).length ≤ 16 := by rw [List.length_take]; omega
          have hl2 : (big x 4).length ≤ 4 := by rw [big_length]; exact Nat.le_refl _
          have C1 : ∀ w, Calls Try.prog 103 #[.int .u64 (x : Int), .int .i64 4] w (RetS (big x 4) w) := fun w => big_calls x 4 rfl rfl (by omega) (by omega) w
          have HC1 := Lib.hid C1
          have HST2 := Lib.hid hst2
          have HX := Lib.hid hx
          clear hst2 C1 hx
          obtain ⟨b4, hb4⟩ : ∃ b4, b4 = big x 4 := ⟨_, rfl⟩
          rw [← hb4] at HC1 HST2 hl2
          clear hb4
          have hbs := hbi.size
          go_wp2_with (first
            | (apply wpList_indexW hrqi j; omega; rfl; rfl; rfl; rfl; omega; rw [← HX.out]; intro p hp hcell)
            | (go_at_call 103; refine (HC1.out _).mono ?_; rintro e w' ⟨v1, rfl, ho1, hb1⟩; replace hob := own_next hob hb1; replace hbi := hbi.trans (hb1.mono hbs); replace hbs := hbi.size)
            | (at_builtin; apply wpList_appendB hob (RdB.of_own ho1); rfl; rfl; rfl; rfl; omega; omega; intro v2 w2 hown' hgr'))
          go_roundw
          case rel => exact ⟨j + 1, by omega, by go_num, by rw [HST2.out]; exact hown', hbi.trans (below_own hgr' hob (Nat.le_refl _) hbs)⟩
          case measure => simp [intOf]; omega
        · obtain rfl : j = 4 := by omega
          have hrl := HRL.out
          have hlen : ((rk.drop (16 * r)).take (4 * 4)).length = 16 := by rw [List.length_take, List.length_drop]; omega
          obtain ⟨cs, hcs⟩ : ∃ cs, cs = (rk.drop (16 * r)).take (4 * 4) := ⟨_, rfl⟩
          rw [← hcs] at hob hlen
          rw [hlen] at hob
          have HCS := Lib.hid hcs
          clear hcs
          have hcl : (bv cs).length = 16 := by rw [bv_length, hlen]
          obtain ⟨hl16, hob2⟩ := hob
          rcases hob2 with ⟨_, hn⟩ | ⟨g, cap, cur, rfl, hgb, hgg, hgr⟩
          · simp at hn
          have hrg : wr.rangeAt g 0 (bv cs) := by
            obtain ⟨h1, h2, h3, h4⟩ := hgr
            intro jj x hx
            rw [Nat.zero_add, cell_of_row wr g jj cur _ _ hgg]
            rw [← h4, List.getElem?_take] at hx
            split at hx
            · simpa using hx
            · cases hx
          have hwk : kb + 1 ≤ wo.heap.size := hkr
          have hwi := hbi.size
          have hrow0 := (hrow.next hbi)
          have hcw : wr.drew.cell? ⟨kb, 0, none⟩ = some sv := hrow0.cell rfl
          have hown0 : wr.drew.ownsRow (kb + 1) 49 16 sv r (bv (rk.take (16 * r))) := own_next (own_next hown hbi) (Below.refl _ _).drew
          have hbd : Below kb w2 wr.drew := hbr.trans ((hbi.mono (by omega)).trans (Below.refl _ _).drew)
          have hrowd : Row wr.drew kb 53 #[sv] := hrow0
          have hob0 : ∀ k, sv.ownBlock = some k → k < wo.heap.size := fun k hk => (hown.lt k hk).2
          have hrg' := rangeAt_add hrg
          clear hrow0 hgr hgg hrg
          have hcl' : (bv cs).toArray.size = 16 := by simpa using hcl
          go_wp2_with fail
          refine wp_region_noPanic ?_
          refine wp_region_popH (S := fun w' => w'.cell? ⟨kb, 0, none⟩ = some sv ∧ ∀ i x, (bv cs)[i]? = some x → w'.cell? ((⟨g, 0, none⟩ : Addr).add i) = some x) 12 (by kernel_rfl) rfl rfl (by kernel_rfl) ?_
          simp only [List.take_succ_cons, List.take_zero]
          have hS0 : wr.drew.cell? ⟨kb, 0, none⟩ = some sv ∧ ∀ i x, (bv cs)[i]? = some x → wr.drew.cell? ((⟨g, 0, none⟩ : Addr).add i) = some x := ⟨hcw, hrg'⟩
          (apply takeS (i := 0) hS0 rfl rfl (by kernel_rfl) (by kernel_rfl) (by kernel_rfl) (fun _ _ _ h => h) (by rfl); focus (rintro w ⟨hs1, hs2⟩; go_simp; try with_reducible rfl))
          (try simp only [Act.put, List.setIfInBounds_toArray, List.set_cons_zero, List.set_cons_succ])
          (apply takeS (i := 1) hS0 rfl rfl (by kernel_rfl) (by kernel_rfl) (by kernel_rfl) (fun _ _ _ h => h) (by rfl); focus (rintro w ⟨hs1, hs2⟩; go_simp; try with_reducible rfl))
          (try simp only [Act.put, List.setIfInBounds_toArray, List.set_cons_zero, List.set_cons_succ])
          (apply takeS (i := 5) hS0 rfl rfl (by kernel_rfl) (by kernel_rfl) (by kernel_rfl) (fun _ _ _ h => h) (by rfl); focus (rintro w ⟨hs1, hs2⟩; go_simp; try with_reducible rfl))
          (try simp only [Act.put, List.setIfInBounds_toArray, List.set_cons_zero, List.set_cons_succ])
          (apply takeS (i := 2) hS0 rfl rfl (by kernel_rfl) (by kernel_rfl) (by kernel_rfl) (fun _ _ _ h => h) (by rfl); focus (rintro w ⟨hs1, hs2⟩; go_simp; try with_reducible rfl))
          (try simp only [Act.put, List.setIfInBounds_toArray, List.set_cons_zero, List.set_cons_succ])
          (apply takeS (i := 3) hS0 rfl rfl (by kernel_rfl) (by kernel_rfl) (by kernel_rfl) (fun _ _ _ h => h) (by rfl); focus (rintro w ⟨hs1, hs2⟩; go_simp; try with_reducible rfl))
          (try simp only [Act.put, List.setIfInBounds_toArray, List.set_cons_zero, List.set_cons_succ])
          (apply takeS (i := 4) hS0 rfl rfl (by kernel_rfl) (by kernel_rfl) (by kernel_rfl) (fun _ _ _ h => h) (by rfl); focus (rintro w ⟨hs1, hs2⟩; go_simp; try with_reducible rfl))
          (try simp only [Act.put, List.setIfInBounds_toArray, List.set_cons_zero, List.set_cons_succ])
          (apply takeY (i := 6) hS0 rfl rfl (by kernel_rfl) (by kernel_rfl) (by kernel_rfl) (fun _ _ _ h => h); focus (exact yieldsIf_arr (ty := 49) (x := .tmp 47) (ad := ⟨g, 0, none⟩) (m := 16) (c := cap) (n := 16) (by rfl) rfl Try.underlying49 rfl (Nat.le_refl _)))
          (try simp only [Act.put, List.setIfInBounds_toArray, List.set_cons_zero, List.set_cons_succ])
          (apply takeY (i := 7) hS0 rfl rfl (by kernel_rfl) (by kernel_rfl) (by kernel_rfl) (fun _ _ _ h => h); focus (exact yieldsIf_loadArr (ty := 49) (x := .tmp 48) (ad := ⟨g, 0, none⟩) (bv cs) (by rfl) rfl Try.underlying49 size_a16 rfl hcl (fun w hw => hw.2)))
          (try simp only [Act.put, List.setIfInBounds_toArray, List.set_cons_zero, List.set_cons_succ])
          refine oneS (i := 8) rfl rfl (by kernel_rfl) (by rfl) (fun K hK => ?_)
          apply step_build1 (bv cs).toArray Try.underlying51 info_a16 (by omega) (by omega) hcl' rfl rfl rfl
          intro g8 w8 hg8 hg8' hr8 hb8
          have hS8 : w8.cell? ⟨kb, 0, none⟩ = some sv ∧ ∀ i x, (bv cs)[i]? = some x → w8.cell? ((⟨g, 0, none⟩ : Addr).add i) = some x := ⟨(hrowd.next hb8).cell rfl, fun i x hx => by
            have h1 := hrg' i x hx
            exact (hb8.cell (World.block_lt_of_cell? _ _ h1)).trans h1⟩
          refine hK.out _ _ hS8 (fun _ => ?_)
          clear hK K
          (try simp only [Act.put, List.setIfInBounds_toArray, List.set_cons_zero, List.set_cons_succ])
          refine oneS (i := 9) rfl rfl (by kernel_rfl) (by rfl) (fun K hK => ?_)
          apply step_append Try.underlying51 info_a16 rfl (by omega) (own_next hown0 hb8) (RdS.of_row hr8 (n := 1) (s := 16) (cap := 1) hcl' (Nat.le_refl _)) (bv_oneCell cs) (by omega) (by omega) (by have := hb8.size; simp at this; omega) rfl rfl rfl rfl
          intro v9 w9 hown9 hgr9
          obtain ⟨g9, k9, rfl⟩ := own_slice hown9 (Nat.succ_pos _)
          have hs8 := hb8.size
          simp at hs8
          have hrow9 : Row w9 kb 53 #[sv] := (hrowd.next hb8).grown hgr9 (fun h => (Nat.lt_irrefl _ (hown.lt kb h.symm).1))
          have hgw : g < w8.heap.size := by
            have h1 := World.block_lt_of_cell? _ _ (hS8.2 0 _ (List.getElem?_eq_getElem (by omega)))
            simpa [Addr.add_lit] using h1
          have hS9 : w9.cell? ⟨kb, 0, none⟩ = some sv ∧ ∀ i x, (bv cs)[i]? = some x → w9.cell? ((⟨g, 0, none⟩ : Addr).add i) = some x := ⟨hrow9.cell rfl, fun i x hx => by
            have h1 := hS8.2 i x hx
            have hbk := hgr9.block g hgw (fun h => Nat.lt_irrefl _ (Nat.lt_of_lt_of_le (hob0 _ h.symm) hgb))
            unfold World.cell? at h1 ⊢
            rw [Addr.add_lit] at h1 ⊢
            simp only [hbk] at h1 ⊢
            exact h1⟩
          refine hK.out _ _ hS9 (fun _ => ?_)
          clear hK K
          (try simp only [Act.put, List.setIfInBounds_toArray, List.set_cons_zero, List.set_cons_succ])
          (apply takeS (i := 10) hS9 rfl rfl (by kernel_rfl) (by kernel_rfl) (by kernel_rfl) (fun _ _ _ h => h) (by rfl); focus (rintro w ⟨hs1, hs2⟩; go_simp; try with_reducible rfl))
          (try simp only [Act.put, List.setIfInBounds_toArray, List.set_cons_zero, List.set_cons_succ])
          (apply takeS (i := 11) hS9 rfl rfl (by kernel_rfl) (by kernel_rfl) (by kernel_rfl) (fun _ _ _ h => h) (by rfl); focus (rintro w ⟨hs1, hs2⟩; go_simp; try with_reducible rfl))
          (try simp only [Act.put, List.setIfInBounds_toArray, List.set_cons_zero, List.set_cons_succ])
          refine wpAnyH_done (by kernel_rfl) ?_ _
          refine lastPost_go fun K hK => ?_
          have hf9 := hrow9.free 0
          have hc9 := hS9.1
          go_simp
          refine hK _ _ (NoPanic.normal ?_)
          have hgo : (w9.setCell ⟨kb, 0, none⟩ (.slice (some ⟨g9, 0, none⟩) (r + 1) k9)).ownsRow (kb + 1) 49 16 (.slice (some ⟨g9, 0, none⟩) (r + 1) k9) (r + 1) (bv (rk.take (16 * (r + 1)))) := by
            have h := own_setCell (i := 0) hown9 (Nat.lt_succ_self kb) (.slice (some ⟨g9, 0, none⟩) (r + 1) k9)
            rw [show 16 * (r + 1) = 16 * r + 16 from by omega, List.take_add, bv_append, ← show cs = (rk.drop (16 * r)).take 16 from HCS.out]
            simpa using h
          have hbo : Below kb w2 (w9.setCell ⟨kb, 0, none⟩ (.slice (some ⟨g9, 0, none⟩) (r + 1) k9)) := by
            refine hbd.trans ((hb8.mono (by simp; omega)).trans ((below_grown (B := kb) hgr9 (by omega) fun k hk => ?_).trans (below_setCell _ (Nat.le_refl _))))
            have := (hown.lt k hk).1
            omega
          have hks : kb < (w9.setCell ⟨kb, 0, none⟩ (.slice (some ⟨g9, 0, none⟩) (r + 1) k9)).heap.size := (hrow9.set 0 _).lt
          have hrs := hrow9.set 0 (.slice (some ⟨g9, 0, none⟩) (r + 1) k9)
          clear hS9 hS8 hgr9 hb8 hr8 hrow9 hc9 hf9 hown9 hK K
          go_wp2_with fail
          go_roundw
          case rel => exact ⟨r + 1, _, by omega, by go_num, hrs, hgo, hbo, hks⟩
          case measure => simp [intOf]; omega
    · go_wp2_with fail
      go_ret2
      obtain rfl : r = 15 := by omega
      rw [List.take_of_length_le (by rw [HRL.out]; omega)] at hown
      refine ⟨_, rfl, ⟨kb, sv, rfl, hkr, hrow.cell rfl, RdS.of_own hown⟩, hb2.trans (hbr.mono hkw)⟩
end Go.Proofs.Ytfinekmegiengaa
