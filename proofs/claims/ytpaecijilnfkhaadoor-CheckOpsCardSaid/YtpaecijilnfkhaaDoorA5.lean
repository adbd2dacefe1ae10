/- Contracts: check.run. -/
import Derived.Test.YtpaecijilnfkhaaDoorA3

namespace Go.Proofs.YtpaecijilnfkhaaDoor
open Go Go.Eng Go.RowKit
theorem max_if (m n : Int) : (if n > m then n else m) = max m n := by omega

theorem run_operand {g : Nat} {k : WalkS} {i : InstrS} {A : Option Addr} {c m : Nat} (ok : WOk k m) (hw : i.widths.length ≤ 1048576) {C : Cx} (hb : Hb C C.w0 [blk g 130 (wcells k)] (fun w => RdI w A i.widths)) :
    Ret1 Tryd.prog 66 [.pointer (some ⟨g, 0, none⟩), instrV i A c] C (.bool (operandS i.kind i.n i.widths k.styles k.topics)) (blk g 130 (wcells k)) := by
  cases k; cases i
  exact walk_operand ok hw hb

theorem run_place {g : Nat} {k : WalkS} {i : InstrS} {A : Option Addr} {c m : Nat} (ok : WOk k m) (hm : m ≤ 2097152) {C : Cx} (hb : Hb C C.w0 [blk g 130 (wcells k)] (fun _ => True)) :
    Ret1 Tryd.prog 67 [.pointer (some ⟨g, 0, none⟩), instrV i A c] C (.bool (placeS k i.kind i.widths.length).1) (blk g 130 (wcells (placeS k i.kind i.widths.length).2)) := by
  cases k; cases i
  unfold placeS
  split
  · rename_i c; exact walk_place_in ok hm c hb
  · rename_i c; exact walk_place_out ok hm c hb

theorem run_texts {g : Nat} {k : WalkS} {i : InstrS} {A : Option Addr} {c : Nat} (hk : k.stack.length = 32) (hn : i.kind = 1 → 0 ≤ i.n) (hs : k.s.length ≤ 16384) {C : Cx} (hb : Hb C C.w0 [blk g 130 (wcells k)] (fun w => Lib.Utf8Tabs 4 5 w)) :
    Ret1 Tryd.prog 68 [.pointer (some ⟨g, 0, none⟩), instrV i A c] C (.bool (textsS k i.kind i.n).1) (blk g 130 (wcells (textsS k i.kind i.n).2)) := by
  cases k; cases i
  exact walk_texts hk hn hs hb

set_option maxHeartbeats 2000000 in
theorem check_run {A : Option Addr} {b s : List UInt8} {c : Nat} {sty tp : Int} (hc : b.length ≤ c) (hl : b.length ≤ 140737488355328) (hs : s.length ≤ 140737488355328) {C : Cx} (hb : Hb C C.w0 [] (fun w => RdB w A b ∧ Lib.Utf8Tabs 4 5 w)) :
    Sp Tryd.prog 44 [.slice A b.length c, str s, .int .i64 sty, .int .i64 tp] C (ι := Option Addr × Nat) (fun x => .tuple #[.agg #[.int .i64 (runS b s sty tp).ni, .int .i64 (runS b s sty tp).nb, .int .i64 (runS b s sty tp).nl, .int .i64 (runS b s sty tp).np, .int .i64 (runS b s sty tp).ns], .slice x.1 (runS b s sty tp).ds.length x.2, .int .i64 (runS b s sty tp).at_, .int .i64 (runS b s sty tp).e]) (fun _ => []) (fun x w => RdI w x.1 (runS b s sty tp).ds) := by
 refine Sp.enter (N := 109) (e := entryEnv [.slice A b.length c, str s, .int .i64 sty, .int .i64 tp] 0 16) Tryd.func44 rfl rfl (Nat.le_of_ble_eq_true rfl) (entry_ok (Nat.le_of_ble_eq_true rfl) (Nat.le_of_ble_eq_true rfl)) (entry_nd _ _) hb ?_
 show W _ _ _ _ _ [(0, .slice A b.length c), (1, str s), (2, .int .i64 sty), (3, .int .i64 tp), (4, undef), (5, undef), (6, undef), (7, undef), (8, undef), (9, undef), (10, undef), (11, undef), (12, undef), (13, undef), (14, undef), (15, undef)] _ _
 refine W.seq (W.region ?_)
 refine WL.allocu z_31 (fun _ => U8) rfl (fun g8 => ?_)
 refine WL.as .c U9 rfl ?_
 refine WL.as .c (E1 U0) rfl ?_
 refine WL.as .c (E1 U1) rfl ?_
 refine WL.nil (QS.next (W.seq (W.seq (W.region ?_))))
 refine WL.st (R.mv (.t L1)) rfl ?_
 refine WL.st (R.lens st_9 (.t L0)) rfl ?_
 refine WL.st (R.gtr (.t L0) .c) rfl ?_
 refine WL.nil (QS.next (W.del (.kp (.dr (.dr .rf))) ?_))
 refine W.cd (.t L0) (fun h0 => ?_) (fun h0 => ?_)
 ·
  refine W.del (.dr .rf) (W.seq (W.region ?_))
  refine WL.as .c (E1 U1) rfl ?_
  refine WL.nil (QS.next (W.ret (QS.thenr ?_)))
  have hr : runS b s sty tp = ⟨0, 0, 0, 0, 0, [], 0, 2⟩ := by rw [runS, if_pos (by omega)]
  exact QS.fin (.inl rfl) rfl (.agg ag_31 rfl L8 H0 (.tmp L9 (.tmp (D1 L0) (.tmp (D1 L1) .nil)))) (none, 0) (by rw [hr]; rfl) (.dr .nil) (fun w _ _ => by rw [hr]; exact Rd.nil)
 ·
  refine W.del (.dr .rf) (W.skip (QS.next (W.seq (W.region ?_))))
  refine WL.st (R.mv (.t L0)) rfl ?_
  refine WL.call gf_34 .f (.cons (.t L0) .nil) (.dr .nil) (fun w hb => (code_Instrs hc hl (hb.imp fun w h => h.1))) rfl (fun x21 => ?_)
  obtain ⟨⟨⟨Al, cl⟩, M⟩, hM⟩ := x21
  have hg := instrs_good b
  have hML : (instrsS b).1.length = M.length := by rw [← hM]; simp
  have hMj : ∀ j : Nat, (instrsS b).1[j]? = (M[j]?).map (·.1) := fun j => by rw [← hM]; simp
  obtain ⟨L, hL⟩ : ∃ L, (instrsS b).1 = L := ⟨_, rfl⟩
  refine WL.st (R.mv (.t L0)) rfl ?_
  refine WL.st (R.ex (.t L0) .here) rfl ?_
  refine WL.st (R.ex (.t L1) (.skip .here)) rfl ?_
  refine WL.st (R.ex (.t L2) (.skip (.skip .here))) rfl ?_
  refine WL.as (.t L2) (E1 U8) rfl ?_
  refine WL.as (.t L1) (E1 U6) rfl ?_
  refine WL.as (.t L0) (E1 U7) rfl ?_
  refine WL.nil (QS.next (W.del (.dr (.dr (.dr (.dr (.dr (.dr .rf)))))) (W.seq (W.seq (W.region ?_)))))
  refine WL.st (R.mv (.t (D1 L1))) rfl ?_
  refine WL.st (R.nei (.t L0) .c) rfl ?_
  refine WL.nil (QS.next (W.del (.kp (.dr .rf)) ?_))
  refine W.cd (.t L0) (fun h1 => ?_) (fun h1 => ?_)
  ·
   refine W.del (.dr .rf) (W.ret (QS.thenr ?_))
   have hr : runS b s sty tp = ⟨0, 0, 0, 0, 0, [], (instrsS b).2.1, (instrsS b).2.2⟩ := by rw [runS, if_neg (by omega), if_pos (by omega)]
   exact QS.fin (.inl rfl) rfl (.agg ag_31 rfl L8 H0 (.tmp L9 (.tmp (D1 L0) (.tmp (D1 L1) .nil)))) (none, 0) (by rw [hr]; rfl) (.dr .nil) (fun w _ _ => by rw [hr]; exact Rd.nil)
  ·
   refine W.del (.dr .rf) (W.skip (QS.next (W.seq (W.seq (W.region ?_)))))
   refine WL.st (R.mv (.t (D1 L2))) rfl ?_
   refine WL.st (R.lenl sl_65 (.t L0)) rfl ?_
   refine WL.st (R.sub (.t L0) .c (wi (by omega) (by omega))) rfl ?_
   refine WL.st (R.gtr (.t L0) .c) rfl ?_
   refine WL.nil (QS.next (W.del (.kp (.dr (.dr (.dr .rf)))) ?_))
   refine W.cd (.t L0) (fun h2 => ?_) (fun h2 => ?_)
   ·
    refine W.del (.dr .rf) (W.seq (W.region ?_))
    refine WL.st (R.lda ag_31 (.t L8) H0 (by repeat constructor)) rfl ?_
    refine WL.sto sz_31 (.t L9) (.t L0) rfl rfl rfl C0 (by repeat constructor) ?_
    refine WL.as .c (E1 U0) rfl ?_
    refine WL.as .c (E1 U1) rfl ?_
    refine WL.as .c (E1 U2) rfl ?_
    refine WL.nil (QS.next (W.del (.dr .rf) (W.ret (QS.thenr ?_))))
    have hr : runS b s sty tp = ⟨0, 0, 0, 0, 0, [], 0, 2⟩ := by rw [runS, if_neg (by omega), if_neg (by omega), if_pos (by omega)]
    exact QS.fin (.inl rfl) rfl (.agg ag_31 rfl L8 H0 (.tmp L9 (.tmp (D1 L0) (.tmp (D1 L1) .nil)))) (none, 0) (by rw [hr]; rfl) (.dr .nil) (fun w _ _ => by rw [hr]; exact Rd.nil)
   ·
    refine W.del (.dr .rf) (W.skip (QS.next (W.seq (W.region ?_))))
    refine WL.st (R.mv (.t L1)) rfl ?_
    refine WL.st (R.mv (.t L3)) rfl ?_
    refine WL.st (R.mv (.t L5)) rfl ?_
    refine WL.st (R.bld (z := [.int .i64 0, .int .i64 0, .int .i64 0, .int .i64 0, .int .i64 0, .int .i64 0, .int .i64 0, .int .i64 0, .int .i64 0, .int .i64 0, .int .i64 0, .int .i64 0, .int .i64 0, .int .i64 0, .int .i64 0, .int .i64 0, .int .i64 0, .int .i64 0, .int .i64 0, .int .i64 0, .int .i64 0, .int .i64 0, .int .i64 0, .int .i64 0, .int .i64 0, .int .i64 0, .int .i64 0, .int .i64 0, .int .i64 0, .int .i64 0, .int .i64 0, .int .i64 0, .int .i64 0, .int .i64 0, .int .i64 0, .int .i64 0, .int .i64 0, .int .i64 0, .int .i64 0, .int .i64 0, .int .i64 0, .int .i64 0, .int .i64 0, .int .i64 0, .int .i64 0, .int .i64 0, .int .i64 0, .int .i64 0, .int .i64 0, .int .i64 0, .int .i64 0, .int .i64 0, .int .i64 0, .int .i64 0, .int .i64 0, .int .i64 0, .int .i64 0, .int .i64 0, .int .i64 0, .int .i64 0, .int .i64 0, .int .i64 0, .int .i64 0, .int .i64 0, .int .i64 0, .int .i64 0, .int .i64 0, .int .i64 0, .int .i64 0, .int .i64 0, .int .i64 0, .int .i64 0, .int .i64 0, .int .i64 0, .int .i64 0, .int .i64 0, .int .i64 0, .int .i64 0, .int .i64 0, .int .i64 0, .int .i64 0, .int .i64 0, .int .i64 0, .int .i64 0, .int .i64 0, .int .i64 0, .int .i64 0, .int .i64 0, .int .i64 0, .int .i64 0, .int .i64 0, .int .i64 0, .int .i64 0, .int .i64 0, .int .i64 0, .int .i64 0, .int .i64 0, .int .i64 0, .int .i64 0, .int .i64 0, .int .i64 0, .int .i64 0, .int .i64 0, .int .i64 0, .int .i64 0, .int .i64 0, .int .i64 0, .int .i64 0, .int .i64 0, .int .i64 0, .int .i64 0, .int .i64 0, .int .i64 0, .int .i64 0, .int .i64 0, .int .i64 0, .int .i64 0, .int .i64 0, .int .i64 0, .int .i64 0, .int .i64 0, .int .i64 0, .int .i64 0, .int .i64 0, .int .i64 0, .int .i64 0, .int .i64 0, .int .i64 0, .int .i64 0, .int .i64 0, .int .i64 0, .int .i64 0, .int .i64 0, .int .i64 0, .int .i64 0, .int .i64 0, .int .i64 0, .int .i64 0, .int .i64 0, .int .i64 0, .int .i64 0, .int .i64 0, .int .i64 0, .int .i64 0, .int .i64 0, .int .i64 0, .int .i64 0, .int .i64 0, .int .i64 0, .int .i64 0, .int .i64 0, .int .i64 0, .int .i64 0, .int .i64 0, .int .i64 0, .int .i64 0, .int .i64 0, .int .i64 0, .int .i64 0, .int .i64 0, .int .i64 0, .int .i64 0, .int .i64 0, .int .i64 0, .int .i64 0, str [], .int .i64 0, .int .i64 0]) Tryd.underlying130 (by kernel_rfl) z_130 (.cons fo_130_6 fz_130_6 rfl (.t L2) rfl (by repeat constructor) (.cons fo_130_7 fz_130_7 rfl (.t L1) rfl (by repeat constructor) (.cons fo_130_8 fz_130_8 rfl (.t L0) rfl (by repeat constructor) .nil)))) rfl ?_
    refine WL.box (.t L0) rfl rfl (fun g36 => ?_)
    refine WL.as (.t L0) (E1 U8) rfl ?_
    refine WL.nil (QS.next (W.del (.dr (.dr (.dr (.dr (.dr .rf))))) (W.seq (W.region ?_))))
    refine WL.st (R.mv (.t (D1 L2))) rfl ?_
    refine WL.st (R.lenl sl_65 (.t L0)) rfl ?_
    refine WL.st (R.sub (.t L0) .c (wi (by omega) (by omega))) rfl ?_
    refine WL.st (R.mv (.t L4)) rfl ?_
    refine WL.st (R.lens st_9 (.t L0)) rfl ?_
    refine WL.st (R.bld (z := [.int .i64 0, .int .i64 0, .int .i64 0, .int .i64 0, .int .i64 0]) Tryd.underlying31 (by kernel_rfl) z_31 (.cons fo_31_0 fz_31_0 rfl (.t L2) rfl (by repeat constructor) (.cons fo_31_1 fz_31_1 rfl (.t L0) rfl (by repeat constructor) .nil))) rfl ?_
    refine WL.sto sz_31 (.t (D1 L4)) (.t L0) rfl rfl rfl C1 (by repeat constructor) ?_
    refine WL.nil (QS.next (W.del (.dr (.dr (.dr (.dr (.dr (.dr .rf)))))) (W.seq (W.seq (W.region ?_)))))
    refine WL.st (R.mv (.t (D1 L2))) rfl ?_
    refine WL.st (R.lenl sl_65 (.t L0)) rfl ?_
    refine WL.st (R.mv .c) rfl ?_
    refine WL.nil (QS.next (W.block ?_))
    refine W.nilrow 3 1 ?_
    refine W.loop (ι := {x : (WalkS × List Int × Int × Int × Int × Nat) × Option Addr × Nat // runF (((instrsS b).1.length : Int) - 1) s.length ((instrsS b).1.drop x.1.2.2.2.2.2) x.1.1 x.1.2.2.1 x.1.2.2.2.1 x.1.2.2.2.2.1 x.1.2.1 = runS b s sty tp ∧ WOk x.1.1 x.1.2.2.2.2.2 ∧ x.1.2.2.2.2.2 ≤ M.length ∧ (x.1.2.1).length = x.1.2.2.2.2.2 ∧ 0 ≤ x.1.2.2.1 ∧ x.1.2.2.1 ≤ x.1.2.2.2.2.2 ∧ 0 ≤ x.1.2.2.2.1 ∧ x.1.2.2.2.1 ≤ x.1.2.2.2.2.2 ∧ (x.1.1).s.length ≤ 16384}) (fun x => [(45, .int .i64 x.1.1.2.2.2.2.2), (44, .int .i64 (instrsS b).1.length), (43, .slice Al (instrsS b).1.length cl), (8, .pointer (some ⟨g8, 0, none⟩)), (9, .slice x.1.2.1 x.1.1.2.1.length x.1.2.2), (10, .int .i64 0), (11, .int .i64 0), (13, .pointer (some ⟨g36, 0, none⟩))]) (fun x => [.row (.slice x.1.2.1 x.1.1.2.1.length x.1.2.2) 3 1 x.1.1.2.1.length (icells x.1.1.2.1), blk g36 130 (wcells x.1.1.1), blk g8 31 [.int .i64 (((instrsS b).1.length : Int) - 1), .int .i64 s.length, .int .i64 x.1.1.2.2.1, .int .i64 x.1.1.2.2.2.1, .int .i64 x.1.1.2.2.2.2.1]]) (fun x w => (RdB w A b ∧ Lib.Utf8Tabs 4 5 w) ∧ RdM w Al M) (fun x => M.length - x.1.1.2.2.2.2.2) ⟨((walk0 s sty tp, [], 0, 0, 0, 0), none, 0), by dsimp only; rw [List.drop_zero, runS, if_neg (by omega), if_neg (by omega), if_neg (by omega)], walk0_ok, Nat.zero_le _, rfl, by dsimp only; omega, by dsimp only; omega, by dsimp only; omega, by dsimp only; omega, by dsimp only [walk0]; omega⟩ (.kp rfl (.kp rfl (.kp rfl (.dr (.dr (.dr (.dr (.dr (.dr (.dr (.dr (.kp rfl (.kp rfl (.kp (congrArg (Value.int .i64) (hg.2.2 (by omega))) (.kp (congrArg (Value.int .i64) (show (instrsS b).2.2 = 0 by omega)) (.dr (.kp rfl (.dr (.dr .nil))))))))))))))))))) (.kp rfl (.kp rfl (.kp rfl .nil))) (fun _ h _ => h) ?_
    intro x
    obtain ⟨⟨⟨k, ds, nl, np, ns, j⟩, Ad, cd⟩, hi1, ok, hi3, hi4, hi5, hi6, hi7, hi8, hi9⟩ := x
    dsimp only at hi1 ok hi3 hi4 hi5 hi6 hi7 hi8 hi9
    show W _ _ _ _ _ [(45, .int .i64 j), (44, .int .i64 (instrsS b).1.length), (43, .slice Al (instrsS b).1.length cl), (8, .pointer (some ⟨g8, 0, none⟩)), (9, .slice Ad ds.length cd), (10, .int .i64 0), (11, .int .i64 0), (13, .pointer (some ⟨g36, 0, none⟩))] [.row (.slice Ad ds.length cd) 3 1 ds.length (icells ds), blk g36 130 (wcells k), blk g8 31 [.int .i64 (((instrsS b).1.length : Int) - 1), .int .i64 s.length, .int .i64 nl, .int .i64 np, .int .i64 ns]] (fun w => (RdB w A b ∧ Lib.Utf8Tabs 4 5 w) ∧ RdM w Al M)
    refine W.seq (W.region ?_)
    refine WL.st (R.lss (.t L0) (.t L1)) rfl ?_
    refine WL.nil (QS.next (W.seq ?_))
    refine W.cd (.t L0) (fun h3 => ?_) (fun h3 => ?_)
    ·
     refine W.del (.dr .rf) (W.skip (QS.next (W.seq (W.block (W.seq ?_)))))
     obtain ⟨q, hq⟩ : ∃ q, M[j]? = some q := ⟨_, List.getElem?_eq_getElem (by omega)⟩
     have hqj : (instrsS b).1[j]? = some q.1 := by rw [hMj, hq]; rfl
     obtain ⟨hq1, hq2⟩ := hg.1 q.1 (List.mem_of_getElem? hqj)
     have hkl := ok.len
     have hdl := ok.depth_le
     refine W.region ?_
     refine WL.st (R.ixa sl_65 (.t L2) (.t L0) (j := j) rfl (by omega) (fun w hb => Rd.ne hb.get.2.1 (by rw [show (mcells M).length = M.length * 5 from flat_length (f := icell) (n := 5) (fun _ => rfl) M]; omega))) rfl ?_
     refine WL.st (R.vq (R.ldpa (vs := icell q) ag_59 rfl (.t L0) (fun w hb => Rd.ne hb.get.2.1 (by rw [show (mcells M).length = M.length * 5 from flat_length (f := icell) (n := 5) (fun _ => rfl) M]; omega)) (fun w hb i v hv => hb.get.2.1.cell (mcells_get hq hv))) (show _ = instrV q.1 q.2.1 q.2.2 from rfl)) rfl ?_
     refine WL.alloc z_59 rfl (fun g15 => ?_)
     refine WL.sto sz_59 (.t L0) (.t L1) rfl rfl rfl C0 (by repeat constructor) ?_
     refine WL.nil (QS.next (W.del (.kp (.dr (.dr .rf))) (W.seq (W.region ?_))))
     refine WL.st (R.mv (.t L5)) rfl ?_
     refine WL.st (R.mv (.t L9)) rfl ?_
     refine WL.st (R.nc (.t L0)) rfl ?_
     refine WL.st (R.fa fo_130_1 (.t L0)) rfl ?_
     refine WL.st (R.ld sc_3 (.t L0) H2 (w_depth hkl)) rfl ?_
     refine WL.bs1 sl_37 z_3 rfl (by decide) (by decide) (.t L0) rfl rfl rfl (fun g54 => ?_)
     refine WL.app' ap_37 (.t L5) (.t L0) (fun _ _ => C2) (fun w hb => Rd.of_blk (hb.has H0) rfl) rfl (by unfold maxLen; omega) (by omega) rfl (fun A55 c55 => ?_)
     refine WL.as (.t L0) (E1 U2) rfl ?_
     refine WL.nil (QS.next (W.del (.dr (.dr (.dr (.dr (.dr (.dr (.dr .rf))))))) (W.seq (W.block (W.seq (W.region ?_))))))
     refine WL.st (R.mv (.t L8)) rfl ?_
     refine WL.st (R.lda ag_59 (.t L1) H1 (by repeat constructor)) rfl ?_
     refine WL.call1r gf_66 .f (.cons (.t L1) (.cons (.t L0) .nil)) I3 (fun w ds hb => (run_operand ok hq2 (hb.imp fun w h => h.2.2 q (List.mem_of_getElem? hq)))) rfl ?_
     refine WL.st (R.notb (.t L0)) rfl ?_
     refine WL.st (R.as (.t L0)) rfl ?_
     refine WL.nil (QS.next (W.del (.kp (.dr (.dr (.dr (.dr .rf))))) ?_))
     refine W.cb (.t L0) (fun h4 => ?_) (fun h4 => ?_)
     ·
      refine W.del (.dr .rf) (W.seq ?_)
      refine W.any mixed (n := 7) rfl ?_
      refine WA.take (i := 1) rfl (by kernel_rfl) (by kernel_rfl) (by kernel_rfl) (fun _ _ _ => (R.fa fo_59_0 (.t L0))) rfl ?_
      refine WA.more [0, 2] (by kernel_rfl) (List.cons_ne_nil _ _) ⟨⟨_, rfl, ?_⟩, ⟨_, rfl, ?_⟩, trivial⟩
      ·
       refine WL.st (R.lda ag_31 (.t L5) H4 (by repeat constructor)) rfl ?_
       refine WL.nil (WA.next ?_)
       refine WA.more [2, 3] (by kernel_rfl) (List.cons_ne_nil _ _) ⟨⟨_, rfl, ?_⟩, ⟨_, rfl, ?_⟩, trivial⟩
       ·
        refine WL.st (R.ld sc_3 (.t L1) H1 rfl) rfl ?_
        refine WL.nil (WA.next ?_)
        refine WA.more [3] (by kernel_rfl) (List.cons_ne_nil _ _) ⟨⟨_, rfl, ?_⟩, trivial⟩
        refine WL.sto sz_31 (.t L7) (.t L1) rfl rfl rfl C4 (by repeat constructor) ?_
        refine WL.nil (WA.next ?_)
        refine WA.more [4] (by kernel_rfl) (List.cons_ne_nil _ _) ⟨⟨_, rfl, ?_⟩, trivial⟩
        refine WL.as .c U8 rfl ?_
        refine WL.nil (WA.next ?_)
        refine WA.more [5] (by kernel_rfl) (List.cons_ne_nil _ _) ⟨⟨_, rfl, ?_⟩, trivial⟩
        refine WL.as (.t L0) U9 rfl ?_
        refine WL.nil (WA.next ?_)
        refine WA.more [6] (by kernel_rfl) (List.cons_ne_nil _ _) ⟨⟨_, rfl, ?_⟩, trivial⟩
        refine WL.as .c (E1 U0) rfl ?_
        refine WL.nil (WA.next ?_)
        refine WA.done (by kernel_rfl) ?_
        refine QS.next (W.del (.dr (.dr (.dr .rf))) (W.ret (QS.blkr (QS.thenr (QS.blkr (QS.thenr (QS.thenr (QS.blkr (QS.thenr ?_)))))))))
        have hst : (stepS k q.1).1 = 161 := by rw [stepS, if_pos (by simpa using h4)]
        have hr := run_err hi1 hqj (by omega)
        rw [hst] at hr
        exact QS.fin (.inl rfl) rfl (.agg ag_31 rfl L4 H4 (.tmp L5 (.tmp L6 (.tmp L7 .nil)))) (none, 0) (by rw [hr]; rfl) (.dr (.dr (.dr (.dr (.dr .nil))))) (fun w _ _ => by rw [hr]; exact Rd.nil)
       ·
        refine WL.sto sz_31 (.t L6) (.t L0) rfl rfl rfl C4 (by repeat constructor) ?_
        refine WL.nil (WA.next ?_)
        refine WA.more [2, 4] (by kernel_rfl) (List.cons_ne_nil _ _) ⟨⟨_, rfl, ?_⟩, ⟨_, rfl, ?_⟩, trivial⟩
        ·
         refine WL.st (R.ld sc_3 (.t L1) H1 rfl) rfl ?_
         refine WL.nil (WA.next ?_)
         refine WA.more [4] (by kernel_rfl) (List.cons_ne_nil _ _) ⟨⟨_, rfl, ?_⟩, trivial⟩
         refine WL.as .c U8 rfl ?_
         refine WL.nil (WA.next ?_)
         refine WA.more [5] (by kernel_rfl) (List.cons_ne_nil _ _) ⟨⟨_, rfl, ?_⟩, trivial⟩
         refine WL.as (.t L0) U9 rfl ?_
         refine WL.nil (WA.next ?_)
         refine WA.more [6] (by kernel_rfl) (List.cons_ne_nil _ _) ⟨⟨_, rfl, ?_⟩, trivial⟩
         refine WL.as .c (E1 U0) rfl ?_
         refine WL.nil (WA.next ?_)
         refine WA.done (by kernel_rfl) ?_
         refine QS.next (W.del (.dr (.dr (.dr .rf))) (W.ret (QS.blkr (QS.thenr (QS.blkr (QS.thenr (QS.thenr (QS.blkr (QS.thenr ?_)))))))))
         have hst : (stepS k q.1).1 = 161 := by rw [stepS, if_pos (by simpa using h4)]
         have hr := run_err hi1 hqj (by omega)
         rw [hst] at hr
         exact QS.fin (.inl rfl) rfl (.agg ag_31 rfl L4 H4 (.tmp L5 (.tmp L6 (.tmp L7 .nil)))) (none, 0) (by rw [hr]; rfl) (.dr (.dr (.dr (.dr (.dr .nil))))) (fun w _ _ => by rw [hr]; exact Rd.nil)
        ·
         refine WL.as .c U7 rfl ?_
         refine WL.nil (WA.next ?_)
         refine WA.more [2] (by kernel_rfl) (List.cons_ne_nil _ _) ⟨⟨_, rfl, ?_⟩, trivial⟩
         refine WL.st (R.ld sc_3 (.t L1) H1 rfl) rfl ?_
         refine WL.nil (WA.next ?_)
         refine WA.more [5] (by kernel_rfl) (List.cons_ne_nil _ _) ⟨⟨_, rfl, ?_⟩, trivial⟩
         refine WL.as (.t L0) U9 rfl ?_
         refine WL.nil (WA.next ?_)
         refine WA.more [6] (by kernel_rfl) (List.cons_ne_nil _ _) ⟨⟨_, rfl, ?_⟩, trivial⟩
         refine WL.as .c (E1 U0) rfl ?_
         refine WL.nil (WA.next ?_)
         refine WA.done (by kernel_rfl) ?_
         refine QS.next (W.del (.dr (.dr (.dr .rf))) (W.ret (QS.blkr (QS.thenr (QS.blkr (QS.thenr (QS.thenr (QS.blkr (QS.thenr ?_)))))))))
         have hst : (stepS k q.1).1 = 161 := by rw [stepS, if_pos (by simpa using h4)]
         have hr := run_err hi1 hqj (by omega)
         rw [hst] at hr
         exact QS.fin (.inl rfl) rfl (.agg ag_31 rfl L4 H4 (.tmp L5 (.tmp L6 (.tmp L7 .nil)))) (none, 0) (by rw [hr]; rfl) (.dr (.dr (.dr (.dr (.dr .nil))))) (fun w _ _ => by rw [hr]; exact Rd.nil)
      ·
       refine WL.st (R.ld sc_3 (.t L0) H1 rfl) rfl ?_
       refine WL.nil (WA.next ?_)
       refine WA.more [0] (by kernel_rfl) (List.cons_ne_nil _ _) ⟨⟨_, rfl, ?_⟩, trivial⟩
       refine WL.st (R.lda ag_31 (.t L6) H4 (by repeat constructor)) rfl ?_
       refine WL.nil (WA.next ?_)
       refine WA.more [3] (by kernel_rfl) (List.cons_ne_nil _ _) ⟨⟨_, rfl, ?_⟩, trivial⟩
       refine WL.sto sz_31 (.t L7) (.t L0) rfl rfl rfl C4 (by repeat constructor) ?_
       refine WL.nil (WA.next ?_)
       refine WA.more [4] (by kernel_rfl) (List.cons_ne_nil _ _) ⟨⟨_, rfl, ?_⟩, trivial⟩
       refine WL.as .c U8 rfl ?_
       refine WL.nil (WA.next ?_)
       refine WA.more [5] (by kernel_rfl) (List.cons_ne_nil _ _) ⟨⟨_, rfl, ?_⟩, trivial⟩
       refine WL.as (.t L1) U9 rfl ?_
       refine WL.nil (WA.next ?_)
       refine WA.more [6] (by kernel_rfl) (List.cons_ne_nil _ _) ⟨⟨_, rfl, ?_⟩, trivial⟩
       refine WL.as .c (E1 U0) rfl ?_
       refine WL.nil (WA.next ?_)
       refine WA.done (by kernel_rfl) ?_
       refine QS.next (W.del (.dr (.dr (.dr .rf))) (W.ret (QS.blkr (QS.thenr (QS.blkr (QS.thenr (QS.thenr (QS.blkr (QS.thenr ?_)))))))))
       have hst : (stepS k q.1).1 = 161 := by rw [stepS, if_pos (by simpa using h4)]
       have hr := run_err hi1 hqj (by omega)
       rw [hst] at hr
       exact QS.fin (.inl rfl) rfl (.agg ag_31 rfl L4 H4 (.tmp L5 (.tmp L6 (.tmp L7 .nil)))) (none, 0) (by rw [hr]; rfl) (.dr (.dr (.dr (.dr (.dr .nil))))) (fun w _ _ => by rw [hr]; exact Rd.nil)
     ·
      refine W.del (.dr .rf) (W.seq (W.region ?_))
      refine WL.st (R.mv (.t L8)) rfl ?_
      refine WL.st (R.lda ag_59 (.t L1) H1 (by repeat constructor)) rfl ?_
      refine WL.call1r gf_67 .f (.cons (.t L1) (.cons (.t L0) .nil)) I3 (fun w ds hb => (run_place ok (by omega) (hb.imp fun _ _ => trivial))) rfl ?_
      refine WL.st (R.notb (.t L0)) rfl ?_
      refine WL.st (R.as (.t L0)) rfl ?_
      refine WL.nil (QS.next (W.del (.kp (.dr (.dr (.dr (.dr .rf))))) ?_))
      refine W.cb (.t L0) (fun h5 => ?_) (fun h5 => ?_)
      ·
       refine W.del (.dr .rf) (W.seq ?_)
       refine W.any mixed (n := 7) rfl ?_
       refine WA.take (i := 1) rfl (by kernel_rfl) (by kernel_rfl) (by kernel_rfl) (fun _ _ _ => (R.fa fo_59_0 (.t L0))) rfl ?_
       refine WA.more [0, 2] (by kernel_rfl) (List.cons_ne_nil _ _) ⟨⟨_, rfl, ?_⟩, ⟨_, rfl, ?_⟩, trivial⟩
       ·
        refine WL.st (R.lda ag_31 (.t L5) H4 (by repeat constructor)) rfl ?_
        refine WL.nil (WA.next ?_)
        refine WA.more [2, 3] (by kernel_rfl) (List.cons_ne_nil _ _) ⟨⟨_, rfl, ?_⟩, ⟨_, rfl, ?_⟩, trivial⟩
        ·
         refine WL.st (R.ld sc_3 (.t L1) H1 rfl) rfl ?_
         refine WL.nil (WA.next ?_)
         refine WA.more [3] (by kernel_rfl) (List.cons_ne_nil _ _) ⟨⟨_, rfl, ?_⟩, trivial⟩
         refine WL.sto sz_31 (.t L7) (.t L1) rfl rfl rfl C4 (by repeat constructor) ?_
         refine WL.nil (WA.next ?_)
         refine WA.more [4] (by kernel_rfl) (List.cons_ne_nil _ _) ⟨⟨_, rfl, ?_⟩, trivial⟩
         refine WL.as .c U8 rfl ?_
         refine WL.nil (WA.next ?_)
         refine WA.more [5] (by kernel_rfl) (List.cons_ne_nil _ _) ⟨⟨_, rfl, ?_⟩, trivial⟩
         refine WL.as (.t L0) U9 rfl ?_
         refine WL.nil (WA.next ?_)
         refine WA.more [6] (by kernel_rfl) (List.cons_ne_nil _ _) ⟨⟨_, rfl, ?_⟩, trivial⟩
         refine WL.as .c (E1 U0) rfl ?_
         refine WL.nil (WA.next ?_)
         refine WA.done (by kernel_rfl) ?_
         refine QS.next (W.del (.dr (.dr (.dr .rf))) (W.ret (QS.blkr (QS.thenr (QS.blkr (QS.thenr (QS.thenr (QS.blkr (QS.thenr ?_)))))))))
         have hst : (stepS k q.1).1 = 170 := by rw [stepS, if_neg (by simpa using h4), if_pos (by simpa using h5)]
         have hr := run_err hi1 hqj (by omega)
         rw [hst] at hr
         exact QS.fin (.inl rfl) rfl (.agg ag_31 rfl L4 H4 (.tmp L5 (.tmp L6 (.tmp L7 .nil)))) (none, 0) (by rw [hr]; rfl) (.dr (.dr (.dr (.dr (.dr .nil))))) (fun w _ _ => by rw [hr]; exact Rd.nil)
        ·
         refine WL.sto sz_31 (.t L6) (.t L0) rfl rfl rfl C4 (by repeat constructor) ?_
         refine WL.nil (WA.next ?_)
         refine WA.more [2, 4] (by kernel_rfl) (List.cons_ne_nil _ _) ⟨⟨_, rfl, ?_⟩, ⟨_, rfl, ?_⟩, trivial⟩
         ·
          refine WL.st (R.ld sc_3 (.t L1) H1 rfl) rfl ?_
          refine WL.nil (WA.next ?_)
          refine WA.more [4] (by kernel_rfl) (List.cons_ne_nil _ _) ⟨⟨_, rfl, ?_⟩, trivial⟩
          refine WL.as .c U8 rfl ?_
          refine WL.nil (WA.next ?_)
          refine WA.more [5] (by kernel_rfl) (List.cons_ne_nil _ _) ⟨⟨_, rfl, ?_⟩, trivial⟩
          refine WL.as (.t L0) U9 rfl ?_
          refine WL.nil (WA.next ?_)
          refine WA.more [6] (by kernel_rfl) (List.cons_ne_nil _ _) ⟨⟨_, rfl, ?_⟩, trivial⟩
          refine WL.as .c (E1 U0) rfl ?_
          refine WL.nil (WA.next ?_)
          refine WA.done (by kernel_rfl) ?_
          refine QS.next (W.del (.dr (.dr (.dr .rf))) (W.ret (QS.blkr (QS.thenr (QS.blkr (QS.thenr (QS.thenr (QS.blkr (QS.thenr ?_)))))))))
          have hst : (stepS k q.1).1 = 170 := by rw [stepS, if_neg (by simpa using h4), if_pos (by simpa using h5)]
          have hr := run_err hi1 hqj (by omega)
          rw [hst] at hr
          exact QS.fin (.inl rfl) rfl (.agg ag_31 rfl L4 H4 (.tmp L5 (.tmp L6 (.tmp L7 .nil)))) (none, 0) (by rw [hr]; rfl) (.dr (.dr (.dr (.dr (.dr .nil))))) (fun w _ _ => by rw [hr]; exact Rd.nil)
         ·
          refine WL.as .c U7 rfl ?_
          refine WL.nil (WA.next ?_)
          refine WA.more [2] (by kernel_rfl) (List.cons_ne_nil _ _) ⟨⟨_, rfl, ?_⟩, trivial⟩
          refine WL.st (R.ld sc_3 (.t L1) H1 rfl) rfl ?_
          refine WL.nil (WA.next ?_)
          refine WA.more [5] (by kernel_rfl) (List.cons_ne_nil _ _) ⟨⟨_, rfl, ?_⟩, trivial⟩
          refine WL.as (.t L0) U9 rfl ?_
          refine WL.nil (WA.next ?_)
          refine WA.more [6] (by kernel_rfl) (List.cons_ne_nil _ _) ⟨⟨_, rfl, ?_⟩, trivial⟩
          refine WL.as .c (E1 U0) rfl ?_
          refine WL.nil (WA.next ?_)
          refine WA.done (by kernel_rfl) ?_
          refine QS.next (W.del (.dr (.dr (.dr .rf))) (W.ret (QS.blkr (QS.thenr (QS.blkr (QS.thenr (QS.thenr (QS.blkr (QS.thenr ?_)))))))))
          have hst : (stepS k q.1).1 = 170 := by rw [stepS, if_neg (by simpa using h4), if_pos (by simpa using h5)]
          have hr := run_err hi1 hqj (by omega)
          rw [hst] at hr
          exact QS.fin (.inl rfl) rfl (.agg ag_31 rfl L4 H4 (.tmp L5 (.tmp L6 (.tmp L7 .nil)))) (none, 0) (by rw [hr]; rfl) (.dr (.dr (.dr (.dr (.dr .nil))))) (fun w _ _ => by rw [hr]; exact Rd.nil)
       ·
        refine WL.st (R.ld sc_3 (.t L0) H1 rfl) rfl ?_
        refine WL.nil (WA.next ?_)
        refine WA.more [0] (by kernel_rfl) (List.cons_ne_nil _ _) ⟨⟨_, rfl, ?_⟩, trivial⟩
        refine WL.st (R.lda ag_31 (.t L6) H4 (by repeat constructor)) rfl ?_
        refine WL.nil (WA.next ?_)
        refine WA.more [3] (by kernel_rfl) (List.cons_ne_nil _ _) ⟨⟨_, rfl, ?_⟩, trivial⟩
        refine WL.sto sz_31 (.t L7) (.t L0) rfl rfl rfl C4 (by repeat constructor) ?_
        refine WL.nil (WA.next ?_)
        refine WA.more [4] (by kernel_rfl) (List.cons_ne_nil _ _) ⟨⟨_, rfl, ?_⟩, trivial⟩
        refine WL.as .c U8 rfl ?_
        refine WL.nil (WA.next ?_)
        refine WA.more [5] (by kernel_rfl) (List.cons_ne_nil _ _) ⟨⟨_, rfl, ?_⟩, trivial⟩
        refine WL.as (.t L1) U9 rfl ?_
        refine WL.nil (WA.next ?_)
        refine WA.more [6] (by kernel_rfl) (List.cons_ne_nil _ _) ⟨⟨_, rfl, ?_⟩, trivial⟩
        refine WL.as .c (E1 U0) rfl ?_
        refine WL.nil (WA.next ?_)
        refine WA.done (by kernel_rfl) ?_
        refine QS.next (W.del (.dr (.dr (.dr .rf))) (W.ret (QS.blkr (QS.thenr (QS.blkr (QS.thenr (QS.thenr (QS.blkr (QS.thenr ?_)))))))))
        have hst : (stepS k q.1).1 = 170 := by rw [stepS, if_neg (by simpa using h4), if_pos (by simpa using h5)]
        have hr := run_err hi1 hqj (by omega)
        rw [hst] at hr
        exact QS.fin (.inl rfl) rfl (.agg ag_31 rfl L4 H4 (.tmp L5 (.tmp L6 (.tmp L7 .nil)))) (none, 0) (by rw [hr]; rfl) (.dr (.dr (.dr (.dr (.dr .nil))))) (fun w _ _ => by rw [hr]; exact Rd.nil)
      ·
       have hpn := place_ok (k := k) (m := j) (kind := q.1.kind) (wl := q.1.widths.length) ok (by simpa using h5)
       refine W.del (.dr .rf) (W.seq (W.region ?_))
       refine WL.st (R.mv (.t L8)) rfl ?_
       refine WL.st (R.lda ag_59 (.t L1) H1 (by repeat constructor)) rfl ?_
       refine WL.call1r gf_68 .f (.cons (.t L1) (.cons (.t L0) .nil)) I3 (fun w ds hb => (run_texts hpn.ok.len hq1 (by rw [hpn.s]; exact hi9) (hb.imp fun _ h => h.1.2))) rfl ?_
       refine WL.st (R.notb (.t L0)) rfl ?_
       refine WL.st (R.as (.t L0)) rfl ?_
       refine WL.nil (QS.next (W.del (.kp (.dr (.dr (.dr (.dr .rf))))) ?_))
       refine W.cb (.t L0) (fun h6 => ?_) (fun h6 => ?_)
       ·
        refine W.del (.dr .rf) (W.seq ?_)
        refine W.any mixed (n := 7) rfl ?_
        refine WA.take (i := 1) rfl (by kernel_rfl) (by kernel_rfl) (by kernel_rfl) (fun _ _ _ => (R.fa fo_59_0 (.t L0))) rfl ?_
        refine WA.more [0, 2] (by kernel_rfl) (List.cons_ne_nil _ _) ⟨⟨_, rfl, ?_⟩, ⟨_, rfl, ?_⟩, trivial⟩
        ·
         refine WL.st (R.lda ag_31 (.t L5) H4 (by repeat constructor)) rfl ?_
         refine WL.nil (WA.next ?_)
         refine WA.more [2, 3] (by kernel_rfl) (List.cons_ne_nil _ _) ⟨⟨_, rfl, ?_⟩, ⟨_, rfl, ?_⟩, trivial⟩
         ·
          refine WL.st (R.ld sc_3 (.t L1) H1 rfl) rfl ?_
          refine WL.nil (WA.next ?_)
          refine WA.more [3] (by kernel_rfl) (List.cons_ne_nil _ _) ⟨⟨_, rfl, ?_⟩, trivial⟩
          refine WL.sto sz_31 (.t L7) (.t L1) rfl rfl rfl C4 (by repeat constructor) ?_
          refine WL.nil (WA.next ?_)
          refine WA.more [4] (by kernel_rfl) (List.cons_ne_nil _ _) ⟨⟨_, rfl, ?_⟩, trivial⟩
          refine WL.as .c U8 rfl ?_
          refine WL.nil (WA.next ?_)
          refine WA.more [5] (by kernel_rfl) (List.cons_ne_nil _ _) ⟨⟨_, rfl, ?_⟩, trivial⟩
          refine WL.as (.t L0) U9 rfl ?_
          refine WL.nil (WA.next ?_)
          refine WA.more [6] (by kernel_rfl) (List.cons_ne_nil _ _) ⟨⟨_, rfl, ?_⟩, trivial⟩
          refine WL.as .c (E1 U0) rfl ?_
          refine WL.nil (WA.next ?_)
          refine WA.done (by kernel_rfl) ?_
          refine QS.next (W.del (.dr (.dr (.dr .rf))) (W.ret (QS.blkr (QS.thenr (QS.blkr (QS.thenr (QS.thenr (QS.blkr (QS.thenr ?_)))))))))
          have hst : (stepS k q.1).1 = 171 := by rw [stepS, if_neg (by simpa using h4), if_neg (by simpa using h5), if_pos (by simpa using h6)]
          have hr := run_err hi1 hqj (by omega)
          rw [hst] at hr
          exact QS.fin (.inl rfl) rfl (.agg ag_31 rfl L4 H4 (.tmp L5 (.tmp L6 (.tmp L7 .nil)))) (none, 0) (by rw [hr]; rfl) (.dr (.dr (.dr (.dr (.dr .nil))))) (fun w _ _ => by rw [hr]; exact Rd.nil)
         ·
          refine WL.sto sz_31 (.t L6) (.t L0) rfl rfl rfl C4 (by repeat constructor) ?_
          refine WL.nil (WA.next ?_)
          refine WA.more [2, 4] (by kernel_rfl) (List.cons_ne_nil _ _) ⟨⟨_, rfl, ?_⟩, ⟨_, rfl, ?_⟩, trivial⟩
          ·
           refine WL.st (R.ld sc_3 (.t L1) H1 rfl) rfl ?_
           refine WL.nil (WA.next ?_)
           refine WA.more [4] (by kernel_rfl) (List.cons_ne_nil _ _) ⟨⟨_, rfl, ?_⟩, trivial⟩
           refine WL.as .c U8 rfl ?_
           refine WL.nil (WA.next ?_)
           refine WA.more [5] (by kernel_rfl) (List.cons_ne_nil _ _) ⟨⟨_, rfl, ?_⟩, trivial⟩
           refine WL.as (.t L0) U9 rfl ?_
           refine WL.nil (WA.next ?_)
           refine WA.more [6] (by kernel_rfl) (List.cons_ne_nil _ _) ⟨⟨_, rfl, ?_⟩, trivial⟩
           refine WL.as .c (E1 U0) rfl ?_
           refine WL.nil (WA.next ?_)
           refine WA.done (by kernel_rfl) ?_
           refine QS.next (W.del (.dr (.dr (.dr .rf))) (W.ret (QS.blkr (QS.thenr (QS.blkr (QS.thenr (QS.thenr (QS.blkr (QS.thenr ?_)))))))))
           have hst : (stepS k q.1).1 = 171 := by rw [stepS, if_neg (by simpa using h4), if_neg (by simpa using h5), if_pos (by simpa using h6)]
           have hr := run_err hi1 hqj (by omega)
           rw [hst] at hr
           exact QS.fin (.inl rfl) rfl (.agg ag_31 rfl L4 H4 (.tmp L5 (.tmp L6 (.tmp L7 .nil)))) (none, 0) (by rw [hr]; rfl) (.dr (.dr (.dr (.dr (.dr .nil))))) (fun w _ _ => by rw [hr]; exact Rd.nil)
          ·
           refine WL.as .c U7 rfl ?_
           refine WL.nil (WA.next ?_)
           refine WA.more [2] (by kernel_rfl) (List.cons_ne_nil _ _) ⟨⟨_, rfl, ?_⟩, trivial⟩
           refine WL.st (R.ld sc_3 (.t L1) H1 rfl) rfl ?_
           refine WL.nil (WA.next ?_)
           refine WA.more [5] (by kernel_rfl) (List.cons_ne_nil _ _) ⟨⟨_, rfl, ?_⟩, trivial⟩
           refine WL.as (.t L0) U9 rfl ?_
           refine WL.nil (WA.next ?_)
           refine WA.more [6] (by kernel_rfl) (List.cons_ne_nil _ _) ⟨⟨_, rfl, ?_⟩, trivial⟩
           refine WL.as .c (E1 U0) rfl ?_
           refine WL.nil (WA.next ?_)
           refine WA.done (by kernel_rfl) ?_
           refine QS.next (W.del (.dr (.dr (.dr .rf))) (W.ret (QS.blkr (QS.thenr (QS.blkr (QS.thenr (QS.thenr (QS.blkr (QS.thenr ?_)))))))))
           have hst : (stepS k q.1).1 = 171 := by rw [stepS, if_neg (by simpa using h4), if_neg (by simpa using h5), if_pos (by simpa using h6)]
           have hr := run_err hi1 hqj (by omega)
           rw [hst] at hr
           exact QS.fin (.inl rfl) rfl (.agg ag_31 rfl L4 H4 (.tmp L5 (.tmp L6 (.tmp L7 .nil)))) (none, 0) (by rw [hr]; rfl) (.dr (.dr (.dr (.dr (.dr .nil))))) (fun w _ _ => by rw [hr]; exact Rd.nil)
        ·
         refine WL.st (R.ld sc_3 (.t L0) H1 rfl) rfl ?_
         refine WL.nil (WA.next ?_)
         refine WA.more [0] (by kernel_rfl) (List.cons_ne_nil _ _) ⟨⟨_, rfl, ?_⟩, trivial⟩
         refine WL.st (R.lda ag_31 (.t L6) H4 (by repeat constructor)) rfl ?_
         refine WL.nil (WA.next ?_)
         refine WA.more [3] (by kernel_rfl) (List.cons_ne_nil _ _) ⟨⟨_, rfl, ?_⟩, trivial⟩
         refine WL.sto sz_31 (.t L7) (.t L0) rfl rfl rfl C4 (by repeat constructor) ?_
         refine WL.nil (WA.next ?_)
         refine WA.more [4] (by kernel_rfl) (List.cons_ne_nil _ _) ⟨⟨_, rfl, ?_⟩, trivial⟩
         refine WL.as .c U8 rfl ?_
         refine WL.nil (WA.next ?_)
         refine WA.more [5] (by kernel_rfl) (List.cons_ne_nil _ _) ⟨⟨_, rfl, ?_⟩, trivial⟩
         refine WL.as (.t L1) U9 rfl ?_
         refine WL.nil (WA.next ?_)
         refine WA.more [6] (by kernel_rfl) (List.cons_ne_nil _ _) ⟨⟨_, rfl, ?_⟩, trivial⟩
         refine WL.as .c (E1 U0) rfl ?_
         refine WL.nil (WA.next ?_)
         refine WA.done (by kernel_rfl) ?_
         refine QS.next (W.del (.dr (.dr (.dr .rf))) (W.ret (QS.blkr (QS.thenr (QS.blkr (QS.thenr (QS.thenr (QS.blkr (QS.thenr ?_)))))))))
         have hst : (stepS k q.1).1 = 171 := by rw [stepS, if_neg (by simpa using h4), if_neg (by simpa using h5), if_pos (by simpa using h6)]
         have hr := run_err hi1 hqj (by omega)
         rw [hst] at hr
         exact QS.fin (.inl rfl) rfl (.agg ag_31 rfl L4 H4 (.tmp L5 (.tmp L6 (.tmp L7 .nil)))) (none, 0) (by rw [hr]; rfl) (.dr (.dr (.dr (.dr (.dr .nil))))) (fun w _ _ => by rw [hr]; exact Rd.nil)
       ·
        have hst : (stepS k q.1).1 = 0 := by rw [stepS, if_neg (by simpa using h4), if_neg (by simpa using h5), if_neg (by simpa using h6)]
        have hs2 : (stepS k q.1).2 = { (textsS (placeS k q.1.kind q.1.widths.length).2 q.1.kind q.1.n).2 with last := q.1.kind } := by rw [stepS, if_neg (by simpa using h4), if_neg (by simpa using h5), if_neg (by simpa using h6)]
        have hd2 : (stepS k q.1).2.depth = ((textsS (placeS k q.1.kind q.1.widths.length).2 q.1.kind q.1.n).2).depth := by rw [hs2]
        have hn2 := step_ok ok hst
        replace hkl : ((textsS (placeS k q.1.kind q.1.widths.length).2 q.1.kind q.1.n).2).stack.length = 32 := (texts_ok hpn.ok).1.len
        refine W.del (.dr .rf) (W.skip (QS.blkn (QS.next (W.seq ?_))))
        refine W.draw 8 mixed (by kernel_rfl) ?_
        refine HD.st (R.fa fo_31_4 (.t L4)) rfl ?_
        refine HD.st (R.ld sc_3 (.t L0) H4 rfl) rfl ?_
        refine HD.st (R.mv (.t (D1 L0))) rfl ?_
        refine HD.st (R.nc (.t L0)) rfl ?_
        refine HD.st (R.fa fo_130_1 (.t L0)) rfl ?_
        refine HD.st (R.ld sc_3 (.t L0) H3 (w_depth hkl)) rfl ?_
        refine HD.st (R.maxi (.t L4) (.t L0) (max_if _ _)) rfl ?_
        refine HD.st (R.fa fo_31_4 (.t (D1 L1))) rfl ?_
        refine HD.nil ?_
        refine WL.sto sz_3 (.t L0) (.t L1) rfl rfl rfl C4 (by repeat constructor) ?_
        refine WL.nil (QS.next (W.del (.dr (.dr (.dr (.dr (.dr (.dr (.dr (.dr .rf)))))))) (W.seq (W.seq (W.region ?_)))))
        refine WL.st (R.fa fo_59_2 (.t L0)) rfl ?_
        refine WL.st (R.ld sc_57 (.t L0) H1 rfl) rfl ?_
        refine WL.nil (QS.next (W.del (.kp (.dr .rf)) (W.block (W.seq (W.seq (W.region ?_))))))
        refine WL.st (R.eqi (.t L0) .c) rfl ?_
        refine WL.st (R.as (.t L0)) rfl ?_
        refine WL.nil (QS.next (W.del (.kp (.dr .rf)) ?_))
        refine W.cd (.t L0) (fun h7 => ?_) (fun h7 => ?_)
        ·
         refine W.skip (QS.next ?_)
         refine W.cdt (.t L0) h7 ?_
         refine W.del (.dr (.dr .rf)) (W.region ?_)
         refine WL.st (R.fa fo_31_2 (.t L4)) rfl ?_
         refine WL.st (R.ld sc_3 (.t L0) H4 rfl) rfl ?_
         refine WL.st (R.add (.t L0) .c (wi (by omega) (by omega))) rfl ?_
         refine WL.st (R.fa fo_31_2 (.t L7)) rfl ?_
         refine WL.sto sz_3 (.t L0) (.t L1) rfl rfl rfl C4 (by repeat constructor) ?_
         refine WL.nil (QS.blkn (QS.next (W.del (.dr (.dr (.dr (.dr .rf)))) (W.region ?_))))
         refine WL.st (R.mv (.t L8)) rfl ?_
         refine WL.st (R.fa fo_59_2 (.t L1)) rfl ?_
         refine WL.st (R.ld sc_57 (.t L0) H1 rfl) rfl ?_
         refine WL.st (R.nc (.t L2)) rfl ?_
         refine WL.st (R.fa fo_130_5 (.t L0)) rfl ?_
         refine WL.sto sz_57 (.t L0) (.t L2) rfl rfl rfl C3 (wp_last hkl) ?_
         refine WL.nil (QS.blkn (QS.next (W.del (.dr (.dr (.dr (.dr (.dr .rf))))) (W.region ?_))))
         refine WL.st (R.add (.t L1) .c (wi (by omega) (by omega))) rfl ?_
         refine WL.up (R.mv (.t L0)) U2 rfl ?_
         refine WL.nil ?_
         exact QS.at ⟨(((stepS k q.1).2, ds ++ [(k.depth : Int)], (if q.1.kind = 3 ∨ q.1.kind = 4 then nl + 1 else nl), (if q.1.kind = 8 then np + 1 else np), max ns (stepS k q.1).2.depth, j + 1), A55, c55), run_next hi1 hqj hst, hn2.ok, by dsimp only; omega, by simp; omega, by dsimp only; split <;> omega, by dsimp only; split <;> omega, by dsimp only; split <;> omega, by dsimp only; split <;> omega, by have := hn2.s; dsimp only; omega⟩ (by dsimp only; omega) (.dr (.dr (.kp rfl (.kp rfl (.kp rfl (.kp rfl (.kp (by simp) (.kp rfl (.kp rfl (.kp rfl .nil)))))))))) (.dr (.dr (.kp (by simp [icells]) (.kp (congrArg (fun z => blk g36 130 (wcells z)) hs2.symm) (.kp (by dsimp only; rw [hd2]; (repeat (first | rw [if_pos (by omega)] | rw [if_neg (by omega)])); first | done | rfl) .nil))))) (fun _ h _ => h)
        ·
         refine W.region ?_
         refine WL.st (R.eqi (.t L1) .c) rfl ?_
         refine WL.as (.t L0) U1 rfl ?_
         refine WL.nil (QS.next (W.del (.dr .rf) ?_))
         refine W.cd (.t L0) (fun h8 => ?_) (fun h8 => ?_)
         ·
          refine W.del (.dr (.dr .rf)) (W.region ?_)
          refine WL.st (R.fa fo_31_2 (.t L4)) rfl ?_
          refine WL.st (R.ld sc_3 (.t L0) H4 rfl) rfl ?_
          refine WL.st (R.add (.t L0) .c (wi (by omega) (by omega))) rfl ?_
          refine WL.st (R.fa fo_31_2 (.t L7)) rfl ?_
          refine WL.sto sz_3 (.t L0) (.t L1) rfl rfl rfl C4 (by repeat constructor) ?_
          refine WL.nil (QS.blkn (QS.next (W.del (.dr (.dr (.dr (.dr .rf)))) (W.region ?_))))
          refine WL.st (R.mv (.t L8)) rfl ?_
          refine WL.st (R.fa fo_59_2 (.t L1)) rfl ?_
          refine WL.st (R.ld sc_57 (.t L0) H1 rfl) rfl ?_
          refine WL.st (R.nc (.t L2)) rfl ?_
          refine WL.st (R.fa fo_130_5 (.t L0)) rfl ?_
          refine WL.sto sz_57 (.t L0) (.t L2) rfl rfl rfl C3 (wp_last hkl) ?_
          refine WL.nil (QS.blkn (QS.next (W.del (.dr (.dr (.dr (.dr (.dr .rf))))) (W.region ?_))))
          refine WL.st (R.add (.t L1) .c (wi (by omega) (by omega))) rfl ?_
          refine WL.up (R.mv (.t L0)) U2 rfl ?_
          refine WL.nil ?_
          exact QS.at ⟨(((stepS k q.1).2, ds ++ [(k.depth : Int)], (if q.1.kind = 3 ∨ q.1.kind = 4 then nl + 1 else nl), (if q.1.kind = 8 then np + 1 else np), max ns (stepS k q.1).2.depth, j + 1), A55, c55), run_next hi1 hqj hst, hn2.ok, by dsimp only; omega, by simp; omega, by dsimp only; split <;> omega, by dsimp only; split <;> omega, by dsimp only; split <;> omega, by dsimp only; split <;> omega, by have := hn2.s; dsimp only; omega⟩ (by dsimp only; omega) (.dr (.dr (.kp rfl (.kp rfl (.kp rfl (.kp rfl (.kp (by simp) (.kp rfl (.kp rfl (.kp rfl .nil)))))))))) (.dr (.dr (.kp (by simp [icells]) (.kp (congrArg (fun z => blk g36 130 (wcells z)) hs2.symm) (.kp (by dsimp only; rw [hd2]; (repeat (first | rw [if_pos (by omega)] | rw [if_neg (by omega)])); first | done | rfl) .nil))))) (fun _ h _ => h)
         ·
          refine W.del (.dr .rf) (W.seq (W.region ?_))
          refine WL.st (R.eqi (.t L0) .c) rfl ?_
          refine WL.st (R.as (.t L0)) rfl ?_
          refine WL.nil (QS.next (W.del (.kp (.dr (.dr .rf))) ?_))
          refine W.cd (.t L0) (fun h9 => ?_) (fun h9 => ?_)
          ·
           refine W.del (.dr .rf) (W.region ?_)
           refine WL.st (R.fa fo_31_3 (.t L4)) rfl ?_
           refine WL.st (R.ld sc_3 (.t L0) H4 rfl) rfl ?_
           refine WL.st (R.add (.t L0) .c (wi (by omega) (by omega))) rfl ?_
           refine WL.st (R.fa fo_31_3 (.t L7)) rfl ?_
           refine WL.sto sz_3 (.t L0) (.t L1) rfl rfl rfl C4 (by repeat constructor) ?_
           refine WL.nil (QS.blkn (QS.next (W.del (.dr (.dr (.dr (.dr .rf)))) (W.region ?_))))
           refine WL.st (R.mv (.t L8)) rfl ?_
           refine WL.st (R.fa fo_59_2 (.t L1)) rfl ?_
           refine WL.st (R.ld sc_57 (.t L0) H1 rfl) rfl ?_
           refine WL.st (R.nc (.t L2)) rfl ?_
           refine WL.st (R.fa fo_130_5 (.t L0)) rfl ?_
           refine WL.sto sz_57 (.t L0) (.t L2) rfl rfl rfl C3 (wp_last hkl) ?_
           refine WL.nil (QS.blkn (QS.next (W.del (.dr (.dr (.dr (.dr (.dr .rf))))) (W.region ?_))))
           refine WL.st (R.add (.t L1) .c (wi (by omega) (by omega))) rfl ?_
           refine WL.up (R.mv (.t L0)) U2 rfl ?_
           refine WL.nil ?_
           exact QS.at ⟨(((stepS k q.1).2, ds ++ [(k.depth : Int)], (if q.1.kind = 3 ∨ q.1.kind = 4 then nl + 1 else nl), (if q.1.kind = 8 then np + 1 else np), max ns (stepS k q.1).2.depth, j + 1), A55, c55), run_next hi1 hqj hst, hn2.ok, by dsimp only; omega, by simp; omega, by dsimp only; split <;> omega, by dsimp only; split <;> omega, by dsimp only; split <;> omega, by dsimp only; split <;> omega, by have := hn2.s; dsimp only; omega⟩ (by dsimp only; omega) (.dr (.dr (.kp rfl (.kp rfl (.kp rfl (.kp rfl (.kp (by simp) (.kp rfl (.kp rfl (.kp rfl .nil)))))))))) (.dr (.dr (.kp (by simp [icells]) (.kp (congrArg (fun z => blk g36 130 (wcells z)) hs2.symm) (.kp (by dsimp only; rw [hd2]; (repeat (first | rw [if_pos (by omega)] | rw [if_neg (by omega)])); first | done | rfl) .nil))))) (fun _ h _ => h)
          ·
           refine W.del (.dr .rf) (W.skip (QS.blkn (QS.next (W.region ?_))))
           refine WL.st (R.mv (.t L8)) rfl ?_
           refine WL.st (R.fa fo_59_2 (.t L1)) rfl ?_
           refine WL.st (R.ld sc_57 (.t L0) H1 rfl) rfl ?_
           refine WL.st (R.nc (.t L2)) rfl ?_
           refine WL.st (R.fa fo_130_5 (.t L0)) rfl ?_
           refine WL.sto sz_57 (.t L0) (.t L2) rfl rfl rfl C3 (wp_last hkl) ?_
           refine WL.nil (QS.blkn (QS.next (W.del (.dr (.dr (.dr (.dr (.dr .rf))))) (W.region ?_))))
           refine WL.st (R.add (.t L1) .c (wi (by omega) (by omega))) rfl ?_
           refine WL.up (R.mv (.t L0)) U2 rfl ?_
           refine WL.nil ?_
           exact QS.at ⟨(((stepS k q.1).2, ds ++ [(k.depth : Int)], (if q.1.kind = 3 ∨ q.1.kind = 4 then nl + 1 else nl), (if q.1.kind = 8 then np + 1 else np), max ns (stepS k q.1).2.depth, j + 1), A55, c55), run_next hi1 hqj hst, hn2.ok, by dsimp only; omega, by simp; omega, by dsimp only; split <;> omega, by dsimp only; split <;> omega, by dsimp only; split <;> omega, by dsimp only; split <;> omega, by have := hn2.s; dsimp only; omega⟩ (by dsimp only; omega) (.dr (.dr (.kp rfl (.kp rfl (.kp rfl (.kp rfl (.kp (by simp) (.kp rfl (.kp rfl (.kp rfl .nil)))))))))) (.dr (.dr (.kp (by simp [icells]) (.kp (congrArg (fun z => blk g36 130 (wcells z)) hs2.symm) (.kp (by dsimp only; rw [hd2]; (repeat (first | rw [if_pos (by omega)] | rw [if_neg (by omega)])); first | done | rfl) .nil))))) (fun _ h _ => h)
    ·
     refine W.del (.dr .rf) (W.exit (QS.thenx (QS.thenx (QS.blkx (QS.next (W.del (.dr (.dr (.dr .rf))) (W.ret ?_)))))))
     have hr := run_end hi1 (by omega)
     exact QS.fin (.inl rfl) rfl (.agg ag_31 rfl L0 H2 (.tmp L1 (.tmp L2 (.tmp L3 .nil)))) (Ad, cd) (by rw [hr]; rfl) (.dr (.dr (.dr .nil))) (fun w h hd => by rw [hr]; exact Rd.of_row hd.1)

end Go.Proofs.YtpaecijilnfkhaaDoor
