/- Contracts: look; the laws. -/
import Derived.Test.YtpaecijilnfkhaaDoorC17
import Derived.Test.YtpaecijilnfkhaaDoorA8

namespace Go.Proofs.YtpaecijilnfkhaaDoor
open Go Go.Eng Go.RowKit
set_option maxHeartbeats 2000000 in
theorem ref17_look {A : Option Addr} {b s : List UInt8} {c : Nat} {sty tp : Int} (hc : b.length ≤ c) (hl : b.length ≤ 140737488355328) (hs : s.length ≤ 140737488355328) {C : Cx} (hb : Hb C C.w0 [] (fun w => RdB w A b)) :
    Sp Tryd.prog 45 [.slice A b.length c, str s, .int .i64 sty, .int .i64 tp] C (ι := Option Addr × Nat) (fun x => .tuple #[.agg #[.int .i64 (measS (runS b s sty tp)).ni, .int .i64 (measS (runS b s sty tp)).nb, .int .i64 (measS (runS b s sty tp)).nl, .int .i64 (measS (runS b s sty tp)).np, .int .i64 (measS (runS b s sty tp)).ns], .slice x.1 (measS (runS b s sty tp)).ds.length x.2, .int .i64 (runS b s sty tp).at_, .int .i64 (runS b s sty tp).e]) (fun _ => []) (fun x w => RdI w x.1 (measS (runS b s sty tp)).ds) := by
 refine Sp.enter (N := 158) (e := entryEnv [.slice A b.length c, str s, .int .i64 sty, .int .i64 tp] 0 24) Tryd.func45 rfl rfl (Nat.le_of_ble_eq_true rfl) (entry_ok (Nat.le_of_ble_eq_true rfl) (Nat.le_of_ble_eq_true rfl)) (entry_nd _ _) hb ?_
 show W _ _ _ _ _ [(0, .slice A b.length c), (1, str s), (2, .int .i64 sty), (3, .int .i64 tp), (4, undef), (5, undef), (6, undef), (7, undef), (8, undef), (9, undef), (10, undef), (11, undef), (12, undef), (13, undef), (14, undef), (15, undef), (16, undef), (17, undef), (18, undef), (19, undef), (20, undef), (21, undef), (22, undef), (23, undef)] _ _
 refine W.seq (W.region ?_)
 refine WL.allocu z_31 (fun _ => U8) rfl (fun g8 => ?_)
 refine WL.as .c U9 rfl ?_
 refine WL.as .c (E1 U0) rfl ?_
 refine WL.as .c (E1 U1) rfl ?_
 refine WL.nil (QS.next (W.seq (W.region ?_)))
 refine WL.st (R.bld (z := [.int .i64 0, .int .i64 0, .int .i64 0, .int .i64 0, .int .i64 0]) Tryd.underlying31 (by kernel_rfl) z_31 .nil) rfl ?_
 refine WL.allocu z_31 (fun _ => (E1 U3)) rfl (fun g12 => ?_)
 refine WL.sto sz_31 (.t (D1 L3)) (.t L0) rfl rfl rfl C0 (by repeat constructor) ?_
 refine WL.nil (QS.next (W.del (.dr .rf) (W.seq (W.seq (W.region ?_)))))
 refine WL.st (R.mv (.t L1)) rfl ?_
 refine WL.st (R.lens st_9 (.t L0)) rfl ?_
 refine WL.st (R.gtr (.t L0) .c) rfl ?_
 refine WL.nil (QS.next (W.del (.kp (.dr (.dr .rf))) ?_))
 refine W.cd (.t L0) (fun h0 => ?_) (fun h0 => ?_)
 ·
  refine W.del (.dr .rf) (W.seq (W.region ?_))
  refine WL.st (R.lda ag_31 (.t (D1 L2)) H0 (by repeat constructor)) rfl ?_
  refine WL.sto sz_31 (.t L9) (.t L0) rfl rfl rfl C1 (by repeat constructor) ?_
  refine WL.as .c (E1 U0) rfl ?_
  refine WL.as .c (E1 U1) rfl ?_
  refine WL.as .c (E1 U2) rfl ?_
  refine WL.nil (QS.next (W.del (.dr .rf) (W.ret (QS.thenr ?_))))
  have hr : runS b s sty tp = ⟨0, 0, 0, 0, 0, [], 0, 2⟩ := by rw [runS, if_pos (by omega)]
  have hm : measS (runS b s sty tp) = ⟨0, 0, 0, 0, 0, [], 0, 2⟩ := by rw [hr]; exact if_pos (show (2 : Int) ≠ 0 by decide)
  exact QS.fin (.inl rfl) rfl (.agg ag_31 rfl L8 H1 (.tmp L9 (.tmp (D1 L0) (.tmp (D1 L1) .nil)))) (none, 0) (by rw [hm, hr]; rfl) (.dr (.dr .nil)) (fun w _ _ => by rw [hm]; exact Rd.nil)
 ·
  refine W.del (.dr .rf) (W.skip (QS.next (W.seq (W.region ?_))))
  refine WL.st (R.mv (.t L0)) rfl ?_
  refine WL.call gf_35 .f (.cons (.t L0) .nil) (.dr (.dr .nil)) (fun w hb => (ref16_InstrsF hc hl (hb.imp fun _ h => h))) rfl (fun x31 => ?_)
  obtain ⟨⟨⟨Al, cl⟩, M⟩, hM⟩ := x31
  have hg := instrs_good b
  have hMl : M.length = (instrsS b).1.length := by rw [← hM, List.length_map]
  refine WL.rw L0 (v' := .tuple #[.slice Al M.length cl, .int .i64 (instrsS b).2.1, .int .i64 (instrsS b).2.2]) rfl U0 ?_
  refine WL.st (R.mv (.t L0)) rfl ?_
  refine WL.st (R.ex (.t L0) .here) rfl ?_
  refine WL.st (R.ex (.t L1) (.skip .here)) rfl ?_
  refine WL.st (R.ex (.t L2) (.skip (.skip .here))) rfl ?_
  refine WL.as (.t L2) (E1 U9) rfl ?_
  refine WL.as (.t L1) (E1 (E1 U0)) rfl ?_
  refine WL.as (.t L0) (E1 (E1 U1)) rfl ?_
  refine WL.nil (QS.next (W.del (.dr (.dr (.dr (.dr (.dr (.dr .rf)))))) (W.seq (W.seq (W.region ?_)))))
  refine WL.st (R.mv (.t (D1 L5))) rfl ?_
  refine WL.st (R.nei (.t L0) .c) rfl ?_
  refine WL.nil (QS.next (W.del (.kp (.dr .rf)) ?_))
  refine W.cd (.t L0) (fun h1 => ?_) (fun h1 => ?_)
  ·
   refine W.del (.dr .rf) (W.seq (W.region ?_))
   refine WL.st (R.lda ag_31 (.t (D1 L2)) H0 (by repeat constructor)) rfl ?_
   refine WL.st (R.mv (.t (D1 L5))) rfl ?_
   refine WL.st (R.mv (.t (D1 L7))) rfl ?_
   refine WL.sto sz_31 (.t (D1 L1)) (.t L2) rfl rfl rfl C1 (by repeat constructor) ?_
   refine WL.as .c (E1 U2) rfl ?_
   refine WL.as (.t L1) (E1 U3) rfl ?_
   refine WL.as (.t L0) (E1 U4) rfl ?_
   refine WL.nil (QS.next (W.del (.dr (.dr (.dr .rf))) (W.ret (QS.thenr ?_))))
   have hr : runS b s sty tp = ⟨0, 0, 0, 0, 0, [], (instrsS b).2.1, (instrsS b).2.2⟩ := by rw [runS, if_neg (by omega), if_pos (by omega)]
   have hm : measS (runS b s sty tp) = ⟨0, 0, 0, 0, 0, [], 0, (instrsS b).2.2⟩ := by rw [hr]; exact if_pos (show ((instrsS b).2.2 : Int) ≠ 0 by omega)
   exact QS.fin (.inl rfl) rfl (.agg ag_31 rfl L8 H1 (.tmp L9 (.tmp (D1 L0) (.tmp (D1 L1) .nil)))) (none, 0) (by rw [hm, hr]; rfl) (.dr (.dr .nil)) (fun w _ _ => by rw [hm]; exact Rd.nil)
  ·
   refine W.del (.dr .rf) (W.skip (QS.next (W.seq (W.seq (W.region ?_)))))
   refine WL.st (R.mv (.t (D1 L3))) rfl ?_
   refine WL.st (R.lenl sl_65 (.t L0)) rfl ?_
   refine WL.st (R.sub (.t L0) .c (wi (by omega) (by omega))) rfl ?_
   refine WL.st (R.gtr (.t L0) .c) rfl ?_
   refine WL.nil (QS.next (W.del (.kp (.dr (.dr (.dr .rf)))) ?_))
   refine W.cd (.t L0) (fun h2 => ?_) (fun h2 => ?_)
   ·
    refine W.del (.dr .rf) (W.seq (W.region ?_))
    refine WL.st (R.lda ag_31 (.t (D1 L2)) H0 (by repeat constructor)) rfl ?_
    refine WL.sto sz_31 (.t L9) (.t L0) rfl rfl rfl C1 (by repeat constructor) ?_
    refine WL.as .c (E1 U0) rfl ?_
    refine WL.as .c (E1 U1) rfl ?_
    refine WL.as .c (E1 U2) rfl ?_
    refine WL.nil (QS.next (W.del (.dr .rf) (W.ret (QS.thenr ?_))))
    have hr : runS b s sty tp = ⟨0, 0, 0, 0, 0, [], 0, 2⟩ := by rw [runS, if_neg (by omega), if_neg (by omega), if_pos (by omega)]
    have hm : measS (runS b s sty tp) = ⟨0, 0, 0, 0, 0, [], 0, 2⟩ := by rw [hr]; exact if_pos (show (2 : Int) ≠ 0 by decide)
    exact QS.fin (.inl rfl) rfl (.agg ag_31 rfl L8 H1 (.tmp L9 (.tmp (D1 L0) (.tmp (D1 L1) .nil)))) (none, 0) (by rw [hm, hr]; rfl) (.dr (.dr .nil)) (fun w _ _ => by rw [hm]; exact Rd.nil)
   ·
    refine W.del (.dr .rf) (W.skip (QS.next (W.seq ?_)))
    have hMb : M.length ≤ 65537 := by have h := h2; (try dsimp only at h); omega
    refine W.region ?_
    refine WL.st (R.mv (.t (D1 L3))) rfl ?_
    refine WL.st (R.lenl sl_65 (.t L0)) rfl ?_
    refine WL.st (R.sub (.t L0) .c (wi (by omega) (by omega))) rfl ?_
    refine WL.st (R.mv (.t L4)) rfl ?_
    refine WL.st (R.lens st_9 (.t L0)) rfl ?_
    refine WL.st (R.bld (z := [.int .i64 0, .int .i64 0, .int .i64 0, .int .i64 0, .int .i64 0]) Tryd.underlying31 (by kernel_rfl) z_31 (.cons fo_31_0 fz_31_0 rfl (.t L2) rfl (by repeat constructor) (.cons fo_31_1 fz_31_1 rfl (.t L0) rfl (by repeat constructor) .nil))) rfl ?_
    refine WL.allocu z_31 (fun _ => (E1 (E1 U2))) rfl (fun g16 => ?_)
    refine WL.sto sz_31 (.t (D1 (D1 L2))) (.t L0) rfl rfl rfl C0 (by repeat constructor) ?_
    refine WL.nil (QS.next (W.del (.dr (.dr (.dr (.dr (.dr (.dr .rf)))))) (W.seq ?_)))
    refine W.nilrow 3 1 ?_
    refine W.nilrow 159 5 ?_
    refine W.nilrow 4 1 ?_
    refine W.region ?_
    refine WL.st (R.bld (z := [.bool false, .slice none 0 0, .slice none 0 0, .bool false]) Tryd.underlying102 (by kernel_rfl) z_102 .nil) rfl ?_
    refine WL.box (.t L0) rfl rfl (fun g52 => ?_)
    refine WL.as (.t L0) (E1 U9) rfl ?_
    refine WL.nil (QS.next (W.del (.dr (.dr .rf)) (W.seq (W.region ?_))))
    refine WL.as .c (E1 U8) rfl ?_
    refine WL.nil (QS.next (W.seq (W.seq (W.region ?_))))
    refine WL.st (R.mv (.t (D1 L3))) rfl ?_
    refine WL.st (R.lenl sl_65 (.t L0)) rfl ?_
    refine WL.st (R.mv .c) rfl ?_
    refine WL.nil (QS.next (W.block ?_))
    refine W.loop (ι := {x : (WalkS × MachS × List Int × Int × Int × Int × Int × Nat) × (Option Addr × Nat) × (Option Addr × Nat) × Option Addr × Nat // (runF (((instrsS b).1.length : Int) - 1) s.length ((instrsS b).1.drop x.1.2.2.2.2.2.2.2) x.1.1 x.1.2.2.2.1 x.1.2.2.2.2.1 x.1.2.2.2.2.2.1 x.1.2.2.1 = runS b s sty tp ∧ WOk x.1.1 x.1.2.2.2.2.2.2.2 ∧ x.1.2.2.2.2.2.2.2 ≤ M.length ∧ (x.1.2.2.1).length = x.1.2.2.2.2.2.2.2 ∧ 0 ≤ x.1.2.2.2.1 ∧ x.1.2.2.2.1 ≤ x.1.2.2.2.2.2.2.2 ∧ 0 ≤ x.1.2.2.2.2.1 ∧ x.1.2.2.2.2.1 ≤ x.1.2.2.2.2.2.2.2 ∧ (x.1.1).s.length ≤ 16384) ∧ Sim x.1.1 x.1.2.1 (x.1.1).last ∧ LvB x.1.2.1 x.1.2.2.2.2.2.2.2 ∧ max x.1.2.2.2.2.2.2.1 (x.1.1).depth = x.1.2.2.2.2.2.1 ∧ 0 ≤ x.1.2.2.2.2.2.2.1 ∧ (x.1.1).styles = sty ∧ (x.1.1).topics = tp ∧ (x.1.2.2.2.2.2.2.2 = (instrsS b).1.length → (x.1.1).depth = 0)}) (fun x => [(55, .int .i64 (x.1.1.2.2.2.2.2.2.2 : Nat)), (54, .int .i64 M.length), (53, .slice Al M.length cl), (1, str x.1.1.1.s), (2, .int .i64 sty), (3, .int .i64 tp), (8, .pointer (some ⟨g8, 0, none⟩)), (9, .slice none 0 0), (10, .int .i64 0), (11, .int .i64 0), (12, .pointer (some ⟨g12, 0, none⟩)), (16, .pointer (some ⟨g16, 0, none⟩)), (17, .pointer (some ⟨g52, 0, none⟩)), (18, .slice x.1.2.1.1 x.1.1.2.2.1.length x.1.2.1.2)]) (fun x => [blk g52 102 [.bool x.1.1.2.1.para, .slice x.1.2.2.1.1 x.1.1.2.1.braces.length x.1.2.2.1.2, .slice x.1.2.2.2.1 x.1.1.2.1.open_.length x.1.2.2.2.2, .bool x.1.1.2.1.text], .row (.slice x.1.2.2.1.1 x.1.1.2.1.braces.length x.1.2.2.1.2) 4 1 x.1.1.2.1.braces.length (flat bo1 x.1.1.2.1.braces), .row (.slice x.1.2.2.2.1 x.1.1.2.1.open_.length x.1.2.2.2.2) 159 5 x.1.1.2.1.open_.length (flat lv5 x.1.1.2.1.open_), .row (.slice x.1.2.1.1 x.1.1.2.2.1.length x.1.2.1.2) 3 1 x.1.1.2.2.1.length (icells x.1.1.2.2.1), blk g16 31 [.int .i64 (((instrsS b).1.length : Int) - 1), .int .i64 s.length, .int .i64 x.1.1.2.2.2.1, .int .i64 x.1.1.2.2.2.2.1, .int .i64 x.1.1.2.2.2.2.2.2.1], blk g12 31 [.int .i64 0, .int .i64 0, .int .i64 0, .int .i64 0, .int .i64 0], blk g8 31 [.int .i64 0, .int .i64 0, .int .i64 0, .int .i64 0, .int .i64 0]]) (fun x w => RdB w A b ∧ RdF icell 5 w Al M ∧ (∀ q ∈ M, RdI w q.2.1 q.1.widths)) (fun x => M.length - x.1.1.2.2.2.2.2.2.2) ⟨((walk0 s sty tp, ⟨false, [], [], false⟩, [], 0, 0, 0, 0, 0), (none, 0), (none, 0), none, 0), ⟨by dsimp only; rw [List.drop_zero, runS, if_neg (by omega), if_neg (by omega), if_neg (by omega)], walk0_ok, Nat.zero_le _, rfl, by dsimp only; omega, by dsimp only; omega, by dsimp only; omega, by dsimp only; omega, by dsimp only [walk0]; omega⟩, sim_0, fun l hl => absurd hl (by simp), rfl, Int.le_refl _, rfl, rfl, fun _ => rfl⟩ (.kp rfl (.kp rfl (.kp rfl (.dr (.kp rfl (.kp rfl (.kp rfl (.dr (.dr (.dr (.dr (.kp rfl (.kp rfl (.kp rfl (.kp rfl (.kp rfl (.dr (.dr (.dr (.kp rfl (.kp rfl (.kp rfl (.dr (.dr (.dr (.dr (.dr .nil))))))))))))))))))))))))))) (.kp rfl (.kp rfl (.kp rfl (.kp rfl (.kp (by rw [hMl]) (.kp rfl (.kp rfl .nil))))))) (fun w h hd => ⟨h.1, h.2.1, h.2.2⟩) ?_
    intro x
    obtain ⟨⟨⟨k, m, ds, nl, np, ns, st, j⟩, ⟨Ad, cd⟩, ⟨Ab, cb⟩, Ao, co⟩, ⟨hi1, ok, hi3, hi4, hi5, hi6, hi7, hi8, hi9⟩, hsim, hlvb, hj10, hj11, hj12, hj13, hj14⟩ := x
    dsimp only at hi1 ok hi3 hi4 hi5 hi6 hi7 hi8 hi9 hsim hlvb hj10 hj11 hj12 hj13 hj14
    show W _ _ _ _ _ [(55, .int .i64 (j : Nat)), (54, .int .i64 M.length), (53, .slice Al M.length cl), (1, str k.s), (2, .int .i64 sty), (3, .int .i64 tp), (8, .pointer (some ⟨g8, 0, none⟩)), (9, .slice none 0 0), (10, .int .i64 0), (11, .int .i64 0), (12, .pointer (some ⟨g12, 0, none⟩)), (16, .pointer (some ⟨g16, 0, none⟩)), (17, .pointer (some ⟨g52, 0, none⟩)), (18, .slice Ad ds.length cd)] [blk g52 102 [.bool m.para, .slice Ab m.braces.length cb, .slice Ao m.open_.length co, .bool m.text], .row (.slice Ab m.braces.length cb) 4 1 m.braces.length (flat bo1 m.braces), .row (.slice Ao m.open_.length co) 159 5 m.open_.length (flat lv5 m.open_), .row (.slice Ad ds.length cd) 3 1 ds.length (icells ds), blk g16 31 [.int .i64 (((instrsS b).1.length : Int) - 1), .int .i64 s.length, .int .i64 nl, .int .i64 np, .int .i64 st], blk g12 31 [.int .i64 0, .int .i64 0, .int .i64 0, .int .i64 0, .int .i64 0], blk g8 31 [.int .i64 0, .int .i64 0, .int .i64 0, .int .i64 0, .int .i64 0]] (fun w => RdB w A b ∧ RdF icell 5 w Al M ∧ (∀ q ∈ M, RdI w q.2.1 q.1.widths))
    refine W.seq (W.region ?_)
    refine WL.st (R.lss (.t L0) (.t L1)) rfl ?_
    refine WL.nil (QS.next (W.seq ?_))
    refine W.cd (.t L0) (fun h3 => ?_) (fun h3 => ?_)
    ·
     refine W.del (.dr .rf) (W.skip (QS.next (W.seq (W.block (W.seq (W.region ?_))))))
     obtain ⟨x57, hx57⟩ : ∃ x, (M)[j]? = some x := ⟨_, List.getElem?_eq_getElem (by omega)⟩
     have hqj : (instrsS b).1[j]? = some x57.1 := by rw [← hM]; exact map_get hx57
     have hL := of_map hM hx57
     have hk1 := hL.kind
     have hLt := hL.text
     have hLw := hL.wl
     have hsp := sim_place (wl := x57.1.widths.length) ok hsim hk1.1 hk1.2 (by omega)
     have hpl0 := place_keep (k := k) (kind := x57.1.kind) (wl := x57.1.widths.length)
     have hdl := ok.depth_le
     have hsd : MachS.deep ⟨m.para, m.braces, m.open_, m.text⟩ = (k.depth : Int) := sim_deep hsim
     have hbo : m.braces.length ≤ 1000000 ∧ m.open_.length ≤ 1000000 := by have := hsim.dep; split at this <;> omega
     refine WL.st (R.ixF sl_65 (.t L2) rfl (.t L0) (l := M) (j := j) rfl (List.getElem?_eq_some_iff.1 hx57).1 (by decide) (fun w hb => hb.get.2.1)) rfl ?_
     refine WL.st (R.ldpF ag_59 (.t L0) (j := j) (k := 0) (fun w hb => hb.get.2.1) hx57 (by repeat constructor) (by decide)) rfl ?_
     refine WL.alloc z_59 rfl (fun g20 => ?_)
     refine WL.sto sz_59 (.t L0) (.t L1) rfl rfl rfl C0 (by repeat constructor) ?_
     refine WL.nil (QS.next (W.del (.kp (.dr (.dr .rf))) (W.seq (W.region ?_))))
     refine WL.st (R.mv (.t (D1 L4))) rfl ?_
     refine WL.st (R.mv (.t (D1 L4))) rfl ?_
     refine WL.call gf_69 .f (.cons (.t L0) .nil) (.dr (.kp rfl (.kp rfl (.kp rfl (.dr (.dr (.dr (.dr .nil)))))))) (fun w hb => (mach_Deep hbo.1 hbo.2 (hb.imp fun _ _ => trivial))) rfl (fun x61 => ?_)
     refine WL.rw L0 (v' := .int .i64 (k.depth : Int)) (congrArg (Value.int .i64) hsd) U0 ?_
     refine WL.bs1 sl_37 z_3 rfl (by decide) (by decide) (.t L0) rfl rfl rfl (fun g62 => ?_)
     refine WL.app' ap_37 (.t L3) (.t L0) (fun _ _ => C5) (fun w hb => Rd.of_blk (hb.has H0) rfl) rfl (by unfold maxLen; omega) (by omega) rfl (fun A63 c63 => ?_)
     refine WL.as (.t L0) (E1 U9) rfl ?_
     refine WL.nil (QS.next (W.del (.dr (.dr (.dr (.dr (.dr .rf))))) (W.seq ?_)))
     refine W.any mixed (n := 7) rfl ?_
     refine WA.take (i := 0) rfl (by kernel_rfl) (by kernel_rfl) (by kernel_rfl) (fun _ _ _ => (R.fa fo_31_4 (.t (D1 L2)))) rfl ?_
     refine WA.take (i := 2) rfl (by kernel_rfl) (by kernel_rfl) (by kernel_rfl) (fun _ _ _ => (R.mv (.t (D1 L4)))) rfl ?_
     refine WA.more [1, 3] (by kernel_rfl) (List.cons_ne_nil _ _) ⟨⟨_, rfl, ?_⟩, ⟨_, rfl, ?_⟩, trivial⟩
     ·
      refine WL.st (R.ld sc_3 (.t L1) H6 rfl) rfl ?_
      refine WL.nil (WA.next ?_)
      refine WA.more [3] (by kernel_rfl) (List.cons_ne_nil _ _) ⟨⟨_, rfl, ?_⟩, trivial⟩
      refine WL.call gf_69 .f (.cons (.t L1) .nil) (.dr (.kp rfl (.kp rfl (.kp rfl (.dr (.dr (.dr (.dr (.dr .nil))))))))) (fun w hb => (mach_Deep hbo.1 hbo.2 (hb.imp fun _ _ => trivial))) rfl (fun x67 => ?_)
      refine WL.rw L0 (v' := .int .i64 (k.depth : Int)) (congrArg (Value.int .i64) hsd) U0 ?_
      refine WL.nil (WA.next ?_)
      refine WA.more [4] (by kernel_rfl) (List.cons_ne_nil _ _) ⟨⟨_, rfl, ?_⟩, trivial⟩
      refine WL.st (R.maxi (.t L1) (.t L0) (max_if _ _)) rfl ?_
      refine WL.nil (WA.next ?_)
      refine WA.take (i := 5) rfl (by kernel_rfl) (by kernel_rfl) (by kernel_rfl) (fun _ _ _ => (R.fa fo_31_4 (.t (D1 L7)))) rfl ?_
      refine WA.more [6] (by kernel_rfl) (List.cons_ne_nil _ _) ⟨⟨_, rfl, ?_⟩, trivial⟩
      refine WL.sto sz_3 (.t L0) (.t L1) rfl rfl rfl C6 (by repeat constructor) ?_
      refine WL.nil (WA.next ?_)
      refine WA.done (by kernel_rfl) ?_
      refine QS.next (W.del (.dr (.dr (.dr (.dr (.dr (.dr .rf)))))) (W.seq (W.region ?_)))
      refine WL.st (R.fa fo_59_2 (.t L0)) rfl ?_
      refine WL.st (R.ld sc_57 (.t L0) H4 rfl) rfl ?_
      refine WL.st (R.eqi (.t L0) .c) rfl ?_
      refine WL.st (R.as (.t L0)) rfl ?_
      refine WL.nil (QS.next (W.del (.kp (.dr (.dr (.dr .rf)))) (W.seq (W.seq (W.region ?_)))))
      refine WL.st (R.lda ag_59 (.t L1) H4 (by repeat constructor)) rfl ?_
      refine WL.st (R.mv (.t L7)) rfl ?_
      refine WL.st (R.mv (.t L9)) rfl ?_
      refine WL.callr gf_70 .f (.cons (.t L2) (.cons (.t L1) (.cons (.t L0) .nil))) (fun w hb => (ref17_operand (l := x57.1.widths) (by omega) (hb.imp fun _ h => h.1.1.2.2 x57 (List.mem_of_getElem? hx57)))) rfl ?_
      refine WL.st (R.notb (.t L0)) rfl ?_
      refine WL.nil (QS.next (W.del (.kp (.dr (.dr (.dr (.dr .rf))))) ?_))
      refine W.cb (.t L0) (fun h4 => ?_) (fun h4 => ?_)
      ·
       refine W.del (.dr .rf) (W.seq ?_)
       have hse : (stepS k x57.1).1 = 161 := by rw [stepS, if_pos (by rw [hj12, hj13]; simpa using h4)]
       have hr := run_err hi1 hqj (by rw [hse]; decide)
       rw [hse] at hr
       have hm : measS (runS b s sty tp) = ⟨0, 0, 0, 0, 0, [], 0, 161⟩ := by rw [hr]; exact if_pos (show (161 : Int) ≠ 0 by decide)
       refine W.any mixed (n := 7) rfl ?_
       refine WA.take (i := 1) rfl (by kernel_rfl) (by kernel_rfl) (by kernel_rfl) (fun _ _ _ => (R.fa fo_59_0 (.t L1))) rfl ?_
       refine WA.more [0, 2] (by kernel_rfl) (List.cons_ne_nil _ _) ⟨⟨_, rfl, ?_⟩, ⟨_, rfl, ?_⟩, trivial⟩
       ·
        refine WL.st (R.lda ag_31 (.t (D1 L3)) H7 (by repeat constructor)) rfl ?_
        refine WL.nil (WA.next ?_)
        refine WA.more [2, 3] (by kernel_rfl) (List.cons_ne_nil _ _) ⟨⟨_, rfl, ?_⟩, ⟨_, rfl, ?_⟩, trivial⟩
        ·
         refine WL.st (R.ld sc_3 (.t L1) H4 rfl) rfl ?_
         refine WL.nil (WA.next ?_)
         refine WA.more [3] (by kernel_rfl) (List.cons_ne_nil _ _) ⟨⟨_, rfl, ?_⟩, trivial⟩
         refine WL.sto sz_31 (.t (D1 L1)) (.t L1) rfl rfl rfl C8 (by repeat constructor) ?_
         refine WL.nil (WA.next ?_)
         refine WA.more [4] (by kernel_rfl) (List.cons_ne_nil _ _) ⟨⟨_, rfl, ?_⟩, trivial⟩
         refine WL.as .c (E1 U2) rfl ?_
         refine WL.nil (WA.next ?_)
         refine WA.more [5] (by kernel_rfl) (List.cons_ne_nil _ _) ⟨⟨_, rfl, ?_⟩, trivial⟩
         refine WL.as (.t L0) (E1 U3) rfl ?_
         refine WL.nil (WA.next ?_)
         refine WA.more [6] (by kernel_rfl) (List.cons_ne_nil _ _) ⟨⟨_, rfl, ?_⟩, trivial⟩
         refine WL.as .c (E1 U4) rfl ?_
         refine WL.nil (WA.next ?_)
         refine WA.done (by kernel_rfl) ?_
         refine QS.next (W.del (.dr (.dr (.dr .rf))) (W.ret (QS.thenr (QS.blkr (QS.thenr (QS.thenr (QS.blkr (QS.thenr ?_))))))))
         exact QS.fin (.inl rfl) rfl (.agg ag_31 rfl L8 H8 (.tmp L9 (.tmp (D1 L0) (.tmp (D1 L1) .nil)))) (none, 0) (by rw [hm, hr]; rfl) (.dr (.dr (.dr (.dr (.dr (.dr (.dr (.dr (.dr .nil))))))))) (fun w _ _ => by rw [hm]; exact Rd.nil)
        ·
         refine WL.sto sz_31 (.t (D1 L0)) (.t L0) rfl rfl rfl C8 (by repeat constructor) ?_
         refine WL.nil (WA.next ?_)
         refine WA.more [2, 4] (by kernel_rfl) (List.cons_ne_nil _ _) ⟨⟨_, rfl, ?_⟩, ⟨_, rfl, ?_⟩, trivial⟩
         ·
          refine WL.st (R.ld sc_3 (.t L1) H4 rfl) rfl ?_
          refine WL.nil (WA.next ?_)
          refine WA.more [4] (by kernel_rfl) (List.cons_ne_nil _ _) ⟨⟨_, rfl, ?_⟩, trivial⟩
          refine WL.as .c (E1 U2) rfl ?_
          refine WL.nil (WA.next ?_)
          refine WA.more [5] (by kernel_rfl) (List.cons_ne_nil _ _) ⟨⟨_, rfl, ?_⟩, trivial⟩
          refine WL.as (.t L0) (E1 U3) rfl ?_
          refine WL.nil (WA.next ?_)
          refine WA.more [6] (by kernel_rfl) (List.cons_ne_nil _ _) ⟨⟨_, rfl, ?_⟩, trivial⟩
          refine WL.as .c (E1 U4) rfl ?_
          refine WL.nil (WA.next ?_)
          refine WA.done (by kernel_rfl) ?_
          refine QS.next (W.del (.dr (.dr (.dr .rf))) (W.ret (QS.thenr (QS.blkr (QS.thenr (QS.thenr (QS.blkr (QS.thenr ?_))))))))
          exact QS.fin (.inl rfl) rfl (.agg ag_31 rfl L8 H8 (.tmp L9 (.tmp (D1 L0) (.tmp (D1 L1) .nil)))) (none, 0) (by rw [hm, hr]; rfl) (.dr (.dr (.dr (.dr (.dr (.dr (.dr (.dr (.dr .nil))))))))) (fun w _ _ => by rw [hm]; exact Rd.nil)
         ·
          refine WL.as .c (E1 U1) rfl ?_
          refine WL.nil (WA.next ?_)
          refine WA.more [2] (by kernel_rfl) (List.cons_ne_nil _ _) ⟨⟨_, rfl, ?_⟩, trivial⟩
          refine WL.st (R.ld sc_3 (.t L1) H4 rfl) rfl ?_
          refine WL.nil (WA.next ?_)
          refine WA.more [5] (by kernel_rfl) (List.cons_ne_nil _ _) ⟨⟨_, rfl, ?_⟩, trivial⟩
          refine WL.as (.t L0) (E1 U3) rfl ?_
          refine WL.nil (WA.next ?_)
          refine WA.more [6] (by kernel_rfl) (List.cons_ne_nil _ _) ⟨⟨_, rfl, ?_⟩, trivial⟩
          refine WL.as .c (E1 U4) rfl ?_
          refine WL.nil (WA.next ?_)
          refine WA.done (by kernel_rfl) ?_
          refine QS.next (W.del (.dr (.dr (.dr .rf))) (W.ret (QS.thenr (QS.blkr (QS.thenr (QS.thenr (QS.blkr (QS.thenr ?_))))))))
          exact QS.fin (.inl rfl) rfl (.agg ag_31 rfl L8 H8 (.tmp L9 (.tmp (D1 L0) (.tmp (D1 L1) .nil)))) (none, 0) (by rw [hm, hr]; rfl) (.dr (.dr (.dr (.dr (.dr (.dr (.dr (.dr (.dr .nil))))))))) (fun w _ _ => by rw [hm]; exact Rd.nil)
       ·
        refine WL.st (R.ld sc_3 (.t L0) H4 rfl) rfl ?_
        refine WL.nil (WA.next ?_)
        refine WA.more [0] (by kernel_rfl) (List.cons_ne_nil _ _) ⟨⟨_, rfl, ?_⟩, trivial⟩
        refine WL.st (R.lda ag_31 (.t (D1 L4)) H7 (by repeat constructor)) rfl ?_
        refine WL.nil (WA.next ?_)
        refine WA.more [3] (by kernel_rfl) (List.cons_ne_nil _ _) ⟨⟨_, rfl, ?_⟩, trivial⟩
        refine WL.sto sz_31 (.t (D1 L1)) (.t L0) rfl rfl rfl C8 (by repeat constructor) ?_
        refine WL.nil (WA.next ?_)
        refine WA.more [4] (by kernel_rfl) (List.cons_ne_nil _ _) ⟨⟨_, rfl, ?_⟩, trivial⟩
        refine WL.as .c (E1 U2) rfl ?_
        refine WL.nil (WA.next ?_)
        refine WA.more [5] (by kernel_rfl) (List.cons_ne_nil _ _) ⟨⟨_, rfl, ?_⟩, trivial⟩
        refine WL.as (.t L1) (E1 U3) rfl ?_
        refine WL.nil (WA.next ?_)
        refine WA.more [6] (by kernel_rfl) (List.cons_ne_nil _ _) ⟨⟨_, rfl, ?_⟩, trivial⟩
        refine WL.as .c (E1 U4) rfl ?_
        refine WL.nil (WA.next ?_)
        refine WA.done (by kernel_rfl) ?_
        refine QS.next (W.del (.dr (.dr (.dr .rf))) (W.ret (QS.thenr (QS.blkr (QS.thenr (QS.thenr (QS.blkr (QS.thenr ?_))))))))
        exact QS.fin (.inl rfl) rfl (.agg ag_31 rfl L8 H8 (.tmp L9 (.tmp (D1 L0) (.tmp (D1 L1) .nil)))) (none, 0) (by rw [hm, hr]; rfl) (.dr (.dr (.dr (.dr (.dr (.dr (.dr (.dr (.dr .nil))))))))) (fun w _ _ => by rw [hm]; exact Rd.nil)
      ·
       have h4t : operandS x57.1.kind x57.1.n x57.1.widths k.styles k.topics = true := by rw [hj12, hj13]; simpa using h4
       refine W.del (.dr .rf) (W.skip (QS.next (W.seq (W.seq (W.region ?_)))))
       refine WL.st (R.mv (.t L0)) rfl ?_
       refine WL.st (R.mv (.t L0)) rfl ?_
       refine WL.cd L0 U0 U0 (fun hg82 => ?_) (fun hg82 => ?_)
       ·
        refine WL.gy rfl L0 (R.mv (.t (D1 L6))) rfl ?_
        refine WL.gyw rfl L1 ?_
        refine WL.call gf_49 .f (.cons (.t L0) .nil) (.kp rfl (.kp rfl (.kp rfl (.dr (.dr (.dr (.dr (.dr (.dr .nil))))))))) (fun w hb => (mach_Done hbo.1 hbo.2 (hb.imp fun _ _ => trivial))) rfl (fun x84 => ?_)
        refine WL.gy rfl L2 (R.notb (.t L0)) rfl ?_
        refine WL.st (R.pkt (.t L3) (.t L0)) rfl ?_
        refine WL.st (R.mv (.t L0)) rfl ?_
        refine WL.cb L0 U0 U0 (fun hg87 => ?_) (fun hg87 => ?_)
        ·
         refine WL.gn rfl L0 rfl ?_
         refine WL.gn rfl L1 rfl ?_
         refine WL.gn rfl L2 rfl ?_
         refine WL.gu rfl L0 rfl ?_
         refine WL.gu rfl L1 rfl ?_
         refine WL.gu rfl L2 rfl ?_
         refine WL.gu rfl L3 rfl ?_
         refine WL.gu rfl L4 rfl ?_
         refine WL.gu rfl L5 rfl ?_
         refine WL.gu rfl L6 rfl ?_
         refine WL.gu rfl L7 rfl ?_
         refine WL.gu rfl L8 rfl ?_
         refine WL.gu rfl L9 rfl ?_
         refine WL.gn rfl (D1 L3) rfl ?_
         refine WL.st (R.pkt (.t (D1 L4)) .c) rfl ?_
         refine WL.nil (QS.next (W.del (.kp (.dr (.dr (.dr (.dr (.dr (.dr (.dr (.dr (.dr (.dr (.dr (.dr (.dr (.dr (.dr (.dr (.dr (.dr (.dr (.dr (.dr .rf)))))))))))))))))))))) (W.ct (.t L0) (W.del (.dr .rf) (W.seq ?_)))))
         have hse : (stepS k x57.1).1 = 170 := look_170 h4t (by rw [hsp.1]; rw [if_pos hg82]; simpa using hg87)
         have hr := run_err hi1 hqj (by rw [hse]; decide)
         rw [hse] at hr
         have hm : measS (runS b s sty tp) = ⟨0, 0, 0, 0, 0, [], 0, 170⟩ := by rw [hr]; exact if_pos (show (170 : Int) ≠ 0 by decide)
         refine W.any mixed (n := 7) rfl ?_
         refine WA.take (i := 1) rfl (by kernel_rfl) (by kernel_rfl) (by kernel_rfl) (fun _ _ _ => (R.fa fo_59_0 (.t L1))) rfl ?_
         refine WA.more [0, 2] (by kernel_rfl) (List.cons_ne_nil _ _) ⟨⟨_, rfl, ?_⟩, ⟨_, rfl, ?_⟩, trivial⟩
         ·
          refine WL.st (R.lda ag_31 (.t (D1 L3)) H7 (by repeat constructor)) rfl ?_
          refine WL.nil (WA.next ?_)
          refine WA.more [2, 3] (by kernel_rfl) (List.cons_ne_nil _ _) ⟨⟨_, rfl, ?_⟩, ⟨_, rfl, ?_⟩, trivial⟩
          ·
           refine WL.st (R.ld sc_3 (.t L1) H4 rfl) rfl ?_
           refine WL.nil (WA.next ?_)
           refine WA.more [3] (by kernel_rfl) (List.cons_ne_nil _ _) ⟨⟨_, rfl, ?_⟩, trivial⟩
           refine WL.sto sz_31 (.t (D1 L1)) (.t L1) rfl rfl rfl C8 (by repeat constructor) ?_
           refine WL.nil (WA.next ?_)
           refine WA.more [4] (by kernel_rfl) (List.cons_ne_nil _ _) ⟨⟨_, rfl, ?_⟩, trivial⟩
           refine WL.as .c (E1 U2) rfl ?_
           refine WL.nil (WA.next ?_)
           refine WA.more [5] (by kernel_rfl) (List.cons_ne_nil _ _) ⟨⟨_, rfl, ?_⟩, trivial⟩
           refine WL.as (.t L0) (E1 U3) rfl ?_
           refine WL.nil (WA.next ?_)
           refine WA.more [6] (by kernel_rfl) (List.cons_ne_nil _ _) ⟨⟨_, rfl, ?_⟩, trivial⟩
           refine WL.as .c (E1 U4) rfl ?_
           refine WL.nil (WA.next ?_)
           refine WA.done (by kernel_rfl) ?_
           refine QS.next (W.del (.dr (.dr (.dr .rf))) (W.ret (QS.thenr (QS.blkr (QS.thenr (QS.thenr (QS.blkr (QS.thenr ?_))))))))
           exact QS.fin (.inl rfl) rfl (.agg ag_31 rfl L8 H8 (.tmp L9 (.tmp (D1 L0) (.tmp (D1 L1) .nil)))) (none, 0) (by rw [hm, hr]; rfl) (.dr (.dr (.dr (.dr (.dr (.dr (.dr (.dr (.dr .nil))))))))) (fun w _ _ => by rw [hm]; exact Rd.nil)
          ·
           refine WL.sto sz_31 (.t (D1 L0)) (.t L0) rfl rfl rfl C8 (by repeat constructor) ?_
           refine WL.nil (WA.next ?_)
           refine WA.more [2, 4] (by kernel_rfl) (List.cons_ne_nil _ _) ⟨⟨_, rfl, ?_⟩, ⟨_, rfl, ?_⟩, trivial⟩
           ·
            refine WL.st (R.ld sc_3 (.t L1) H4 rfl) rfl ?_
            refine WL.nil (WA.next ?_)
            refine WA.more [4] (by kernel_rfl) (List.cons_ne_nil _ _) ⟨⟨_, rfl, ?_⟩, trivial⟩
            refine WL.as .c (E1 U2) rfl ?_
            refine WL.nil (WA.next ?_)
            refine WA.more [5] (by kernel_rfl) (List.cons_ne_nil _ _) ⟨⟨_, rfl, ?_⟩, trivial⟩
            refine WL.as (.t L0) (E1 U3) rfl ?_
            refine WL.nil (WA.next ?_)
            refine WA.more [6] (by kernel_rfl) (List.cons_ne_nil _ _) ⟨⟨_, rfl, ?_⟩, trivial⟩
            refine WL.as .c (E1 U4) rfl ?_
            refine WL.nil (WA.next ?_)
            refine WA.done (by kernel_rfl) ?_
            refine QS.next (W.del (.dr (.dr (.dr .rf))) (W.ret (QS.thenr (QS.blkr (QS.thenr (QS.thenr (QS.blkr (QS.thenr ?_))))))))
            exact QS.fin (.inl rfl) rfl (.agg ag_31 rfl L8 H8 (.tmp L9 (.tmp (D1 L0) (.tmp (D1 L1) .nil)))) (none, 0) (by rw [hm, hr]; rfl) (.dr (.dr (.dr (.dr (.dr (.dr (.dr (.dr (.dr .nil))))))))) (fun w _ _ => by rw [hm]; exact Rd.nil)
           ·
            refine WL.as .c (E1 U1) rfl ?_
            refine WL.nil (WA.next ?_)
            refine WA.more [2] (by kernel_rfl) (List.cons_ne_nil _ _) ⟨⟨_, rfl, ?_⟩, trivial⟩
            refine WL.st (R.ld sc_3 (.t L1) H4 rfl) rfl ?_
            refine WL.nil (WA.next ?_)
            refine WA.more [5] (by kernel_rfl) (List.cons_ne_nil _ _) ⟨⟨_, rfl, ?_⟩, trivial⟩
            refine WL.as (.t L0) (E1 U3) rfl ?_
            refine WL.nil (WA.next ?_)
            refine WA.more [6] (by kernel_rfl) (List.cons_ne_nil _ _) ⟨⟨_, rfl, ?_⟩, trivial⟩
            refine WL.as .c (E1 U4) rfl ?_
            refine WL.nil (WA.next ?_)
            refine WA.done (by kernel_rfl) ?_
            refine QS.next (W.del (.dr (.dr (.dr .rf))) (W.ret (QS.thenr (QS.blkr (QS.thenr (QS.thenr (QS.blkr (QS.thenr ?_))))))))
            exact QS.fin (.inl rfl) rfl (.agg ag_31 rfl L8 H8 (.tmp L9 (.tmp (D1 L0) (.tmp (D1 L1) .nil)))) (none, 0) (by rw [hm, hr]; rfl) (.dr (.dr (.dr (.dr (.dr (.dr (.dr (.dr (.dr .nil))))))))) (fun w _ _ => by rw [hm]; exact Rd.nil)
         ·
          refine WL.st (R.ld sc_3 (.t L0) H4 rfl) rfl ?_
          refine WL.nil (WA.next ?_)
          refine WA.more [0] (by kernel_rfl) (List.cons_ne_nil _ _) ⟨⟨_, rfl, ?_⟩, trivial⟩
          refine WL.st (R.lda ag_31 (.t (D1 L4)) H7 (by repeat constructor)) rfl ?_
          refine WL.nil (WA.next ?_)
          refine WA.more [3] (by kernel_rfl) (List.cons_ne_nil _ _) ⟨⟨_, rfl, ?_⟩, trivial⟩
          refine WL.sto sz_31 (.t (D1 L1)) (.t L0) rfl rfl rfl C8 (by repeat constructor) ?_
          refine WL.nil (WA.next ?_)
          refine WA.more [4] (by kernel_rfl) (List.cons_ne_nil _ _) ⟨⟨_, rfl, ?_⟩, trivial⟩
          refine WL.as .c (E1 U2) rfl ?_
          refine WL.nil (WA.next ?_)
          refine WA.more [5] (by kernel_rfl) (List.cons_ne_nil _ _) ⟨⟨_, rfl, ?_⟩, trivial⟩
          refine WL.as (.t L1) (E1 U3) rfl ?_
          refine WL.nil (WA.next ?_)
          refine WA.more [6] (by kernel_rfl) (List.cons_ne_nil _ _) ⟨⟨_, rfl, ?_⟩, trivial⟩
          refine WL.as .c (E1 U4) rfl ?_
          refine WL.nil (WA.next ?_)
          refine WA.done (by kernel_rfl) ?_
          refine QS.next (W.del (.dr (.dr (.dr .rf))) (W.ret (QS.thenr (QS.blkr (QS.thenr (QS.thenr (QS.blkr (QS.thenr ?_))))))))
          exact QS.fin (.inl rfl) rfl (.agg ag_31 rfl L8 H8 (.tmp L9 (.tmp (D1 L0) (.tmp (D1 L1) .nil)))) (none, 0) (by rw [hm, hr]; rfl) (.dr (.dr (.dr (.dr (.dr (.dr (.dr (.dr (.dr .nil))))))))) (fun w _ _ => by rw [hm]; exact Rd.nil)
        ·
         refine WL.gy rfl L0 (R.mv (.t L7)) rfl ?_
         refine WL.gy rfl L1 (R.not (.t L0)) rfl ?_
         refine WL.gy rfl L2 (R.mv (.t L0)) rfl ?_
         refine WL.cd L0 U0 U0 (fun hg90 => ?_) (fun hg90 => ?_)
         ·
          exfalso; omega
         ·
          refine WL.gn rfl L0 rfl ?_
          refine WL.gn rfl L1 rfl ?_
          refine WL.gn rfl L2 rfl ?_
          refine WL.gn rfl L3 rfl ?_
          refine WL.gn rfl L4 rfl ?_
          refine WL.gn rfl L5 rfl ?_
          refine WL.gn rfl L6 rfl ?_
          refine WL.gn rfl L7 rfl ?_
          refine WL.gn rfl L8 rfl ?_
          refine WL.gn rfl L9 rfl ?_
          refine WL.gy rfl (D1 L3) (R.pkf (.t (D1 L0)) .c) rfl ?_
          refine WL.st (R.pkf (.t (D1 L4)) (.t L0)) rfl ?_
          refine WL.nil (QS.next (W.del (.kp (.dr (.dr (.dr (.dr (.dr (.dr (.dr (.dr (.dr (.dr (.dr (.dr (.dr (.dr (.dr (.dr (.dr (.dr (.dr (.dr (.dr .rf)))))))))))))))))))))) (W.cf (.t L0) (W.del (.dr .rf) (W.skip (QS.next (W.seq (W.region ?_))))))))
          refine WL.st (R.fa fo_59_2 (.t L1)) rfl ?_
          refine WL.st (R.ld sc_57 (.t L0) H4 rfl) rfl ?_
          refine WL.nil (QS.next (W.del (.kp (.dr .rf)) (W.block (W.seq (W.region ?_)))))
          refine WL.st (R.eqi (.t L0) .c) rfl ?_
          refine WL.st (R.as (.t L0)) rfl ?_
          refine WL.nil (QS.next (W.del (.kp (.dr .rf)) ?_))
          refine W.cd (.t L0) (fun h6 => ?_) (fun h6 => ?_)
          ·
           exfalso; omega
          ·
           refine W.del (.dr .rf) (W.seq (W.seq (W.region ?_)))
           refine WL.st (R.eqi (.t L0) .c) rfl ?_
           refine WL.st (R.as (.t L0)) rfl ?_
           refine WL.nil (QS.next (W.del (.kp (.dr .rf)) ?_))
           refine W.cd (.t L0) (fun h9 => ?_) (fun h9 => ?_)
           ·
            exfalso; omega
           ·
            refine W.region ?_
            refine WL.st (R.eqi (.t L1) .c) rfl ?_
            refine WL.as (.t L0) U1 rfl ?_
            refine WL.nil (QS.next (W.del (.dr .rf) ?_))
            refine W.cd (.t L0) (fun h10 => ?_) (fun h10 => ?_)
            ·
             exfalso; omega
            ·
             refine W.del (.dr .rf) (W.seq (W.region ?_))
             refine WL.st (R.eqi (.t L0) .c) rfl ?_
             refine WL.st (R.as (.t L0)) rfl ?_
             refine WL.nil (QS.next (W.del (.kp (.dr .rf)) ?_))
             refine W.cd (.t L0) (fun h11 => ?_) (fun h11 => ?_)
             ·
              exfalso; omega
             ·
              refine W.del (.dr .rf) (W.seq (W.region ?_))
              refine WL.st (R.eqi (.t L0) .c) rfl ?_
              refine WL.st (R.as (.t L0)) rfl ?_
              refine WL.nil (QS.next (W.del (.kp (.dr (.dr .rf))) ?_))
              refine W.cd (.t L0) (fun h12 => ?_) (fun h12 => ?_)
              ·
               refine W.del (.dr .rf) (W.seq (W.region ?_))
               refine WL.st (R.mv (.t L5)) rfl ?_
               refine WL.st (R.nes (.t L0) .c) rfl ?_
               refine WL.nil (QS.next (W.del (.kp (.dr .rf)) ?_))
               refine W.cd (.t L0) (fun h13 => ?_) (fun h13 => ?_)
               ·
                refine W.del (.dr .rf) (W.seq ?_)
                have hpt : (placeS k x57.1.kind x57.1.widths.length).1 = true := by rw [hsp.1]; rw [if_pos hg82]; simpa using hg87
                have hps := hpl0.1
                have hse : (stepS k x57.1).1 = 171 := look_171 h4t hpt (by rw [texts_15 (by omega), hps]; exact decide_eq_false h13)
                have hr := run_err hi1 hqj (by rw [hse]; decide)
                rw [hse] at hr
                have hm : measS (runS b s sty tp) = ⟨0, 0, 0, 0, 0, [], 0, 171⟩ := by rw [hr]; exact if_pos (show (171 : Int) ≠ 0 by decide)
                refine W.any mixed (n := 7) rfl ?_
                refine WA.take (i := 1) rfl (by kernel_rfl) (by kernel_rfl) (by kernel_rfl) (fun _ _ _ => (R.fa fo_59_0 (.t L1))) rfl ?_
                refine WA.more [0, 2] (by kernel_rfl) (List.cons_ne_nil _ _) ⟨⟨_, rfl, ?_⟩, ⟨_, rfl, ?_⟩, trivial⟩
                ·
                 refine WL.st (R.lda ag_31 (.t (D1 L3)) H7 (by repeat constructor)) rfl ?_
                 refine WL.nil (WA.next ?_)
                 refine WA.more [2, 3] (by kernel_rfl) (List.cons_ne_nil _ _) ⟨⟨_, rfl, ?_⟩, ⟨_, rfl, ?_⟩, trivial⟩
                 ·
                  refine WL.st (R.ld sc_3 (.t L1) H4 rfl) rfl ?_
                  refine WL.nil (WA.next ?_)
                  refine WA.more [3] (by kernel_rfl) (List.cons_ne_nil _ _) ⟨⟨_, rfl, ?_⟩, trivial⟩
                  refine WL.sto sz_31 (.t (D1 L1)) (.t L1) rfl rfl rfl C8 (by repeat constructor) ?_
                  refine WL.nil (WA.next ?_)
                  refine WA.more [4] (by kernel_rfl) (List.cons_ne_nil _ _) ⟨⟨_, rfl, ?_⟩, trivial⟩
                  refine WL.as .c (E1 U2) rfl ?_
                  refine WL.nil (WA.next ?_)
                  refine WA.more [5] (by kernel_rfl) (List.cons_ne_nil _ _) ⟨⟨_, rfl, ?_⟩, trivial⟩
                  refine WL.as (.t L0) (E1 U3) rfl ?_
                  refine WL.nil (WA.next ?_)
                  refine WA.more [6] (by kernel_rfl) (List.cons_ne_nil _ _) ⟨⟨_, rfl, ?_⟩, trivial⟩
                  refine WL.as .c (E1 U4) rfl ?_
                  refine WL.nil (WA.next ?_)
                  refine WA.done (by kernel_rfl) ?_
                  refine QS.next (W.del (.dr (.dr (.dr .rf))) (W.ret (QS.blkr (QS.blkr (QS.thenr (QS.thenr (QS.blkr (QS.thenr ?_))))))))
                  exact QS.fin (.inl rfl) rfl (.agg ag_31 rfl L8 H8 (.tmp L9 (.tmp (D1 L0) (.tmp (D1 L1) .nil)))) (none, 0) (by rw [hm, hr]; rfl) (.dr (.dr (.dr (.dr (.dr (.dr (.dr (.dr (.dr .nil))))))))) (fun w _ _ => by rw [hm]; exact Rd.nil)
                 ·
                  refine WL.sto sz_31 (.t (D1 L0)) (.t L0) rfl rfl rfl C8 (by repeat constructor) ?_
                  refine WL.nil (WA.next ?_)
                  refine WA.more [2, 4] (by kernel_rfl) (List.cons_ne_nil _ _) ⟨⟨_, rfl, ?_⟩, ⟨_, rfl, ?_⟩, trivial⟩
                  ·
                   refine WL.st (R.ld sc_3 (.t L1) H4 rfl) rfl ?_
                   refine WL.nil (WA.next ?_)
                   refine WA.more [4] (by kernel_rfl) (List.cons_ne_nil _ _) ⟨⟨_, rfl, ?_⟩, trivial⟩
                   refine WL.as .c (E1 U2) rfl ?_
                   refine WL.nil (WA.next ?_)
                   refine WA.more [5] (by kernel_rfl) (List.cons_ne_nil _ _) ⟨⟨_, rfl, ?_⟩, trivial⟩
                   refine WL.as (.t L0) (E1 U3) rfl ?_
                   refine WL.nil (WA.next ?_)
                   refine WA.more [6] (by kernel_rfl) (List.cons_ne_nil _ _) ⟨⟨_, rfl, ?_⟩, trivial⟩
                   refine WL.as .c (E1 U4) rfl ?_
                   refine WL.nil (WA.next ?_)
                   refine WA.done (by kernel_rfl) ?_
                   refine QS.next (W.del (.dr (.dr (.dr .rf))) (W.ret (QS.blkr (QS.blkr (QS.thenr (QS.thenr (QS.blkr (QS.thenr ?_))))))))
                   exact QS.fin (.inl rfl) rfl (.agg ag_31 rfl L8 H8 (.tmp L9 (.tmp (D1 L0) (.tmp (D1 L1) .nil)))) (none, 0) (by rw [hm, hr]; rfl) (.dr (.dr (.dr (.dr (.dr (.dr (.dr (.dr (.dr .nil))))))))) (fun w _ _ => by rw [hm]; exact Rd.nil)
                  ·
                   refine WL.as .c (E1 U1) rfl ?_
                   refine WL.nil (WA.next ?_)
                   refine WA.more [2] (by kernel_rfl) (List.cons_ne_nil _ _) ⟨⟨_, rfl, ?_⟩, trivial⟩
                   refine WL.st (R.ld sc_3 (.t L1) H4 rfl) rfl ?_
                   refine WL.nil (WA.next ?_)
                   refine WA.more [5] (by kernel_rfl) (List.cons_ne_nil _ _) ⟨⟨_, rfl, ?_⟩, trivial⟩
                   refine WL.as (.t L0) (E1 U3) rfl ?_
                   refine WL.nil (WA.next ?_)
                   refine WA.more [6] (by kernel_rfl) (List.cons_ne_nil _ _) ⟨⟨_, rfl, ?_⟩, trivial⟩
                   refine WL.as .c (E1 U4) rfl ?_
                   refine WL.nil (WA.next ?_)
                   refine WA.done (by kernel_rfl) ?_
                   refine QS.next (W.del (.dr (.dr (.dr .rf))) (W.ret (QS.blkr (QS.blkr (QS.thenr (QS.thenr (QS.blkr (QS.thenr ?_))))))))
                   exact QS.fin (.inl rfl) rfl (.agg ag_31 rfl L8 H8 (.tmp L9 (.tmp (D1 L0) (.tmp (D1 L1) .nil)))) (none, 0) (by rw [hm, hr]; rfl) (.dr (.dr (.dr (.dr (.dr (.dr (.dr (.dr (.dr .nil))))))))) (fun w _ _ => by rw [hm]; exact Rd.nil)
                ·
                 refine WL.st (R.ld sc_3 (.t L0) H4 rfl) rfl ?_
                 refine WL.nil (WA.next ?_)
                 refine WA.more [0] (by kernel_rfl) (List.cons_ne_nil _ _) ⟨⟨_, rfl, ?_⟩, trivial⟩
                 refine WL.st (R.lda ag_31 (.t (D1 L4)) H7 (by repeat constructor)) rfl ?_
                 refine WL.nil (WA.next ?_)
                 refine WA.more [3] (by kernel_rfl) (List.cons_ne_nil _ _) ⟨⟨_, rfl, ?_⟩, trivial⟩
                 refine WL.sto sz_31 (.t (D1 L1)) (.t L0) rfl rfl rfl C8 (by repeat constructor) ?_
                 refine WL.nil (WA.next ?_)
                 refine WA.more [4] (by kernel_rfl) (List.cons_ne_nil _ _) ⟨⟨_, rfl, ?_⟩, trivial⟩
                 refine WL.as .c (E1 U2) rfl ?_
                 refine WL.nil (WA.next ?_)
                 refine WA.more [5] (by kernel_rfl) (List.cons_ne_nil _ _) ⟨⟨_, rfl, ?_⟩, trivial⟩
                 refine WL.as (.t L1) (E1 U3) rfl ?_
                 refine WL.nil (WA.next ?_)
                 refine WA.more [6] (by kernel_rfl) (List.cons_ne_nil _ _) ⟨⟨_, rfl, ?_⟩, trivial⟩
                 refine WL.as .c (E1 U4) rfl ?_
                 refine WL.nil (WA.next ?_)
                 refine WA.done (by kernel_rfl) ?_
                 refine QS.next (W.del (.dr (.dr (.dr .rf))) (W.ret (QS.blkr (QS.blkr (QS.thenr (QS.thenr (QS.blkr (QS.thenr ?_))))))))
                 exact QS.fin (.inl rfl) rfl (.agg ag_31 rfl L8 H8 (.tmp L9 (.tmp (D1 L0) (.tmp (D1 L1) .nil)))) (none, 0) (by rw [hm, hr]; rfl) (.dr (.dr (.dr (.dr (.dr (.dr (.dr (.dr (.dr .nil))))))))) (fun w _ _ => by rw [hm]; exact Rd.nil)
               ·
                refine W.del (.dr .rf) (W.skip (QS.blkn (QS.blkn (QS.next (W.region ?_)))))
                refine WL.st (R.add (.t L2) .c (wi (by omega) (by omega))) rfl ?_
                refine WL.up (R.mv (.t L0)) U3 rfl ?_
                refine WL.nil ?_
                have hpt : (placeS k x57.1.kind x57.1.widths.length).1 = true := by rw [hsp.1]; rw [if_pos hg82]; simpa using hg87
                have htx : (textsS (placeS k x57.1.kind x57.1.widths.length).2 x57.1.kind x57.1.n).1 = true := by rw [texts_15 (by omega), hpl0.1]; exact decide_eq_true (Classical.not_not.1 h13)
                have hst0 := look_0 h4t hpt htx
                have hk2 : (stepS k x57.1).2 = { (textsS (placeS k x57.1.kind x57.1.widths.length).2 x57.1.kind x57.1.n).2 with last := x57.1.kind } := by rw [hst0]
                have hns : (stepS k x57.1).2.s = k.s := by rw [hk2]; dsimp only; rw [texts_15 (by omega)]; exact hpl0.1
                have hnl : (stepS k x57.1).2.last = x57.1.kind := by rw [hk2]
                have hz : (stepS k x57.1).1 = 0 := by rw [hst0]
                have hn2 := step_ok ok hz
                have hsk := step_keep hst0
                have hsim2 : Sim (stepS k x57.1).2 m x57.1.kind := by
                  have h := hsp.2 hpt
                  rw [if_pos hg82] at h
                  rw [hk2]; exact sim_texts h rfl
                have hlv2 : LvB m ((j + 1 : Nat) : Int) := by
                  intro l hl; have := hlvb l hl; omega
                have hfin : j + 1 = (instrsS b).1.length → (stepS k x57.1).2.depth = 0 := fun hh => halt_next ok hz (last_15 (by omega) hqj hh)
                have hsl : (stepS k x57.1).2.s.length ≤ 16384 := by have := hn2.s; omega
                have hrn := run_next hi1 hqj hz
                rw [if_neg (show ¬ (x57.1.kind = 3 ∨ x57.1.kind = 4) by omega)] at hrn
                rw [if_neg (show ¬ x57.1.kind = 8 by omega)] at hrn
                exact QS.at ⟨(((stepS k x57.1).2, m, ds ++ [(k.depth : Int)], nl, np, max ns (stepS k x57.1).2.depth, max st k.depth, j + 1), (A63, c63), (Ab, cb), Ao, co), ⟨hrn, hn2.ok, by dsimp only; omega, by simp; omega, by dsimp only; omega, by dsimp only; omega, by dsimp only; omega, by dsimp only; omega, hsl⟩, by dsimp only; rw [hnl]; exact hsim2, hlv2, by dsimp only; omega, by dsimp only; omega, hsk.1.trans hj12, hsk.2.trans hj13, hfin⟩ (show M.length - (j + 1) < M.length - j by omega) (.dr (.dr (.dr (.kp rfl (.kp rfl (.kp rfl (.kp (congrArg str hns.symm) (.kp rfl (.kp rfl (.kp rfl (.kp rfl (.kp rfl (.kp rfl (.kp rfl (.kp rfl (.kp rfl (.kp (by simp) .nil))))))))))))))))) (.kp rfl (.kp rfl (.kp rfl (.dr (.dr (.kp (by simp [icells]) (.kp rfl (.kp rfl (.kp rfl .nil))))))))) (fun w h hd => ⟨h.1.1.1.1, h.1.1.1.2.1, h.1.1.1.2.2⟩)
              ·
               exfalso; omega
       ·
        refine WL.gn rfl L0 rfl ?_
        refine WL.gn rfl L1 rfl ?_
        refine WL.gn rfl L2 rfl ?_
        refine WL.st (R.pkf (.t L3) .c) rfl ?_
        refine WL.st (R.mv (.t L0)) rfl ?_
        refine WL.gy rfl L0 (R.mv (.t L7)) rfl ?_
        refine WL.gy rfl L1 (R.not (.t L0)) rfl ?_
        refine WL.gy rfl L2 (R.mv (.t L0)) rfl ?_
        refine WL.cd L0 U0 U0 (fun hg90 => ?_) (fun hg90 => ?_)
        ·
         refine WL.gy rfl L0 (R.mv (.t (D1 (D1 L4)))) rfl ?_
         refine WL.gy rfl L1 (R.fa fo_59_2 (.t (D1 L2))) rfl ?_
         refine WL.gy rfl L2 (R.ld sc_57 (.t L0) H4 rfl) rfl ?_
         refine WL.gy rfl L3 (R.fa fo_59_3 (.t (D1 L4))) rfl ?_
         refine WL.gy rfl L4 (R.ld sc_3 (.t L0) H4 rfl) rfl ?_
         refine WL.gy rfl L5 (R.fa fo_59_4 (.t (D1 L6))) rfl ?_
         refine WL.gy rfl L6 (R.ld sc_37 (.t L0) H4 rfl) rfl ?_
         refine WL.gy rfl L7 (R.bld (z := [.int .i64 0, .int .i64 0, str [], .slice none 0 0]) Tryd.underlying95 (by kernel_rfl) z_95 (.cons fo_95_0 fz_95_0 rfl (.t L4) rfl (by repeat constructor) (.cons fo_95_1 fz_95_1 rfl (.t L2) rfl (by repeat constructor) (.cons fo_95_3 fz_95_3 rfl (.t L0) rfl (by repeat constructor) .nil)))) rfl ?_
         refine WL.gyw rfl L8 ?_
         refine WL.call gf_48 .f (.cons (.t L7) (.cons (.t L0) .nil)) (.kp rfl (.kp rfl (.kp rfl (.dr (.dr (.dr (.dr (.dr (.dr .nil))))))))) (fun w hb => (mach_Step hbo.1 hbo.2 (by omega) (fun l hl => by have := hlvb l hl; omega) (hb.imp fun _ _ => trivial))) rfl (fun x99 => ?_)
         refine WL.gy rfl L9 (R.notb (.t L0)) rfl ?_
         refine WL.gy rfl (D1 L3) (R.pkt (.t (D1 L0)) (.t L0)) rfl ?_
         refine WL.st (R.pkf (.t (D1 L4)) (.t L0)) rfl ?_
         refine WL.nil (QS.next (W.del (.kp (.dr (.dr (.dr (.dr (.dr (.dr (.dr (.dr (.dr (.dr (.dr (.dr (.dr (.dr (.dr (.dr (.dr (.dr (.dr (.dr (.dr .rf)))))))))))))))))))))) ?_))
         refine W.cb (.t L0) (fun h5 => ?_) (fun h5 => ?_)
         ·
          refine W.del (.dr .rf) (W.seq ?_)
          have hse : (stepS k x57.1).1 = 170 := look_170 h4t (by rw [hsp.1]; rw [if_neg hg82]; simpa using h5)
          have hr := run_err hi1 hqj (by rw [hse]; decide)
          rw [hse] at hr
          have hm : measS (runS b s sty tp) = ⟨0, 0, 0, 0, 0, [], 0, 170⟩ := by rw [hr]; exact if_pos (show (170 : Int) ≠ 0 by decide)
          refine W.any mixed (n := 7) rfl ?_
          refine WA.take (i := 1) rfl (by kernel_rfl) (by kernel_rfl) (by kernel_rfl) (fun _ _ _ => (R.fa fo_59_0 (.t L1))) rfl ?_
          refine WA.more [0, 2] (by kernel_rfl) (List.cons_ne_nil _ _) ⟨⟨_, rfl, ?_⟩, ⟨_, rfl, ?_⟩, trivial⟩
          ·
           refine WL.st (R.lda ag_31 (.t (D1 L3)) H7 (by repeat constructor)) rfl ?_
           refine WL.nil (WA.next ?_)
           refine WA.more [2, 3] (by kernel_rfl) (List.cons_ne_nil _ _) ⟨⟨_, rfl, ?_⟩, ⟨_, rfl, ?_⟩, trivial⟩
           ·
            refine WL.st (R.ld sc_3 (.t L1) H4 rfl) rfl ?_
            refine WL.nil (WA.next ?_)
            refine WA.more [3] (by kernel_rfl) (List.cons_ne_nil _ _) ⟨⟨_, rfl, ?_⟩, trivial⟩
            refine WL.sto sz_31 (.t (D1 L1)) (.t L1) rfl rfl rfl C8 (by repeat constructor) ?_
            refine WL.nil (WA.next ?_)
            refine WA.more [4] (by kernel_rfl) (List.cons_ne_nil _ _) ⟨⟨_, rfl, ?_⟩, trivial⟩
            refine WL.as .c (E1 U2) rfl ?_
            refine WL.nil (WA.next ?_)
            refine WA.more [5] (by kernel_rfl) (List.cons_ne_nil _ _) ⟨⟨_, rfl, ?_⟩, trivial⟩
            refine WL.as (.t L0) (E1 U3) rfl ?_
            refine WL.nil (WA.next ?_)
            refine WA.more [6] (by kernel_rfl) (List.cons_ne_nil _ _) ⟨⟨_, rfl, ?_⟩, trivial⟩
            refine WL.as .c (E1 U4) rfl ?_
            refine WL.nil (WA.next ?_)
            refine WA.done (by kernel_rfl) ?_
            refine QS.next (W.del (.dr (.dr (.dr .rf))) (W.ret (QS.thenr (QS.blkr (QS.thenr (QS.thenr (QS.blkr (QS.thenr ?_))))))))
            exact QS.fin (.inl rfl) rfl (.agg ag_31 rfl L8 H8 (.tmp L9 (.tmp (D1 L0) (.tmp (D1 L1) .nil)))) (none, 0) (by rw [hm, hr]; rfl) (.dr (.dr (.dr (.dr (.dr (.dr (.dr (.dr (.dr .nil))))))))) (fun w _ _ => by rw [hm]; exact Rd.nil)
           ·
            refine WL.sto sz_31 (.t (D1 L0)) (.t L0) rfl rfl rfl C8 (by repeat constructor) ?_
            refine WL.nil (WA.next ?_)
            refine WA.more [2, 4] (by kernel_rfl) (List.cons_ne_nil _ _) ⟨⟨_, rfl, ?_⟩, ⟨_, rfl, ?_⟩, trivial⟩
            ·
             refine WL.st (R.ld sc_3 (.t L1) H4 rfl) rfl ?_
             refine WL.nil (WA.next ?_)
             refine WA.more [4] (by kernel_rfl) (List.cons_ne_nil _ _) ⟨⟨_, rfl, ?_⟩, trivial⟩
             refine WL.as .c (E1 U2) rfl ?_
             refine WL.nil (WA.next ?_)
             refine WA.more [5] (by kernel_rfl) (List.cons_ne_nil _ _) ⟨⟨_, rfl, ?_⟩, trivial⟩
             refine WL.as (.t L0) (E1 U3) rfl ?_
             refine WL.nil (WA.next ?_)
             refine WA.more [6] (by kernel_rfl) (List.cons_ne_nil _ _) ⟨⟨_, rfl, ?_⟩, trivial⟩
             refine WL.as .c (E1 U4) rfl ?_
             refine WL.nil (WA.next ?_)
             refine WA.done (by kernel_rfl) ?_
             refine QS.next (W.del (.dr (.dr (.dr .rf))) (W.ret (QS.thenr (QS.blkr (QS.thenr (QS.thenr (QS.blkr (QS.thenr ?_))))))))
             exact QS.fin (.inl rfl) rfl (.agg ag_31 rfl L8 H8 (.tmp L9 (.tmp (D1 L0) (.tmp (D1 L1) .nil)))) (none, 0) (by rw [hm, hr]; rfl) (.dr (.dr (.dr (.dr (.dr (.dr (.dr (.dr (.dr .nil))))))))) (fun w _ _ => by rw [hm]; exact Rd.nil)
            ·
             refine WL.as .c (E1 U1) rfl ?_
             refine WL.nil (WA.next ?_)
             refine WA.more [2] (by kernel_rfl) (List.cons_ne_nil _ _) ⟨⟨_, rfl, ?_⟩, trivial⟩
             refine WL.st (R.ld sc_3 (.t L1) H4 rfl) rfl ?_
             refine WL.nil (WA.next ?_)
             refine WA.more [5] (by kernel_rfl) (List.cons_ne_nil _ _) ⟨⟨_, rfl, ?_⟩, trivial⟩
             refine WL.as (.t L0) (E1 U3) rfl ?_
             refine WL.nil (WA.next ?_)
             refine WA.more [6] (by kernel_rfl) (List.cons_ne_nil _ _) ⟨⟨_, rfl, ?_⟩, trivial⟩
             refine WL.as .c (E1 U4) rfl ?_
             refine WL.nil (WA.next ?_)
             refine WA.done (by kernel_rfl) ?_
             refine QS.next (W.del (.dr (.dr (.dr .rf))) (W.ret (QS.thenr (QS.blkr (QS.thenr (QS.thenr (QS.blkr (QS.thenr ?_))))))))
             exact QS.fin (.inl rfl) rfl (.agg ag_31 rfl L8 H8 (.tmp L9 (.tmp (D1 L0) (.tmp (D1 L1) .nil)))) (none, 0) (by rw [hm, hr]; rfl) (.dr (.dr (.dr (.dr (.dr (.dr (.dr (.dr (.dr .nil))))))))) (fun w _ _ => by rw [hm]; exact Rd.nil)
          ·
           refine WL.st (R.ld sc_3 (.t L0) H4 rfl) rfl ?_
           refine WL.nil (WA.next ?_)
           refine WA.more [0] (by kernel_rfl) (List.cons_ne_nil _ _) ⟨⟨_, rfl, ?_⟩, trivial⟩
           refine WL.st (R.lda ag_31 (.t (D1 L4)) H7 (by repeat constructor)) rfl ?_
           refine WL.nil (WA.next ?_)
           refine WA.more [3] (by kernel_rfl) (List.cons_ne_nil _ _) ⟨⟨_, rfl, ?_⟩, trivial⟩
           refine WL.sto sz_31 (.t (D1 L1)) (.t L0) rfl rfl rfl C8 (by repeat constructor) ?_
           refine WL.nil (WA.next ?_)
           refine WA.more [4] (by kernel_rfl) (List.cons_ne_nil _ _) ⟨⟨_, rfl, ?_⟩, trivial⟩
           refine WL.as .c (E1 U2) rfl ?_
           refine WL.nil (WA.next ?_)
           refine WA.more [5] (by kernel_rfl) (List.cons_ne_nil _ _) ⟨⟨_, rfl, ?_⟩, trivial⟩
           refine WL.as (.t L1) (E1 U3) rfl ?_
           refine WL.nil (WA.next ?_)
           refine WA.more [6] (by kernel_rfl) (List.cons_ne_nil _ _) ⟨⟨_, rfl, ?_⟩, trivial⟩
           refine WL.as .c (E1 U4) rfl ?_
           refine WL.nil (WA.next ?_)
           refine WA.done (by kernel_rfl) ?_
           refine QS.next (W.del (.dr (.dr (.dr .rf))) (W.ret (QS.thenr (QS.blkr (QS.thenr (QS.thenr (QS.blkr (QS.thenr ?_))))))))
           exact QS.fin (.inl rfl) rfl (.agg ag_31 rfl L8 H8 (.tmp L9 (.tmp (D1 L0) (.tmp (D1 L1) .nil)))) (none, 0) (by rw [hm, hr]; rfl) (.dr (.dr (.dr (.dr (.dr (.dr (.dr (.dr (.dr .nil))))))))) (fun w _ _ => by rw [hm]; exact Rd.nil)
         ·
          refine W.del (.dr .rf) (W.skip (QS.next (W.seq (W.region ?_))))
          refine WL.st (R.fa fo_59_2 (.t L1)) rfl ?_
          refine WL.st (R.ld sc_57 (.t L0) H4 rfl) rfl ?_
          refine WL.nil (QS.next (W.del (.kp (.dr .rf)) (W.block (W.seq (W.region ?_)))))
          refine WL.st (R.eqi (.t L0) .c) rfl ?_
          refine WL.st (R.as (.t L0)) rfl ?_
          refine WL.nil (QS.next (W.del (.kp (.dr .rf)) ?_))
          refine W.cd (.t L0) (fun h6 => ?_) (fun h6 => ?_)
          ·
           refine W.del (.dr (.dr .rf)) (W.seq (W.seq (W.region ?_)))
           refine WL.st (R.fa fo_59_3 (.t L1)) rfl ?_
           refine WL.st (R.ld sc_3 (.t L0) H4 rfl) rfl ?_
           refine WL.st (R.mv (.t L7)) rfl ?_
           refine WL.st (R.lens st_9 (.t L0)) rfl ?_
           refine WL.st (R.gtr (.t L2) (.t L0)) rfl ?_
           refine WL.nil (QS.next (W.del (.kp (.dr (.dr (.dr (.dr .rf))))) ?_))
           refine W.cd (.t L0) (fun h7 => ?_) (fun h7 => ?_)
           ·
            refine W.del (.dr .rf) (W.seq ?_)
            have hpt : (placeS k x57.1.kind x57.1.widths.length).1 = true := by rw [hsp.1]; rw [if_neg hg82]; simpa using h5
            have hps := hpl0.1
            have hse : (stepS k x57.1).1 = 171 := look_171 h4t hpt (by rw [texts_1x (by omega) (by rw [hps]; omega)])
            have hr := run_err hi1 hqj (by rw [hse]; decide)
            rw [hse] at hr
            have hm : measS (runS b s sty tp) = ⟨0, 0, 0, 0, 0, [], 0, 171⟩ := by rw [hr]; exact if_pos (show (171 : Int) ≠ 0 by decide)
            refine W.any mixed (n := 7) rfl ?_
            refine WA.take (i := 1) rfl (by kernel_rfl) (by kernel_rfl) (by kernel_rfl) (fun _ _ _ => (R.fa fo_59_0 (.t L1))) rfl ?_
            refine WA.more [0, 2] (by kernel_rfl) (List.cons_ne_nil _ _) ⟨⟨_, rfl, ?_⟩, ⟨_, rfl, ?_⟩, trivial⟩
            ·
             refine WL.st (R.lda ag_31 (.t (D1 L3)) H7 (by repeat constructor)) rfl ?_
             refine WL.nil (WA.next ?_)
             refine WA.more [2, 3] (by kernel_rfl) (List.cons_ne_nil _ _) ⟨⟨_, rfl, ?_⟩, ⟨_, rfl, ?_⟩, trivial⟩
             ·
              refine WL.st (R.ld sc_3 (.t L1) H4 rfl) rfl ?_
              refine WL.nil (WA.next ?_)
              refine WA.more [3] (by kernel_rfl) (List.cons_ne_nil _ _) ⟨⟨_, rfl, ?_⟩, trivial⟩
              refine WL.sto sz_31 (.t (D1 L1)) (.t L1) rfl rfl rfl C8 (by repeat constructor) ?_
              refine WL.nil (WA.next ?_)
              refine WA.more [4] (by kernel_rfl) (List.cons_ne_nil _ _) ⟨⟨_, rfl, ?_⟩, trivial⟩
              refine WL.as .c (E1 U2) rfl ?_
              refine WL.nil (WA.next ?_)
              refine WA.more [5] (by kernel_rfl) (List.cons_ne_nil _ _) ⟨⟨_, rfl, ?_⟩, trivial⟩
              refine WL.as (.t L0) (E1 U3) rfl ?_
              refine WL.nil (WA.next ?_)
              refine WA.more [6] (by kernel_rfl) (List.cons_ne_nil _ _) ⟨⟨_, rfl, ?_⟩, trivial⟩
              refine WL.as .c (E1 U4) rfl ?_
              refine WL.nil (WA.next ?_)
              refine WA.done (by kernel_rfl) ?_
              refine QS.next (W.del (.dr (.dr (.dr .rf))) (W.ret (QS.thenr (QS.blkr (QS.blkr (QS.thenr (QS.thenr (QS.blkr (QS.thenr ?_)))))))))
              exact QS.fin (.inl rfl) rfl (.agg ag_31 rfl L8 H8 (.tmp L9 (.tmp (D1 L0) (.tmp (D1 L1) .nil)))) (none, 0) (by rw [hm, hr]; rfl) (.dr (.dr (.dr (.dr (.dr (.dr (.dr (.dr (.dr .nil))))))))) (fun w _ _ => by rw [hm]; exact Rd.nil)
             ·
              refine WL.sto sz_31 (.t (D1 L0)) (.t L0) rfl rfl rfl C8 (by repeat constructor) ?_
              refine WL.nil (WA.next ?_)
              refine WA.more [2, 4] (by kernel_rfl) (List.cons_ne_nil _ _) ⟨⟨_, rfl, ?_⟩, ⟨_, rfl, ?_⟩, trivial⟩
              ·
               refine WL.st (R.ld sc_3 (.t L1) H4 rfl) rfl ?_
               refine WL.nil (WA.next ?_)
               refine WA.more [4] (by kernel_rfl) (List.cons_ne_nil _ _) ⟨⟨_, rfl, ?_⟩, trivial⟩
               refine WL.as .c (E1 U2) rfl ?_
               refine WL.nil (WA.next ?_)
               refine WA.more [5] (by kernel_rfl) (List.cons_ne_nil _ _) ⟨⟨_, rfl, ?_⟩, trivial⟩
               refine WL.as (.t L0) (E1 U3) rfl ?_
               refine WL.nil (WA.next ?_)
               refine WA.more [6] (by kernel_rfl) (List.cons_ne_nil _ _) ⟨⟨_, rfl, ?_⟩, trivial⟩
               refine WL.as .c (E1 U4) rfl ?_
               refine WL.nil (WA.next ?_)
               refine WA.done (by kernel_rfl) ?_
               refine QS.next (W.del (.dr (.dr (.dr .rf))) (W.ret (QS.thenr (QS.blkr (QS.blkr (QS.thenr (QS.thenr (QS.blkr (QS.thenr ?_)))))))))
               exact QS.fin (.inl rfl) rfl (.agg ag_31 rfl L8 H8 (.tmp L9 (.tmp (D1 L0) (.tmp (D1 L1) .nil)))) (none, 0) (by rw [hm, hr]; rfl) (.dr (.dr (.dr (.dr (.dr (.dr (.dr (.dr (.dr .nil))))))))) (fun w _ _ => by rw [hm]; exact Rd.nil)
              ·
               refine WL.as .c (E1 U1) rfl ?_
               refine WL.nil (WA.next ?_)
               refine WA.more [2] (by kernel_rfl) (List.cons_ne_nil _ _) ⟨⟨_, rfl, ?_⟩, trivial⟩
               refine WL.st (R.ld sc_3 (.t L1) H4 rfl) rfl ?_
               refine WL.nil (WA.next ?_)
               refine WA.more [5] (by kernel_rfl) (List.cons_ne_nil _ _) ⟨⟨_, rfl, ?_⟩, trivial⟩
               refine WL.as (.t L0) (E1 U3) rfl ?_
               refine WL.nil (WA.next ?_)
               refine WA.more [6] (by kernel_rfl) (List.cons_ne_nil _ _) ⟨⟨_, rfl, ?_⟩, trivial⟩
               refine WL.as .c (E1 U4) rfl ?_
               refine WL.nil (WA.next ?_)
               refine WA.done (by kernel_rfl) ?_
               refine QS.next (W.del (.dr (.dr (.dr .rf))) (W.ret (QS.thenr (QS.blkr (QS.blkr (QS.thenr (QS.thenr (QS.blkr (QS.thenr ?_)))))))))
               exact QS.fin (.inl rfl) rfl (.agg ag_31 rfl L8 H8 (.tmp L9 (.tmp (D1 L0) (.tmp (D1 L1) .nil)))) (none, 0) (by rw [hm, hr]; rfl) (.dr (.dr (.dr (.dr (.dr (.dr (.dr (.dr (.dr .nil))))))))) (fun w _ _ => by rw [hm]; exact Rd.nil)
            ·
             refine WL.st (R.ld sc_3 (.t L0) H4 rfl) rfl ?_
             refine WL.nil (WA.next ?_)
             refine WA.more [0] (by kernel_rfl) (List.cons_ne_nil _ _) ⟨⟨_, rfl, ?_⟩, trivial⟩
             refine WL.st (R.lda ag_31 (.t (D1 L4)) H7 (by repeat constructor)) rfl ?_
             refine WL.nil (WA.next ?_)
             refine WA.more [3] (by kernel_rfl) (List.cons_ne_nil _ _) ⟨⟨_, rfl, ?_⟩, trivial⟩
             refine WL.sto sz_31 (.t (D1 L1)) (.t L0) rfl rfl rfl C8 (by repeat constructor) ?_
             refine WL.nil (WA.next ?_)
             refine WA.more [4] (by kernel_rfl) (List.cons_ne_nil _ _) ⟨⟨_, rfl, ?_⟩, trivial⟩
             refine WL.as .c (E1 U2) rfl ?_
             refine WL.nil (WA.next ?_)
             refine WA.more [5] (by kernel_rfl) (List.cons_ne_nil _ _) ⟨⟨_, rfl, ?_⟩, trivial⟩
             refine WL.as (.t L1) (E1 U3) rfl ?_
             refine WL.nil (WA.next ?_)
             refine WA.more [6] (by kernel_rfl) (List.cons_ne_nil _ _) ⟨⟨_, rfl, ?_⟩, trivial⟩
             refine WL.as .c (E1 U4) rfl ?_
             refine WL.nil (WA.next ?_)
             refine WA.done (by kernel_rfl) ?_
             refine QS.next (W.del (.dr (.dr (.dr .rf))) (W.ret (QS.thenr (QS.blkr (QS.blkr (QS.thenr (QS.thenr (QS.blkr (QS.thenr ?_)))))))))
             exact QS.fin (.inl rfl) rfl (.agg ag_31 rfl L8 H8 (.tmp L9 (.tmp (D1 L0) (.tmp (D1 L1) .nil)))) (none, 0) (by rw [hm, hr]; rfl) (.dr (.dr (.dr (.dr (.dr (.dr (.dr (.dr (.dr .nil))))))))) (fun w _ _ => by rw [hm]; exact Rd.nil)
           ·
            refine W.del (.dr .rf) (W.skip (QS.next (W.seq (W.seq (W.region ?_)))))
            refine WL.st (R.mv (.t L5)) rfl ?_
            refine WL.st (R.fa fo_59_3 (.t L2)) rfl ?_
            refine WL.st (R.ld sc_3 (.t L0) H4 rfl) rfl ?_
            obtain ⟨nn, hn⟩ : ∃ nn : Nat, x57.1.n = (nn : Int) := ⟨x57.1.n.toNat, by omega⟩
            have hnn : x57.1.n.toNat = nn := by omega
            refine WL.st (R.sls st_9 (.t L2) .no (.yes (.t L0) hn) (a := 0) (b := nn) (Nat.zero_le _) (by omega) (r := k.s.take nn) (by simp)) rfl ?_
            refine WL.callr gf_71 .f (.cons (.t L0) .nil) (fun w hb => (ref02_Plain (l := k.s.take nn) (by rw [List.length_take]; omega) (hb.imp fun _ _ => trivial))) rfl ?_
            refine WL.st (R.mv (.t L0)) rfl ?_
            refine WL.st (R.ex (.t L0) .here) rfl ?_
            refine WL.st (R.ex (.t L1) (.skip .here)) rfl ?_
            refine WL.st (R.as (.t L1)) rfl ?_
            refine WL.st (R.as (.t L1)) rfl ?_
            refine WL.nil (QS.next (W.del (.kp (.kp (.dr (.dr (.dr (.dr (.dr (.dr (.dr (.dr .rf)))))))))) (W.seq (W.region ?_))))
            refine WL.st (R.mv (.t L0)) rfl ?_
            refine WL.st (R.notb (.t L0)) rfl ?_
            refine WL.nil (QS.next (W.del (.kp (.dr .rf)) ?_))
            refine W.cb (.t L0) (fun h8 => ?_) (fun h8 => ?_)
            ·
             refine W.del (.dr .rf) (W.seq ?_)
             have hpt : (placeS k x57.1.kind x57.1.widths.length).1 = true := by rw [hsp.1]; rw [if_neg hg82]; simpa using h5
             have hps := hpl0.1
             have hse : (stepS k x57.1).1 = 171 := look_171 h4t hpt (by rw [texts_1 (by omega) (by rw [hps]; omega), hps, hnn]; simpa using h8)
             have hr := run_err hi1 hqj (by rw [hse]; decide)
             rw [hse] at hr
             have hm : measS (runS b s sty tp) = ⟨0, 0, 0, 0, 0, [], 0, 171⟩ := by rw [hr]; exact if_pos (show (171 : Int) ≠ 0 by decide)
             refine W.any mixed (n := 7) rfl ?_
             refine WA.take (i := 1) rfl (by kernel_rfl) (by kernel_rfl) (by kernel_rfl) (fun _ _ _ => (R.fa fo_59_0 (.t L3))) rfl ?_
             refine WA.more [0, 2] (by kernel_rfl) (List.cons_ne_nil _ _) ⟨⟨_, rfl, ?_⟩, ⟨_, rfl, ?_⟩, trivial⟩
             ·
              refine WL.st (R.lda ag_31 (.t (D1 L5)) H7 (by repeat constructor)) rfl ?_
              refine WL.nil (WA.next ?_)
              refine WA.more [2, 3] (by kernel_rfl) (List.cons_ne_nil _ _) ⟨⟨_, rfl, ?_⟩, ⟨_, rfl, ?_⟩, trivial⟩
              ·
               refine WL.st (R.ld sc_3 (.t L1) H4 rfl) rfl ?_
               refine WL.nil (WA.next ?_)
               refine WA.more [3] (by kernel_rfl) (List.cons_ne_nil _ _) ⟨⟨_, rfl, ?_⟩, trivial⟩
               refine WL.sto sz_31 (.t (D1 L3)) (.t L1) rfl rfl rfl C8 (by repeat constructor) ?_
               refine WL.nil (WA.next ?_)
               refine WA.more [4] (by kernel_rfl) (List.cons_ne_nil _ _) ⟨⟨_, rfl, ?_⟩, trivial⟩
               refine WL.as .c (E1 U4) rfl ?_
               refine WL.nil (WA.next ?_)
               refine WA.more [5] (by kernel_rfl) (List.cons_ne_nil _ _) ⟨⟨_, rfl, ?_⟩, trivial⟩
               refine WL.as (.t L0) (E1 U5) rfl ?_
               refine WL.nil (WA.next ?_)
               refine WA.more [6] (by kernel_rfl) (List.cons_ne_nil _ _) ⟨⟨_, rfl, ?_⟩, trivial⟩
               refine WL.as .c (E1 U6) rfl ?_
               refine WL.nil (WA.next ?_)
               refine WA.done (by kernel_rfl) ?_
               refine QS.next (W.del (.dr (.dr (.dr .rf))) (W.ret (QS.thenr (QS.blkr (QS.blkr (QS.thenr (QS.thenr (QS.blkr (QS.thenr ?_)))))))))
               exact QS.fin (.inl rfl) rfl (.agg ag_31 rfl (D1 L0) H8 (.tmp (D1 L1) (.tmp (D1 L2) (.tmp (D1 L3) .nil)))) (none, 0) (by rw [hm, hr]; rfl) (.dr (.dr (.dr (.dr (.dr (.dr (.dr (.dr (.dr .nil))))))))) (fun w _ _ => by rw [hm]; exact Rd.nil)
              ·
               refine WL.sto sz_31 (.t (D1 L2)) (.t L0) rfl rfl rfl C8 (by repeat constructor) ?_
               refine WL.nil (WA.next ?_)
               refine WA.more [2, 4] (by kernel_rfl) (List.cons_ne_nil _ _) ⟨⟨_, rfl, ?_⟩, ⟨_, rfl, ?_⟩, trivial⟩
               ·
                refine WL.st (R.ld sc_3 (.t L1) H4 rfl) rfl ?_
                refine WL.nil (WA.next ?_)
                refine WA.more [4] (by kernel_rfl) (List.cons_ne_nil _ _) ⟨⟨_, rfl, ?_⟩, trivial⟩
                refine WL.as .c (E1 U4) rfl ?_
                refine WL.nil (WA.next ?_)
                refine WA.more [5] (by kernel_rfl) (List.cons_ne_nil _ _) ⟨⟨_, rfl, ?_⟩, trivial⟩
                refine WL.as (.t L0) (E1 U5) rfl ?_
                refine WL.nil (WA.next ?_)
                refine WA.more [6] (by kernel_rfl) (List.cons_ne_nil _ _) ⟨⟨_, rfl, ?_⟩, trivial⟩
                refine WL.as .c (E1 U6) rfl ?_
                refine WL.nil (WA.next ?_)
                refine WA.done (by kernel_rfl) ?_
                refine QS.next (W.del (.dr (.dr (.dr .rf))) (W.ret (QS.thenr (QS.blkr (QS.blkr (QS.thenr (QS.thenr (QS.blkr (QS.thenr ?_)))))))))
                exact QS.fin (.inl rfl) rfl (.agg ag_31 rfl (D1 L0) H8 (.tmp (D1 L1) (.tmp (D1 L2) (.tmp (D1 L3) .nil)))) (none, 0) (by rw [hm, hr]; rfl) (.dr (.dr (.dr (.dr (.dr (.dr (.dr (.dr (.dr .nil))))))))) (fun w _ _ => by rw [hm]; exact Rd.nil)
               ·
                refine WL.as .c (E1 U3) rfl ?_
                refine WL.nil (WA.next ?_)
                refine WA.more [2] (by kernel_rfl) (List.cons_ne_nil _ _) ⟨⟨_, rfl, ?_⟩, trivial⟩
                refine WL.st (R.ld sc_3 (.t L1) H4 rfl) rfl ?_
                refine WL.nil (WA.next ?_)
                refine WA.more [5] (by kernel_rfl) (List.cons_ne_nil _ _) ⟨⟨_, rfl, ?_⟩, trivial⟩
                refine WL.as (.t L0) (E1 U5) rfl ?_
                refine WL.nil (WA.next ?_)
                refine WA.more [6] (by kernel_rfl) (List.cons_ne_nil _ _) ⟨⟨_, rfl, ?_⟩, trivial⟩
                refine WL.as .c (E1 U6) rfl ?_
                refine WL.nil (WA.next ?_)
                refine WA.done (by kernel_rfl) ?_
                refine QS.next (W.del (.dr (.dr (.dr .rf))) (W.ret (QS.thenr (QS.blkr (QS.blkr (QS.thenr (QS.thenr (QS.blkr (QS.thenr ?_)))))))))
                exact QS.fin (.inl rfl) rfl (.agg ag_31 rfl (D1 L0) H8 (.tmp (D1 L1) (.tmp (D1 L2) (.tmp (D1 L3) .nil)))) (none, 0) (by rw [hm, hr]; rfl) (.dr (.dr (.dr (.dr (.dr (.dr (.dr (.dr (.dr .nil))))))))) (fun w _ _ => by rw [hm]; exact Rd.nil)
             ·
              refine WL.st (R.ld sc_3 (.t L0) H4 rfl) rfl ?_
              refine WL.nil (WA.next ?_)
              refine WA.more [0] (by kernel_rfl) (List.cons_ne_nil _ _) ⟨⟨_, rfl, ?_⟩, trivial⟩
              refine WL.st (R.lda ag_31 (.t (D1 L6)) H7 (by repeat constructor)) rfl ?_
              refine WL.nil (WA.next ?_)
              refine WA.more [3] (by kernel_rfl) (List.cons_ne_nil _ _) ⟨⟨_, rfl, ?_⟩, trivial⟩
              refine WL.sto sz_31 (.t (D1 L3)) (.t L0) rfl rfl rfl C8 (by repeat constructor) ?_
              refine WL.nil (WA.next ?_)
              refine WA.more [4] (by kernel_rfl) (List.cons_ne_nil _ _) ⟨⟨_, rfl, ?_⟩, trivial⟩
              refine WL.as .c (E1 U4) rfl ?_
              refine WL.nil (WA.next ?_)
              refine WA.more [5] (by kernel_rfl) (List.cons_ne_nil _ _) ⟨⟨_, rfl, ?_⟩, trivial⟩
              refine WL.as (.t L1) (E1 U5) rfl ?_
              refine WL.nil (WA.next ?_)
              refine WA.more [6] (by kernel_rfl) (List.cons_ne_nil _ _) ⟨⟨_, rfl, ?_⟩, trivial⟩
              refine WL.as .c (E1 U6) rfl ?_
              refine WL.nil (WA.next ?_)
              refine WA.done (by kernel_rfl) ?_
              refine QS.next (W.del (.dr (.dr (.dr .rf))) (W.ret (QS.thenr (QS.blkr (QS.blkr (QS.thenr (QS.thenr (QS.blkr (QS.thenr ?_)))))))))
              exact QS.fin (.inl rfl) rfl (.agg ag_31 rfl (D1 L0) H8 (.tmp (D1 L1) (.tmp (D1 L2) (.tmp (D1 L3) .nil)))) (none, 0) (by rw [hm, hr]; rfl) (.dr (.dr (.dr (.dr (.dr (.dr (.dr (.dr (.dr .nil))))))))) (fun w _ _ => by rw [hm]; exact Rd.nil)
            ·
             refine W.del (.dr .rf) (W.skip (QS.next (W.region ?_)))
             refine WL.st (R.mv (.t L7)) rfl ?_
             refine WL.st (R.fa fo_59_3 (.t L4)) rfl ?_
             refine WL.st (R.ld sc_3 (.t L0) H4 rfl) rfl ?_
             refine WL.st (R.sls st_9 (.t L2) (.yes (.t L0) hn) .no (a := nn) (b := k.s.length) (by omega) (Nat.le_refl _) (r := k.s.drop nn) (by exact List.take_of_length_le (by simp))) rfl ?_
             refine WL.as (.t L0) (E1 U1) rfl ?_
             refine WL.nil (QS.blkn (QS.blkn (QS.next (W.del (.dr (.dr (.dr (.dr .rf)))) (W.region ?_)))))
             refine WL.st (R.add (.t L4) .c (wi (by omega) (by omega))) rfl ?_
             refine WL.up (R.mv (.t L0)) U5 rfl ?_
             refine WL.nil ?_
             have hpt : (placeS k x57.1.kind x57.1.widths.length).1 = true := by rw [hsp.1]; rw [if_neg hg82]; simpa using h5
             have htx : (textsS (placeS k x57.1.kind x57.1.widths.length).2 x57.1.kind x57.1.n).1 = true := by rw [texts_1 (by omega) (by rw [hpl0.1]; omega), hpl0.1, hnn]; simpa using h8
             have hst0 := look_0 h4t hpt htx
             have hk2 : (stepS k x57.1).2 = { (textsS (placeS k x57.1.kind x57.1.widths.length).2 x57.1.kind x57.1.n).2 with last := x57.1.kind } := by rw [hst0]
             have hns : (stepS k x57.1).2.s = k.s.drop nn := by rw [hk2]; dsimp only; rw [texts_1 (by omega) (by rw [hpl0.1]; omega)]; dsimp only; rw [hpl0.1, hnn]
             have hnl : (stepS k x57.1).2.last = x57.1.kind := by rw [hk2]
             have hz : (stepS k x57.1).1 = 0 := by rw [hst0]
             have hn2 := step_ok ok hz
             have hsk := step_keep hst0
             have hsim2 : Sim (stepS k x57.1).2 (machStep m x57.1.kind x57.1.widths.length).2 x57.1.kind := by
               have h := hsp.2 hpt
               rw [if_neg hg82] at h
               rw [hk2]; exact sim_texts h rfl
             have hlv2 : LvB (machStep m x57.1.kind x57.1.widths.length).2 ((j + 1 : Nat) : Int) := by
               have h := lvb_step (m := m) (kind := x57.1.kind) (wl := x57.1.widths.length) (x := (j : Int)) (by omega) hlvb; rw [show ((j + 1 : Nat) : Int) = (j : Int) + 1 by omega]; exact h
             have hfin : j + 1 = (instrsS b).1.length → (stepS k x57.1).2.depth = 0 := fun hh => halt_next ok hz (last_15 (by omega) hqj hh)
             have hsl : (stepS k x57.1).2.s.length ≤ 16384 := by have := hn2.s; omega
             have hrn := run_next hi1 hqj hz
             rw [if_neg (show ¬ (x57.1.kind = 3 ∨ x57.1.kind = 4) by omega)] at hrn
             rw [if_neg (show ¬ x57.1.kind = 8 by omega)] at hrn
             exact QS.at ⟨(((stepS k x57.1).2, (machStep m x57.1.kind x57.1.widths.length).2, ds ++ [(k.depth : Int)], nl, np, max ns (stepS k x57.1).2.depth, max st k.depth, j + 1), (A63, c63), x99.1, x99.2), ⟨hrn, hn2.ok, by dsimp only; omega, by simp; omega, by dsimp only; omega, by dsimp only; omega, by dsimp only; omega, by dsimp only; omega, hsl⟩, by dsimp only; rw [hnl]; exact hsim2, hlv2, by dsimp only; omega, by dsimp only; omega, hsk.1.trans hj12, hsk.2.trans hj13, hfin⟩ (show M.length - (j + 1) < M.length - j by omega) (.dr (.dr (.dr (.dr (.dr (.kp rfl (.kp rfl (.kp rfl (.kp (congrArg str hns.symm) (.kp rfl (.kp rfl (.kp rfl (.kp rfl (.kp rfl (.kp rfl (.kp rfl (.kp rfl (.kp rfl (.kp (by simp) .nil))))))))))))))))))) (.kp rfl (.kp rfl (.kp rfl (.dr (.dr (.kp (by simp [icells]) (.kp rfl (.kp rfl (.kp rfl .nil))))))))) (fun w h hd => ⟨h.1.1.1.1, h.1.1.1.2.1, h.1.1.1.2.2⟩)
          ·
           refine W.del (.dr .rf) (W.seq (W.seq (W.region ?_)))
           refine WL.st (R.eqi (.t L0) .c) rfl ?_
           refine WL.st (R.as (.t L0)) rfl ?_
           refine WL.nil (QS.next (W.del (.kp (.dr .rf)) ?_))
           refine W.cd (.t L0) (fun h9 => ?_) (fun h9 => ?_)
           ·
            refine W.skip (QS.next ?_)
            refine W.cdt (.t L0) h9 ?_
            refine W.del (.dr (.dr .rf)) (W.region ?_)
            refine WL.st (R.fa fo_31_2 (.t (D1 L3))) rfl ?_
            refine WL.st (R.ld sc_3 (.t L0) H6 rfl) rfl ?_
            refine WL.st (R.add (.t L0) .c (wi (by omega) (by omega))) rfl ?_
            refine WL.st (R.fa fo_31_2 (.t (D1 L6))) rfl ?_
            refine WL.sto sz_3 (.t L0) (.t L1) rfl rfl rfl C6 (by repeat constructor) ?_
            refine WL.nil (QS.blkn (QS.blkn (QS.next (W.del (.dr (.dr (.dr (.dr .rf)))) (W.region ?_)))))
            refine WL.st (R.add (.t L2) .c (wi (by omega) (by omega))) rfl ?_
            refine WL.up (R.mv (.t L0)) U3 rfl ?_
            refine WL.nil ?_
            have hpt : (placeS k x57.1.kind x57.1.widths.length).1 = true := by rw [hsp.1]; rw [if_neg hg82]; simpa using h5
            have htx : (textsS (placeS k x57.1.kind x57.1.widths.length).2 x57.1.kind x57.1.n).1 = true := by rw [texts_no (by omega) (by omega)]
            have hst0 := look_0 h4t hpt htx
            have hk2 : (stepS k x57.1).2 = { (textsS (placeS k x57.1.kind x57.1.widths.length).2 x57.1.kind x57.1.n).2 with last := x57.1.kind } := by rw [hst0]
            have hns : (stepS k x57.1).2.s = k.s := by rw [hk2]; dsimp only; rw [texts_no (by omega) (by omega)]; exact hpl0.1
            have hnl : (stepS k x57.1).2.last = x57.1.kind := by rw [hk2]
            have hz : (stepS k x57.1).1 = 0 := by rw [hst0]
            have hn2 := step_ok ok hz
            have hsk := step_keep hst0
            have hsim2 : Sim (stepS k x57.1).2 (machStep m x57.1.kind x57.1.widths.length).2 x57.1.kind := by
              have h := hsp.2 hpt
              rw [if_neg hg82] at h
              rw [hk2]; exact sim_texts h rfl
            have hlv2 : LvB (machStep m x57.1.kind x57.1.widths.length).2 ((j + 1 : Nat) : Int) := by
              have h := lvb_step (m := m) (kind := x57.1.kind) (wl := x57.1.widths.length) (x := (j : Int)) (by omega) hlvb; rw [show ((j + 1 : Nat) : Int) = (j : Int) + 1 by omega]; exact h
            have hfin : j + 1 = (instrsS b).1.length → (stepS k x57.1).2.depth = 0 := fun hh => halt_next ok hz (last_15 (by omega) hqj hh)
            have hsl : (stepS k x57.1).2.s.length ≤ 16384 := by have := hn2.s; omega
            have hrn := run_next hi1 hqj hz
            rw [if_pos (show x57.1.kind = 3 ∨ x57.1.kind = 4 by omega)] at hrn
            rw [if_neg (show ¬ x57.1.kind = 8 by omega)] at hrn
            exact QS.at ⟨(((stepS k x57.1).2, (machStep m x57.1.kind x57.1.widths.length).2, ds ++ [(k.depth : Int)], nl + 1, np, max ns (stepS k x57.1).2.depth, max st k.depth, j + 1), (A63, c63), x99.1, x99.2), ⟨hrn, hn2.ok, by dsimp only; omega, by simp; omega, by dsimp only; omega, by dsimp only; omega, by dsimp only; omega, by dsimp only; omega, hsl⟩, by dsimp only; rw [hnl]; exact hsim2, hlv2, by dsimp only; omega, by dsimp only; omega, hsk.1.trans hj12, hsk.2.trans hj13, hfin⟩ (show M.length - (j + 1) < M.length - j by omega) (.dr (.dr (.dr (.kp rfl (.kp rfl (.kp rfl (.kp (congrArg str hns.symm) (.kp rfl (.kp rfl (.kp rfl (.kp rfl (.kp rfl (.kp rfl (.kp rfl (.kp rfl (.kp rfl (.kp (by simp) .nil))))))))))))))))) (.kp rfl (.kp rfl (.kp rfl (.dr (.dr (.kp (by simp [icells]) (.kp rfl (.kp rfl (.kp rfl .nil))))))))) (fun w h hd => ⟨h.1.1.1.1, h.1.1.1.2.1, h.1.1.1.2.2⟩)
           ·
            refine W.region ?_
            refine WL.st (R.eqi (.t L1) .c) rfl ?_
            refine WL.as (.t L0) U1 rfl ?_
            refine WL.nil (QS.next (W.del (.dr .rf) ?_))
            refine W.cd (.t L0) (fun h10 => ?_) (fun h10 => ?_)
            ·
             refine W.del (.dr (.dr .rf)) (W.region ?_)
             refine WL.st (R.fa fo_31_2 (.t (D1 L3))) rfl ?_
             refine WL.st (R.ld sc_3 (.t L0) H6 rfl) rfl ?_
             refine WL.st (R.add (.t L0) .c (wi (by omega) (by omega))) rfl ?_
             refine WL.st (R.fa fo_31_2 (.t (D1 L6))) rfl ?_
             refine WL.sto sz_3 (.t L0) (.t L1) rfl rfl rfl C6 (by repeat constructor) ?_
             refine WL.nil (QS.blkn (QS.blkn (QS.next (W.del (.dr (.dr (.dr (.dr .rf)))) (W.region ?_)))))
             refine WL.st (R.add (.t L2) .c (wi (by omega) (by omega))) rfl ?_
             refine WL.up (R.mv (.t L0)) U3 rfl ?_
             refine WL.nil ?_
             have hpt : (placeS k x57.1.kind x57.1.widths.length).1 = true := by rw [hsp.1]; rw [if_neg hg82]; simpa using h5
             have htx : (textsS (placeS k x57.1.kind x57.1.widths.length).2 x57.1.kind x57.1.n).1 = true := by rw [texts_no (by omega) (by omega)]
             have hst0 := look_0 h4t hpt htx
             have hk2 : (stepS k x57.1).2 = { (textsS (placeS k x57.1.kind x57.1.widths.length).2 x57.1.kind x57.1.n).2 with last := x57.1.kind } := by rw [hst0]
             have hns : (stepS k x57.1).2.s = k.s := by rw [hk2]; dsimp only; rw [texts_no (by omega) (by omega)]; exact hpl0.1
             have hnl : (stepS k x57.1).2.last = x57.1.kind := by rw [hk2]
             have hz : (stepS k x57.1).1 = 0 := by rw [hst0]
             have hn2 := step_ok ok hz
             have hsk := step_keep hst0
             have hsim2 : Sim (stepS k x57.1).2 (machStep m x57.1.kind x57.1.widths.length).2 x57.1.kind := by
               have h := hsp.2 hpt
               rw [if_neg hg82] at h
               rw [hk2]; exact sim_texts h rfl
             have hlv2 : LvB (machStep m x57.1.kind x57.1.widths.length).2 ((j + 1 : Nat) : Int) := by
               have h := lvb_step (m := m) (kind := x57.1.kind) (wl := x57.1.widths.length) (x := (j : Int)) (by omega) hlvb; rw [show ((j + 1 : Nat) : Int) = (j : Int) + 1 by omega]; exact h
             have hfin : j + 1 = (instrsS b).1.length → (stepS k x57.1).2.depth = 0 := fun hh => halt_next ok hz (last_15 (by omega) hqj hh)
             have hsl : (stepS k x57.1).2.s.length ≤ 16384 := by have := hn2.s; omega
             have hrn := run_next hi1 hqj hz
             rw [if_pos (show x57.1.kind = 3 ∨ x57.1.kind = 4 by omega)] at hrn
             rw [if_neg (show ¬ x57.1.kind = 8 by omega)] at hrn
             exact QS.at ⟨(((stepS k x57.1).2, (machStep m x57.1.kind x57.1.widths.length).2, ds ++ [(k.depth : Int)], nl + 1, np, max ns (stepS k x57.1).2.depth, max st k.depth, j + 1), (A63, c63), x99.1, x99.2), ⟨hrn, hn2.ok, by dsimp only; omega, by simp; omega, by dsimp only; omega, by dsimp only; omega, by dsimp only; omega, by dsimp only; omega, hsl⟩, by dsimp only; rw [hnl]; exact hsim2, hlv2, by dsimp only; omega, by dsimp only; omega, hsk.1.trans hj12, hsk.2.trans hj13, hfin⟩ (show M.length - (j + 1) < M.length - j by omega) (.dr (.dr (.dr (.kp rfl (.kp rfl (.kp rfl (.kp (congrArg str hns.symm) (.kp rfl (.kp rfl (.kp rfl (.kp rfl (.kp rfl (.kp rfl (.kp rfl (.kp rfl (.kp rfl (.kp (by simp) .nil))))))))))))))))) (.kp rfl (.kp rfl (.kp rfl (.dr (.dr (.kp (by simp [icells]) (.kp rfl (.kp rfl (.kp rfl .nil))))))))) (fun w h hd => ⟨h.1.1.1.1, h.1.1.1.2.1, h.1.1.1.2.2⟩)
            ·
             refine W.del (.dr .rf) (W.seq (W.region ?_))
             refine WL.st (R.eqi (.t L0) .c) rfl ?_
             refine WL.st (R.as (.t L0)) rfl ?_
             refine WL.nil (QS.next (W.del (.kp (.dr .rf)) ?_))
             refine W.cd (.t L0) (fun h11 => ?_) (fun h11 => ?_)
             ·
              refine W.del (.dr (.dr .rf)) (W.region ?_)
              refine WL.st (R.fa fo_31_3 (.t (D1 L3))) rfl ?_
              refine WL.st (R.ld sc_3 (.t L0) H6 rfl) rfl ?_
              refine WL.st (R.add (.t L0) .c (wi (by omega) (by omega))) rfl ?_
              refine WL.st (R.fa fo_31_3 (.t (D1 L6))) rfl ?_
              refine WL.sto sz_3 (.t L0) (.t L1) rfl rfl rfl C6 (by repeat constructor) ?_
              refine WL.nil (QS.blkn (QS.blkn (QS.next (W.del (.dr (.dr (.dr (.dr .rf)))) (W.region ?_)))))
              refine WL.st (R.add (.t L2) .c (wi (by omega) (by omega))) rfl ?_
              refine WL.up (R.mv (.t L0)) U3 rfl ?_
              refine WL.nil ?_
              have hpt : (placeS k x57.1.kind x57.1.widths.length).1 = true := by rw [hsp.1]; rw [if_neg hg82]; simpa using h5
              have htx : (textsS (placeS k x57.1.kind x57.1.widths.length).2 x57.1.kind x57.1.n).1 = true := by rw [texts_no (by omega) (by omega)]
              have hst0 := look_0 h4t hpt htx
              have hk2 : (stepS k x57.1).2 = { (textsS (placeS k x57.1.kind x57.1.widths.length).2 x57.1.kind x57.1.n).2 with last := x57.1.kind } := by rw [hst0]
              have hns : (stepS k x57.1).2.s = k.s := by rw [hk2]; dsimp only; rw [texts_no (by omega) (by omega)]; exact hpl0.1
              have hnl : (stepS k x57.1).2.last = x57.1.kind := by rw [hk2]
              have hz : (stepS k x57.1).1 = 0 := by rw [hst0]
              have hn2 := step_ok ok hz
              have hsk := step_keep hst0
              have hsim2 : Sim (stepS k x57.1).2 (machStep m x57.1.kind x57.1.widths.length).2 x57.1.kind := by
                have h := hsp.2 hpt
                rw [if_neg hg82] at h
                rw [hk2]; exact sim_texts h rfl
              have hlv2 : LvB (machStep m x57.1.kind x57.1.widths.length).2 ((j + 1 : Nat) : Int) := by
                have h := lvb_step (m := m) (kind := x57.1.kind) (wl := x57.1.widths.length) (x := (j : Int)) (by omega) hlvb; rw [show ((j + 1 : Nat) : Int) = (j : Int) + 1 by omega]; exact h
              have hfin : j + 1 = (instrsS b).1.length → (stepS k x57.1).2.depth = 0 := fun hh => halt_next ok hz (last_15 (by omega) hqj hh)
              have hsl : (stepS k x57.1).2.s.length ≤ 16384 := by have := hn2.s; omega
              have hrn := run_next hi1 hqj hz
              rw [if_neg (show ¬ (x57.1.kind = 3 ∨ x57.1.kind = 4) by omega)] at hrn
              rw [if_pos (show x57.1.kind = 8 by omega)] at hrn
              exact QS.at ⟨(((stepS k x57.1).2, (machStep m x57.1.kind x57.1.widths.length).2, ds ++ [(k.depth : Int)], nl, np + 1, max ns (stepS k x57.1).2.depth, max st k.depth, j + 1), (A63, c63), x99.1, x99.2), ⟨hrn, hn2.ok, by dsimp only; omega, by simp; omega, by dsimp only; omega, by dsimp only; omega, by dsimp only; omega, by dsimp only; omega, hsl⟩, by dsimp only; rw [hnl]; exact hsim2, hlv2, by dsimp only; omega, by dsimp only; omega, hsk.1.trans hj12, hsk.2.trans hj13, hfin⟩ (show M.length - (j + 1) < M.length - j by omega) (.dr (.dr (.dr (.kp rfl (.kp rfl (.kp rfl (.kp (congrArg str hns.symm) (.kp rfl (.kp rfl (.kp rfl (.kp rfl (.kp rfl (.kp rfl (.kp rfl (.kp rfl (.kp rfl (.kp (by simp) .nil))))))))))))))))) (.kp rfl (.kp rfl (.kp rfl (.dr (.dr (.kp (by simp [icells]) (.kp rfl (.kp rfl (.kp rfl .nil))))))))) (fun w h hd => ⟨h.1.1.1.1, h.1.1.1.2.1, h.1.1.1.2.2⟩)
             ·
              refine W.del (.dr .rf) (W.seq (W.region ?_))
              refine WL.st (R.eqi (.t L0) .c) rfl ?_
              refine WL.st (R.as (.t L0)) rfl ?_
              refine WL.nil (QS.next (W.del (.kp (.dr (.dr .rf))) ?_))
              refine W.cd (.t L0) (fun h12 => ?_) (fun h12 => ?_)
              ·
               exfalso; omega
              ·
               refine W.del (.dr .rf) (W.skip (QS.blkn (QS.blkn (QS.next (W.region ?_)))))
               refine WL.st (R.add (.t L2) .c (wi (by omega) (by omega))) rfl ?_
               refine WL.up (R.mv (.t L0)) U3 rfl ?_
               refine WL.nil ?_
               have hpt : (placeS k x57.1.kind x57.1.widths.length).1 = true := by rw [hsp.1]; rw [if_neg hg82]; simpa using h5
               have htx : (textsS (placeS k x57.1.kind x57.1.widths.length).2 x57.1.kind x57.1.n).1 = true := by rw [texts_no (by omega) (by omega)]
               have hst0 := look_0 h4t hpt htx
               have hk2 : (stepS k x57.1).2 = { (textsS (placeS k x57.1.kind x57.1.widths.length).2 x57.1.kind x57.1.n).2 with last := x57.1.kind } := by rw [hst0]
               have hns : (stepS k x57.1).2.s = k.s := by rw [hk2]; dsimp only; rw [texts_no (by omega) (by omega)]; exact hpl0.1
               have hnl : (stepS k x57.1).2.last = x57.1.kind := by rw [hk2]
               have hz : (stepS k x57.1).1 = 0 := by rw [hst0]
               have hn2 := step_ok ok hz
               have hsk := step_keep hst0
               have hsim2 : Sim (stepS k x57.1).2 (machStep m x57.1.kind x57.1.widths.length).2 x57.1.kind := by
                 have h := hsp.2 hpt
                 rw [if_neg hg82] at h
                 rw [hk2]; exact sim_texts h rfl
               have hlv2 : LvB (machStep m x57.1.kind x57.1.widths.length).2 ((j + 1 : Nat) : Int) := by
                 have h := lvb_step (m := m) (kind := x57.1.kind) (wl := x57.1.widths.length) (x := (j : Int)) (by omega) hlvb; rw [show ((j + 1 : Nat) : Int) = (j : Int) + 1 by omega]; exact h
               have hfin : j + 1 = (instrsS b).1.length → (stepS k x57.1).2.depth = 0 := fun hh => halt_next ok hz (last_15 (by omega) hqj hh)
               have hsl : (stepS k x57.1).2.s.length ≤ 16384 := by have := hn2.s; omega
               have hrn := run_next hi1 hqj hz
               rw [if_neg (show ¬ (x57.1.kind = 3 ∨ x57.1.kind = 4) by omega)] at hrn
               rw [if_neg (show ¬ x57.1.kind = 8 by omega)] at hrn
               exact QS.at ⟨(((stepS k x57.1).2, (machStep m x57.1.kind x57.1.widths.length).2, ds ++ [(k.depth : Int)], nl, np, max ns (stepS k x57.1).2.depth, max st k.depth, j + 1), (A63, c63), x99.1, x99.2), ⟨hrn, hn2.ok, by dsimp only; omega, by simp; omega, by dsimp only; omega, by dsimp only; omega, by dsimp only; omega, by dsimp only; omega, hsl⟩, by dsimp only; rw [hnl]; exact hsim2, hlv2, by dsimp only; omega, by dsimp only; omega, hsk.1.trans hj12, hsk.2.trans hj13, hfin⟩ (show M.length - (j + 1) < M.length - j by omega) (.dr (.dr (.dr (.kp rfl (.kp rfl (.kp rfl (.kp (congrArg str hns.symm) (.kp rfl (.kp rfl (.kp rfl (.kp rfl (.kp rfl (.kp rfl (.kp rfl (.kp rfl (.kp rfl (.kp (by simp) .nil))))))))))))))))) (.kp rfl (.kp rfl (.kp rfl (.dr (.dr (.kp (by simp [icells]) (.kp rfl (.kp rfl (.kp rfl .nil))))))))) (fun w h hd => ⟨h.1.1.1.1, h.1.1.1.2.1, h.1.1.1.2.2⟩)
        ·
         exfalso; omega
     ·
      refine WL.call gf_69 .f (.cons (.t L0) .nil) (.dr (.kp rfl (.kp rfl (.kp rfl (.dr (.dr (.dr (.dr (.dr .nil))))))))) (fun w hb => (mach_Deep hbo.1 hbo.2 (hb.imp fun _ _ => trivial))) rfl (fun x67 => ?_)
      refine WL.rw L0 (v' := .int .i64 (k.depth : Int)) (congrArg (Value.int .i64) hsd) U0 ?_
      refine WL.nil (WA.next ?_)
      refine WA.more [1] (by kernel_rfl) (List.cons_ne_nil _ _) ⟨⟨_, rfl, ?_⟩, trivial⟩
      refine WL.st (R.ld sc_3 (.t L2) H6 rfl) rfl ?_
      refine WL.nil (WA.next ?_)
      refine WA.more [4] (by kernel_rfl) (List.cons_ne_nil _ _) ⟨⟨_, rfl, ?_⟩, trivial⟩
      refine WL.st (R.maxi (.t L0) (.t L1) (max_if _ _)) rfl ?_
      refine WL.nil (WA.next ?_)
      refine WA.take (i := 5) rfl (by kernel_rfl) (by kernel_rfl) (by kernel_rfl) (fun _ _ _ => (R.fa fo_31_4 (.t (D1 L7)))) rfl ?_
      refine WA.more [6] (by kernel_rfl) (List.cons_ne_nil _ _) ⟨⟨_, rfl, ?_⟩, trivial⟩
      refine WL.sto sz_3 (.t L0) (.t L1) rfl rfl rfl C6 (by repeat constructor) ?_
      refine WL.nil (WA.next ?_)
      refine WA.done (by kernel_rfl) ?_
      refine QS.next (W.del (.dr (.dr (.dr (.dr (.dr (.dr .rf)))))) (W.seq (W.region ?_)))
      refine WL.st (R.fa fo_59_2 (.t L0)) rfl ?_
      refine WL.st (R.ld sc_57 (.t L0) H4 rfl) rfl ?_
      refine WL.st (R.eqi (.t L0) .c) rfl ?_
      refine WL.st (R.as (.t L0)) rfl ?_
      refine WL.nil (QS.next (W.del (.kp (.dr (.dr (.dr .rf)))) (W.seq (W.seq (W.region ?_)))))
      refine WL.st (R.lda ag_59 (.t L1) H4 (by repeat constructor)) rfl ?_
      refine WL.st (R.mv (.t L7)) rfl ?_
      refine WL.st (R.mv (.t L9)) rfl ?_
      refine WL.callr gf_70 .f (.cons (.t L2) (.cons (.t L1) (.cons (.t L0) .nil))) (fun w hb => (ref17_operand (l := x57.1.widths) (by omega) (hb.imp fun _ h => h.1.1.2.2 x57 (List.mem_of_getElem? hx57)))) rfl ?_
      refine WL.st (R.notb (.t L0)) rfl ?_
      refine WL.nil (QS.next (W.del (.kp (.dr (.dr (.dr (.dr .rf))))) ?_))
      refine W.cb (.t L0) (fun h4 => ?_) (fun h4 => ?_)
      ·
       refine W.del (.dr .rf) (W.seq ?_)
       have hse : (stepS k x57.1).1 = 161 := by rw [stepS, if_pos (by rw [hj12, hj13]; simpa using h4)]
       have hr := run_err hi1 hqj (by rw [hse]; decide)
       rw [hse] at hr
       have hm : measS (runS b s sty tp) = ⟨0, 0, 0, 0, 0, [], 0, 161⟩ := by rw [hr]; exact if_pos (show (161 : Int) ≠ 0 by decide)
       refine W.any mixed (n := 7) rfl ?_
       refine WA.take (i := 1) rfl (by kernel_rfl) (by kernel_rfl) (by kernel_rfl) (fun _ _ _ => (R.fa fo_59_0 (.t L1))) rfl ?_
       refine WA.more [0, 2] (by kernel_rfl) (List.cons_ne_nil _ _) ⟨⟨_, rfl, ?_⟩, ⟨_, rfl, ?_⟩, trivial⟩
       ·
        refine WL.st (R.lda ag_31 (.t (D1 L3)) H7 (by repeat constructor)) rfl ?_
        refine WL.nil (WA.next ?_)
        refine WA.more [2, 3] (by kernel_rfl) (List.cons_ne_nil _ _) ⟨⟨_, rfl, ?_⟩, ⟨_, rfl, ?_⟩, trivial⟩
        ·
         refine WL.st (R.ld sc_3 (.t L1) H4 rfl) rfl ?_
         refine WL.nil (WA.next ?_)
         refine WA.more [3] (by kernel_rfl) (List.cons_ne_nil _ _) ⟨⟨_, rfl, ?_⟩, trivial⟩
         refine WL.sto sz_31 (.t (D1 L1)) (.t L1) rfl rfl rfl C8 (by repeat constructor) ?_
         refine WL.nil (WA.next ?_)
         refine WA.more [4] (by kernel_rfl) (List.cons_ne_nil _ _) ⟨⟨_, rfl, ?_⟩, trivial⟩
         refine WL.as .c (E1 U2) rfl ?_
         refine WL.nil (WA.next ?_)
         refine WA.more [5] (by kernel_rfl) (List.cons_ne_nil _ _) ⟨⟨_, rfl, ?_⟩, trivial⟩
         refine WL.as (.t L0) (E1 U3) rfl ?_
         refine WL.nil (WA.next ?_)
         refine WA.more [6] (by kernel_rfl) (List.cons_ne_nil _ _) ⟨⟨_, rfl, ?_⟩, trivial⟩
         refine WL.as .c (E1 U4) rfl ?_
         refine WL.nil (WA.next ?_)
         refine WA.done (by kernel_rfl) ?_
         refine QS.next (W.del (.dr (.dr (.dr .rf))) (W.ret (QS.thenr (QS.blkr (QS.thenr (QS.thenr (QS.blkr (QS.thenr ?_))))))))
         exact QS.fin (.inl rfl) rfl (.agg ag_31 rfl L8 H8 (.tmp L9 (.tmp (D1 L0) (.tmp (D1 L1) .nil)))) (none, 0) (by rw [hm, hr]; rfl) (.dr (.dr (.dr (.dr (.dr (.dr (.dr (.dr (.dr .nil))))))))) (fun w _ _ => by rw [hm]; exact Rd.nil)
        ·
         refine WL.sto sz_31 (.t (D1 L0)) (.t L0) rfl rfl rfl C8 (by repeat constructor) ?_
         refine WL.nil (WA.next ?_)
         refine WA.more [2, 4] (by kernel_rfl) (List.cons_ne_nil _ _) ⟨⟨_, rfl, ?_⟩, ⟨_, rfl, ?_⟩, trivial⟩
         ·
          refine WL.st (R.ld sc_3 (.t L1) H4 rfl) rfl ?_
          refine WL.nil (WA.next ?_)
          refine WA.more [4] (by kernel_rfl) (List.cons_ne_nil _ _) ⟨⟨_, rfl, ?_⟩, trivial⟩
          refine WL.as .c (E1 U2) rfl ?_
          refine WL.nil (WA.next ?_)
          refine WA.more [5] (by kernel_rfl) (List.cons_ne_nil _ _) ⟨⟨_, rfl, ?_⟩, trivial⟩
          refine WL.as (.t L0) (E1 U3) rfl ?_
          refine WL.nil (WA.next ?_)
          refine WA.more [6] (by kernel_rfl) (List.cons_ne_nil _ _) ⟨⟨_, rfl, ?_⟩, trivial⟩
          refine WL.as .c (E1 U4) rfl ?_
          refine WL.nil (WA.next ?_)
          refine WA.done (by kernel_rfl) ?_
          refine QS.next (W.del (.dr (.dr (.dr .rf))) (W.ret (QS.thenr (QS.blkr (QS.thenr (QS.thenr (QS.blkr (QS.thenr ?_))))))))
          exact QS.fin (.inl rfl) rfl (.agg ag_31 rfl L8 H8 (.tmp L9 (.tmp (D1 L0) (.tmp (D1 L1) .nil)))) (none, 0) (by rw [hm, hr]; rfl) (.dr (.dr (.dr (.dr (.dr (.dr (.dr (.dr (.dr .nil))))))))) (fun w _ _ => by rw [hm]; exact Rd.nil)
         ·
          refine WL.as .c (E1 U1) rfl ?_
          refine WL.nil (WA.next ?_)
          refine WA.more [2] (by kernel_rfl) (List.cons_ne_nil _ _) ⟨⟨_, rfl, ?_⟩, trivial⟩
          refine WL.st (R.ld sc_3 (.t L1) H4 rfl) rfl ?_
          refine WL.nil (WA.next ?_)
          refine WA.more [5] (by kernel_rfl) (List.cons_ne_nil _ _) ⟨⟨_, rfl, ?_⟩, trivial⟩
          refine WL.as (.t L0) (E1 U3) rfl ?_
          refine WL.nil (WA.next ?_)
          refine WA.more [6] (by kernel_rfl) (List.cons_ne_nil _ _) ⟨⟨_, rfl, ?_⟩, trivial⟩
          refine WL.as .c (E1 U4) rfl ?_
          refine WL.nil (WA.next ?_)
          refine WA.done (by kernel_rfl) ?_
          refine QS.next (W.del (.dr (.dr (.dr .rf))) (W.ret (QS.thenr (QS.blkr (QS.thenr (QS.thenr (QS.blkr (QS.thenr ?_))))))))
          exact QS.fin (.inl rfl) rfl (.agg ag_31 rfl L8 H8 (.tmp L9 (.tmp (D1 L0) (.tmp (D1 L1) .nil)))) (none, 0) (by rw [hm, hr]; rfl) (.dr (.dr (.dr (.dr (.dr (.dr (.dr (.dr (.dr .nil))))))))) (fun w _ _ => by rw [hm]; exact Rd.nil)
       ·
        refine WL.st (R.ld sc_3 (.t L0) H4 rfl) rfl ?_
        refine WL.nil (WA.next ?_)
        refine WA.more [0] (by kernel_rfl) (List.cons_ne_nil _ _) ⟨⟨_, rfl, ?_⟩, trivial⟩
        refine WL.st (R.lda ag_31 (.t (D1 L4)) H7 (by repeat constructor)) rfl ?_
        refine WL.nil (WA.next ?_)
        refine WA.more [3] (by kernel_rfl) (List.cons_ne_nil _ _) ⟨⟨_, rfl, ?_⟩, trivial⟩
        refine WL.sto sz_31 (.t (D1 L1)) (.t L0) rfl rfl rfl C8 (by repeat constructor) ?_
        refine WL.nil (WA.next ?_)
        refine WA.more [4] (by kernel_rfl) (List.cons_ne_nil _ _) ⟨⟨_, rfl, ?_⟩, trivial⟩
        refine WL.as .c (E1 U2) rfl ?_
        refine WL.nil (WA.next ?_)
        refine WA.more [5] (by kernel_rfl) (List.cons_ne_nil _ _) ⟨⟨_, rfl, ?_⟩, trivial⟩
        refine WL.as (.t L1) (E1 U3) rfl ?_
        refine WL.nil (WA.next ?_)
        refine WA.more [6] (by kernel_rfl) (List.cons_ne_nil _ _) ⟨⟨_, rfl, ?_⟩, trivial⟩
        refine WL.as .c (E1 U4) rfl ?_
        refine WL.nil (WA.next ?_)
        refine WA.done (by kernel_rfl) ?_
        refine QS.next (W.del (.dr (.dr (.dr .rf))) (W.ret (QS.thenr (QS.blkr (QS.thenr (QS.thenr (QS.blkr (QS.thenr ?_))))))))
        exact QS.fin (.inl rfl) rfl (.agg ag_31 rfl L8 H8 (.tmp L9 (.tmp (D1 L0) (.tmp (D1 L1) .nil)))) (none, 0) (by rw [hm, hr]; rfl) (.dr (.dr (.dr (.dr (.dr (.dr (.dr (.dr (.dr .nil))))))))) (fun w _ _ => by rw [hm]; exact Rd.nil)
      ·
       have h4t : operandS x57.1.kind x57.1.n x57.1.widths k.styles k.topics = true := by rw [hj12, hj13]; simpa using h4
       refine W.del (.dr .rf) (W.skip (QS.next (W.seq (W.seq (W.region ?_)))))
       refine WL.st (R.mv (.t L0)) rfl ?_
       refine WL.st (R.mv (.t L0)) rfl ?_
       refine WL.cd L0 U0 U0 (fun hg82 => ?_) (fun hg82 => ?_)
       ·
        refine WL.gy rfl L0 (R.mv (.t (D1 L6))) rfl ?_
        refine WL.gyw rfl L1 ?_
        refine WL.call gf_49 .f (.cons (.t L0) .nil) (.kp rfl (.kp rfl (.kp rfl (.dr (.dr (.dr (.dr (.dr (.dr .nil))))))))) (fun w hb => (mach_Done hbo.1 hbo.2 (hb.imp fun _ _ => trivial))) rfl (fun x84 => ?_)
        refine WL.gy rfl L2 (R.notb (.t L0)) rfl ?_
        refine WL.st (R.pkt (.t L3) (.t L0)) rfl ?_
        refine WL.st (R.mv (.t L0)) rfl ?_
        refine WL.cb L0 U0 U0 (fun hg87 => ?_) (fun hg87 => ?_)
        ·
         refine WL.gn rfl L0 rfl ?_
         refine WL.gn rfl L1 rfl ?_
         refine WL.gn rfl L2 rfl ?_
         refine WL.gu rfl L0 rfl ?_
         refine WL.gu rfl L1 rfl ?_
         refine WL.gu rfl L2 rfl ?_
         refine WL.gu rfl L3 rfl ?_
         refine WL.gu rfl L4 rfl ?_
         refine WL.gu rfl L5 rfl ?_
         refine WL.gu rfl L6 rfl ?_
         refine WL.gu rfl L7 rfl ?_
         refine WL.gu rfl L8 rfl ?_
         refine WL.gu rfl L9 rfl ?_
         refine WL.gn rfl (D1 L3) rfl ?_
         refine WL.st (R.pkt (.t (D1 L4)) .c) rfl ?_
         refine WL.nil (QS.next (W.del (.kp (.dr (.dr (.dr (.dr (.dr (.dr (.dr (.dr (.dr (.dr (.dr (.dr (.dr (.dr (.dr (.dr (.dr (.dr (.dr (.dr (.dr .rf)))))))))))))))))))))) (W.ct (.t L0) (W.del (.dr .rf) (W.seq ?_)))))
         have hse : (stepS k x57.1).1 = 170 := look_170 h4t (by rw [hsp.1]; rw [if_pos hg82]; simpa using hg87)
         have hr := run_err hi1 hqj (by rw [hse]; decide)
         rw [hse] at hr
         have hm : measS (runS b s sty tp) = ⟨0, 0, 0, 0, 0, [], 0, 170⟩ := by rw [hr]; exact if_pos (show (170 : Int) ≠ 0 by decide)
         refine W.any mixed (n := 7) rfl ?_
         refine WA.take (i := 1) rfl (by kernel_rfl) (by kernel_rfl) (by kernel_rfl) (fun _ _ _ => (R.fa fo_59_0 (.t L1))) rfl ?_
         refine WA.more [0, 2] (by kernel_rfl) (List.cons_ne_nil _ _) ⟨⟨_, rfl, ?_⟩, ⟨_, rfl, ?_⟩, trivial⟩
         ·
          refine WL.st (R.lda ag_31 (.t (D1 L3)) H7 (by repeat constructor)) rfl ?_
          refine WL.nil (WA.next ?_)
          refine WA.more [2, 3] (by kernel_rfl) (List.cons_ne_nil _ _) ⟨⟨_, rfl, ?_⟩, ⟨_, rfl, ?_⟩, trivial⟩
          ·
           refine WL.st (R.ld sc_3 (.t L1) H4 rfl) rfl ?_
           refine WL.nil (WA.next ?_)
           refine WA.more [3] (by kernel_rfl) (List.cons_ne_nil _ _) ⟨⟨_, rfl, ?_⟩, trivial⟩
           refine WL.sto sz_31 (.t (D1 L1)) (.t L1) rfl rfl rfl C8 (by repeat constructor) ?_
           refine WL.nil (WA.next ?_)
           refine WA.more [4] (by kernel_rfl) (List.cons_ne_nil _ _) ⟨⟨_, rfl, ?_⟩, trivial⟩
           refine WL.as .c (E1 U2) rfl ?_
           refine WL.nil (WA.next ?_)
           refine WA.more [5] (by kernel_rfl) (List.cons_ne_nil _ _) ⟨⟨_, rfl, ?_⟩, trivial⟩
           refine WL.as (.t L0) (E1 U3) rfl ?_
           refine WL.nil (WA.next ?_)
           refine WA.more [6] (by kernel_rfl) (List.cons_ne_nil _ _) ⟨⟨_, rfl, ?_⟩, trivial⟩
           refine WL.as .c (E1 U4) rfl ?_
           refine WL.nil (WA.next ?_)
           refine WA.done (by kernel_rfl) ?_
           refine QS.next (W.del (.dr (.dr (.dr .rf))) (W.ret (QS.thenr (QS.blkr (QS.thenr (QS.thenr (QS.blkr (QS.thenr ?_))))))))
           exact QS.fin (.inl rfl) rfl (.agg ag_31 rfl L8 H8 (.tmp L9 (.tmp (D1 L0) (.tmp (D1 L1) .nil)))) (none, 0) (by rw [hm, hr]; rfl) (.dr (.dr (.dr (.dr (.dr (.dr (.dr (.dr (.dr .nil))))))))) (fun w _ _ => by rw [hm]; exact Rd.nil)
          ·
           refine WL.sto sz_31 (.t (D1 L0)) (.t L0) rfl rfl rfl C8 (by repeat constructor) ?_
           refine WL.nil (WA.next ?_)
           refine WA.more [2, 4] (by kernel_rfl) (List.cons_ne_nil _ _) ⟨⟨_, rfl, ?_⟩, ⟨_, rfl, ?_⟩, trivial⟩
           ·
            refine WL.st (R.ld sc_3 (.t L1) H4 rfl) rfl ?_
            refine WL.nil (WA.next ?_)
            refine WA.more [4] (by kernel_rfl) (List.cons_ne_nil _ _) ⟨⟨_, rfl, ?_⟩, trivial⟩
            refine WL.as .c (E1 U2) rfl ?_
            refine WL.nil (WA.next ?_)
            refine WA.more [5] (by kernel_rfl) (List.cons_ne_nil _ _) ⟨⟨_, rfl, ?_⟩, trivial⟩
            refine WL.as (.t L0) (E1 U3) rfl ?_
            refine WL.nil (WA.next ?_)
            refine WA.more [6] (by kernel_rfl) (List.cons_ne_nil _ _) ⟨⟨_, rfl, ?_⟩, trivial⟩
            refine WL.as .c (E1 U4) rfl ?_
            refine WL.nil (WA.next ?_)
            refine WA.done (by kernel_rfl) ?_
            refine QS.next (W.del (.dr (.dr (.dr .rf))) (W.ret (QS.thenr (QS.blkr (QS.thenr (QS.thenr (QS.blkr (QS.thenr ?_))))))))
            exact QS.fin (.inl rfl) rfl (.agg ag_31 rfl L8 H8 (.tmp L9 (.tmp (D1 L0) (.tmp (D1 L1) .nil)))) (none, 0) (by rw [hm, hr]; rfl) (.dr (.dr (.dr (.dr (.dr (.dr (.dr (.dr (.dr .nil))))))))) (fun w _ _ => by rw [hm]; exact Rd.nil)
           ·
            refine WL.as .c (E1 U1) rfl ?_
            refine WL.nil (WA.next ?_)
            refine WA.more [2] (by kernel_rfl) (List.cons_ne_nil _ _) ⟨⟨_, rfl, ?_⟩, trivial⟩
            refine WL.st (R.ld sc_3 (.t L1) H4 rfl) rfl ?_
            refine WL.nil (WA.next ?_)
            refine WA.more [5] (by kernel_rfl) (List.cons_ne_nil _ _) ⟨⟨_, rfl, ?_⟩, trivial⟩
            refine WL.as (.t L0) (E1 U3) rfl ?_
            refine WL.nil (WA.next ?_)
            refine WA.more [6] (by kernel_rfl) (List.cons_ne_nil _ _) ⟨⟨_, rfl, ?_⟩, trivial⟩
            refine WL.as .c (E1 U4) rfl ?_
            refine WL.nil (WA.next ?_)
            refine WA.done (by kernel_rfl) ?_
            refine QS.next (W.del (.dr (.dr (.dr .rf))) (W.ret (QS.thenr (QS.blkr (QS.thenr (QS.thenr (QS.blkr (QS.thenr ?_))))))))
            exact QS.fin (.inl rfl) rfl (.agg ag_31 rfl L8 H8 (.tmp L9 (.tmp (D1 L0) (.tmp (D1 L1) .nil)))) (none, 0) (by rw [hm, hr]; rfl) (.dr (.dr (.dr (.dr (.dr (.dr (.dr (.dr (.dr .nil))))))))) (fun w _ _ => by rw [hm]; exact Rd.nil)
         ·
          refine WL.st (R.ld sc_3 (.t L0) H4 rfl) rfl ?_
          refine WL.nil (WA.next ?_)
          refine WA.more [0] (by kernel_rfl) (List.cons_ne_nil _ _) ⟨⟨_, rfl, ?_⟩, trivial⟩
          refine WL.st (R.lda ag_31 (.t (D1 L4)) H7 (by repeat constructor)) rfl ?_
          refine WL.nil (WA.next ?_)
          refine WA.more [3] (by kernel_rfl) (List.cons_ne_nil _ _) ⟨⟨_, rfl, ?_⟩, trivial⟩
          refine WL.sto sz_31 (.t (D1 L1)) (.t L0) rfl rfl rfl C8 (by repeat constructor) ?_
          refine WL.nil (WA.next ?_)
          refine WA.more [4] (by kernel_rfl) (List.cons_ne_nil _ _) ⟨⟨_, rfl, ?_⟩, trivial⟩
          refine WL.as .c (E1 U2) rfl ?_
          refine WL.nil (WA.next ?_)
          refine WA.more [5] (by kernel_rfl) (List.cons_ne_nil _ _) ⟨⟨_, rfl, ?_⟩, trivial⟩
          refine WL.as (.t L1) (E1 U3) rfl ?_
          refine WL.nil (WA.next ?_)
          refine WA.more [6] (by kernel_rfl) (List.cons_ne_nil _ _) ⟨⟨_, rfl, ?_⟩, trivial⟩
          refine WL.as .c (E1 U4) rfl ?_
          refine WL.nil (WA.next ?_)
          refine WA.done (by kernel_rfl) ?_
          refine QS.next (W.del (.dr (.dr (.dr .rf))) (W.ret (QS.thenr (QS.blkr (QS.thenr (QS.thenr (QS.blkr (QS.thenr ?_))))))))
          exact QS.fin (.inl rfl) rfl (.agg ag_31 rfl L8 H8 (.tmp L9 (.tmp (D1 L0) (.tmp (D1 L1) .nil)))) (none, 0) (by rw [hm, hr]; rfl) (.dr (.dr (.dr (.dr (.dr (.dr (.dr (.dr (.dr .nil))))))))) (fun w _ _ => by rw [hm]; exact Rd.nil)
        ·
         refine WL.gy rfl L0 (R.mv (.t L7)) rfl ?_
         refine WL.gy rfl L1 (R.not (.t L0)) rfl ?_
         refine WL.gy rfl L2 (R.mv (.t L0)) rfl ?_
         refine WL.cd L0 U0 U0 (fun hg90 => ?_) (fun hg90 => ?_)
         ·
          exfalso; omega
         ·
          refine WL.gn rfl L0 rfl ?_
          refine WL.gn rfl L1 rfl ?_
          refine WL.gn rfl L2 rfl ?_
          refine WL.gn rfl L3 rfl ?_
          refine WL.gn rfl L4 rfl ?_
          refine WL.gn rfl L5 rfl ?_
          refine WL.gn rfl L6 rfl ?_
          refine WL.gn rfl L7 rfl ?_
          refine WL.gn rfl L8 rfl ?_
          refine WL.gn rfl L9 rfl ?_
          refine WL.gy rfl (D1 L3) (R.pkf (.t (D1 L0)) .c) rfl ?_
          refine WL.st (R.pkf (.t (D1 L4)) (.t L0)) rfl ?_
          refine WL.nil (QS.next (W.del (.kp (.dr (.dr (.dr (.dr (.dr (.dr (.dr (.dr (.dr (.dr (.dr (.dr (.dr (.dr (.dr (.dr (.dr (.dr (.dr (.dr (.dr .rf)))))))))))))))))))))) (W.cf (.t L0) (W.del (.dr .rf) (W.skip (QS.next (W.seq (W.region ?_))))))))
          refine WL.st (R.fa fo_59_2 (.t L1)) rfl ?_
          refine WL.st (R.ld sc_57 (.t L0) H4 rfl) rfl ?_
          refine WL.nil (QS.next (W.del (.kp (.dr .rf)) (W.block (W.seq (W.region ?_)))))
          refine WL.st (R.eqi (.t L0) .c) rfl ?_
          refine WL.st (R.as (.t L0)) rfl ?_
          refine WL.nil (QS.next (W.del (.kp (.dr .rf)) ?_))
          refine W.cd (.t L0) (fun h6 => ?_) (fun h6 => ?_)
          ·
           exfalso; omega
          ·
           refine W.del (.dr .rf) (W.seq (W.seq (W.region ?_)))
           refine WL.st (R.eqi (.t L0) .c) rfl ?_
           refine WL.st (R.as (.t L0)) rfl ?_
           refine WL.nil (QS.next (W.del (.kp (.dr .rf)) ?_))
           refine W.cd (.t L0) (fun h9 => ?_) (fun h9 => ?_)
           ·
            exfalso; omega
           ·
            refine W.region ?_
            refine WL.st (R.eqi (.t L1) .c) rfl ?_
            refine WL.as (.t L0) U1 rfl ?_
            refine WL.nil (QS.next (W.del (.dr .rf) ?_))
            refine W.cd (.t L0) (fun h10 => ?_) (fun h10 => ?_)
            ·
             exfalso; omega
            ·
             refine W.del (.dr .rf) (W.seq (W.region ?_))
             refine WL.st (R.eqi (.t L0) .c) rfl ?_
             refine WL.st (R.as (.t L0)) rfl ?_
             refine WL.nil (QS.next (W.del (.kp (.dr .rf)) ?_))
             refine W.cd (.t L0) (fun h11 => ?_) (fun h11 => ?_)
             ·
              exfalso; omega
             ·
              refine W.del (.dr .rf) (W.seq (W.region ?_))
              refine WL.st (R.eqi (.t L0) .c) rfl ?_
              refine WL.st (R.as (.t L0)) rfl ?_
              refine WL.nil (QS.next (W.del (.kp (.dr (.dr .rf))) ?_))
              refine W.cd (.t L0) (fun h12 => ?_) (fun h12 => ?_)
              ·
               refine W.del (.dr .rf) (W.seq (W.region ?_))
               refine WL.st (R.mv (.t L5)) rfl ?_
               refine WL.st (R.nes (.t L0) .c) rfl ?_
               refine WL.nil (QS.next (W.del (.kp (.dr .rf)) ?_))
               refine W.cd (.t L0) (fun h13 => ?_) (fun h13 => ?_)
               ·
                refine W.del (.dr .rf) (W.seq ?_)
                have hpt : (placeS k x57.1.kind x57.1.widths.length).1 = true := by rw [hsp.1]; rw [if_pos hg82]; simpa using hg87
                have hps := hpl0.1
                have hse : (stepS k x57.1).1 = 171 := look_171 h4t hpt (by rw [texts_15 (by omega), hps]; exact decide_eq_false h13)
                have hr := run_err hi1 hqj (by rw [hse]; decide)
                rw [hse] at hr
                have hm : measS (runS b s sty tp) = ⟨0, 0, 0, 0, 0, [], 0, 171⟩ := by rw [hr]; exact if_pos (show (171 : Int) ≠ 0 by decide)
                refine W.any mixed (n := 7) rfl ?_
                refine WA.take (i := 1) rfl (by kernel_rfl) (by kernel_rfl) (by kernel_rfl) (fun _ _ _ => (R.fa fo_59_0 (.t L1))) rfl ?_
                refine WA.more [0, 2] (by kernel_rfl) (List.cons_ne_nil _ _) ⟨⟨_, rfl, ?_⟩, ⟨_, rfl, ?_⟩, trivial⟩
                ·
                 refine WL.st (R.lda ag_31 (.t (D1 L3)) H7 (by repeat constructor)) rfl ?_
                 refine WL.nil (WA.next ?_)
                 refine WA.more [2, 3] (by kernel_rfl) (List.cons_ne_nil _ _) ⟨⟨_, rfl, ?_⟩, ⟨_, rfl, ?_⟩, trivial⟩
                 ·
                  refine WL.st (R.ld sc_3 (.t L1) H4 rfl) rfl ?_
                  refine WL.nil (WA.next ?_)
                  refine WA.more [3] (by kernel_rfl) (List.cons_ne_nil _ _) ⟨⟨_, rfl, ?_⟩, trivial⟩
                  refine WL.sto sz_31 (.t (D1 L1)) (.t L1) rfl rfl rfl C8 (by repeat constructor) ?_
                  refine WL.nil (WA.next ?_)
                  refine WA.more [4] (by kernel_rfl) (List.cons_ne_nil _ _) ⟨⟨_, rfl, ?_⟩, trivial⟩
                  refine WL.as .c (E1 U2) rfl ?_
                  refine WL.nil (WA.next ?_)
                  refine WA.more [5] (by kernel_rfl) (List.cons_ne_nil _ _) ⟨⟨_, rfl, ?_⟩, trivial⟩
                  refine WL.as (.t L0) (E1 U3) rfl ?_
                  refine WL.nil (WA.next ?_)
                  refine WA.more [6] (by kernel_rfl) (List.cons_ne_nil _ _) ⟨⟨_, rfl, ?_⟩, trivial⟩
                  refine WL.as .c (E1 U4) rfl ?_
                  refine WL.nil (WA.next ?_)
                  refine WA.done (by kernel_rfl) ?_
                  refine QS.next (W.del (.dr (.dr (.dr .rf))) (W.ret (QS.blkr (QS.blkr (QS.thenr (QS.thenr (QS.blkr (QS.thenr ?_))))))))
                  exact QS.fin (.inl rfl) rfl (.agg ag_31 rfl L8 H8 (.tmp L9 (.tmp (D1 L0) (.tmp (D1 L1) .nil)))) (none, 0) (by rw [hm, hr]; rfl) (.dr (.dr (.dr (.dr (.dr (.dr (.dr (.dr (.dr .nil))))))))) (fun w _ _ => by rw [hm]; exact Rd.nil)
                 ·
                  refine WL.sto sz_31 (.t (D1 L0)) (.t L0) rfl rfl rfl C8 (by repeat constructor) ?_
                  refine WL.nil (WA.next ?_)
                  refine WA.more [2, 4] (by kernel_rfl) (List.cons_ne_nil _ _) ⟨⟨_, rfl, ?_⟩, ⟨_, rfl, ?_⟩, trivial⟩
                  ·
                   refine WL.st (R.ld sc_3 (.t L1) H4 rfl) rfl ?_
                   refine WL.nil (WA.next ?_)
                   refine WA.more [4] (by kernel_rfl) (List.cons_ne_nil _ _) ⟨⟨_, rfl, ?_⟩, trivial⟩
                   refine WL.as .c (E1 U2) rfl ?_
                   refine WL.nil (WA.next ?_)
                   refine WA.more [5] (by kernel_rfl) (List.cons_ne_nil _ _) ⟨⟨_, rfl, ?_⟩, trivial⟩
                   refine WL.as (.t L0) (E1 U3) rfl ?_
                   refine WL.nil (WA.next ?_)
                   refine WA.more [6] (by kernel_rfl) (List.cons_ne_nil _ _) ⟨⟨_, rfl, ?_⟩, trivial⟩
                   refine WL.as .c (E1 U4) rfl ?_
                   refine WL.nil (WA.next ?_)
                   refine WA.done (by kernel_rfl) ?_
                   refine QS.next (W.del (.dr (.dr (.dr .rf))) (W.ret (QS.blkr (QS.blkr (QS.thenr (QS.thenr (QS.blkr (QS.thenr ?_))))))))
                   exact QS.fin (.inl rfl) rfl (.agg ag_31 rfl L8 H8 (.tmp L9 (.tmp (D1 L0) (.tmp (D1 L1) .nil)))) (none, 0) (by rw [hm, hr]; rfl) (.dr (.dr (.dr (.dr (.dr (.dr (.dr (.dr (.dr .nil))))))))) (fun w _ _ => by rw [hm]; exact Rd.nil)
                  ·
                   refine WL.as .c (E1 U1) rfl ?_
                   refine WL.nil (WA.next ?_)
                   refine WA.more [2] (by kernel_rfl) (List.cons_ne_nil _ _) ⟨⟨_, rfl, ?_⟩, trivial⟩
                   refine WL.st (R.ld sc_3 (.t L1) H4 rfl) rfl ?_
                   refine WL.nil (WA.next ?_)
                   refine WA.more [5] (by kernel_rfl) (List.cons_ne_nil _ _) ⟨⟨_, rfl, ?_⟩, trivial⟩
                   refine WL.as (.t L0) (E1 U3) rfl ?_
                   refine WL.nil (WA.next ?_)
                   refine WA.more [6] (by kernel_rfl) (List.cons_ne_nil _ _) ⟨⟨_, rfl, ?_⟩, trivial⟩
                   refine WL.as .c (E1 U4) rfl ?_
                   refine WL.nil (WA.next ?_)
                   refine WA.done (by kernel_rfl) ?_
                   refine QS.next (W.del (.dr (.dr (.dr .rf))) (W.ret (QS.blkr (QS.blkr (QS.thenr (QS.thenr (QS.blkr (QS.thenr ?_))))))))
                   exact QS.fin (.inl rfl) rfl (.agg ag_31 rfl L8 H8 (.tmp L9 (.tmp (D1 L0) (.tmp (D1 L1) .nil)))) (none, 0) (by rw [hm, hr]; rfl) (.dr (.dr (.dr (.dr (.dr (.dr (.dr (.dr (.dr .nil))))))))) (fun w _ _ => by rw [hm]; exact Rd.nil)
                ·
                 refine WL.st (R.ld sc_3 (.t L0) H4 rfl) rfl ?_
                 refine WL.nil (WA.next ?_)
                 refine WA.more [0] (by kernel_rfl) (List.cons_ne_nil _ _) ⟨⟨_, rfl, ?_⟩, trivial⟩
                 refine WL.st (R.lda ag_31 (.t (D1 L4)) H7 (by repeat constructor)) rfl ?_
                 refine WL.nil (WA.next ?_)
                 refine WA.more [3] (by kernel_rfl) (List.cons_ne_nil _ _) ⟨⟨_, rfl, ?_⟩, trivial⟩
                 refine WL.sto sz_31 (.t (D1 L1)) (.t L0) rfl rfl rfl C8 (by repeat constructor) ?_
                 refine WL.nil (WA.next ?_)
                 refine WA.more [4] (by kernel_rfl) (List.cons_ne_nil _ _) ⟨⟨_, rfl, ?_⟩, trivial⟩
                 refine WL.as .c (E1 U2) rfl ?_
                 refine WL.nil (WA.next ?_)
                 refine WA.more [5] (by kernel_rfl) (List.cons_ne_nil _ _) ⟨⟨_, rfl, ?_⟩, trivial⟩
                 refine WL.as (.t L1) (E1 U3) rfl ?_
                 refine WL.nil (WA.next ?_)
                 refine WA.more [6] (by kernel_rfl) (List.cons_ne_nil _ _) ⟨⟨_, rfl, ?_⟩, trivial⟩
                 refine WL.as .c (E1 U4) rfl ?_
                 refine WL.nil (WA.next ?_)
                 refine WA.done (by kernel_rfl) ?_
                 refine QS.next (W.del (.dr (.dr (.dr .rf))) (W.ret (QS.blkr (QS.blkr (QS.thenr (QS.thenr (QS.blkr (QS.thenr ?_))))))))
                 exact QS.fin (.inl rfl) rfl (.agg ag_31 rfl L8 H8 (.tmp L9 (.tmp (D1 L0) (.tmp (D1 L1) .nil)))) (none, 0) (by rw [hm, hr]; rfl) (.dr (.dr (.dr (.dr (.dr (.dr (.dr (.dr (.dr .nil))))))))) (fun w _ _ => by rw [hm]; exact Rd.nil)
               ·
                refine W.del (.dr .rf) (W.skip (QS.blkn (QS.blkn (QS.next (W.region ?_)))))
                refine WL.st (R.add (.t L2) .c (wi (by omega) (by omega))) rfl ?_
                refine WL.up (R.mv (.t L0)) U3 rfl ?_
                refine WL.nil ?_
                have hpt : (placeS k x57.1.kind x57.1.widths.length).1 = true := by rw [hsp.1]; rw [if_pos hg82]; simpa using hg87
                have htx : (textsS (placeS k x57.1.kind x57.1.widths.length).2 x57.1.kind x57.1.n).1 = true := by rw [texts_15 (by omega), hpl0.1]; exact decide_eq_true (Classical.not_not.1 h13)
                have hst0 := look_0 h4t hpt htx
                have hk2 : (stepS k x57.1).2 = { (textsS (placeS k x57.1.kind x57.1.widths.length).2 x57.1.kind x57.1.n).2 with last := x57.1.kind } := by rw [hst0]
                have hns : (stepS k x57.1).2.s = k.s := by rw [hk2]; dsimp only; rw [texts_15 (by omega)]; exact hpl0.1
                have hnl : (stepS k x57.1).2.last = x57.1.kind := by rw [hk2]
                have hz : (stepS k x57.1).1 = 0 := by rw [hst0]
                have hn2 := step_ok ok hz
                have hsk := step_keep hst0
                have hsim2 : Sim (stepS k x57.1).2 m x57.1.kind := by
                  have h := hsp.2 hpt
                  rw [if_pos hg82] at h
                  rw [hk2]; exact sim_texts h rfl
                have hlv2 : LvB m ((j + 1 : Nat) : Int) := by
                  intro l hl; have := hlvb l hl; omega
                have hfin : j + 1 = (instrsS b).1.length → (stepS k x57.1).2.depth = 0 := fun hh => halt_next ok hz (last_15 (by omega) hqj hh)
                have hsl : (stepS k x57.1).2.s.length ≤ 16384 := by have := hn2.s; omega
                have hrn := run_next hi1 hqj hz
                rw [if_neg (show ¬ (x57.1.kind = 3 ∨ x57.1.kind = 4) by omega)] at hrn
                rw [if_neg (show ¬ x57.1.kind = 8 by omega)] at hrn
                exact QS.at ⟨(((stepS k x57.1).2, m, ds ++ [(k.depth : Int)], nl, np, max ns (stepS k x57.1).2.depth, max st k.depth, j + 1), (A63, c63), (Ab, cb), Ao, co), ⟨hrn, hn2.ok, by dsimp only; omega, by simp; omega, by dsimp only; omega, by dsimp only; omega, by dsimp only; omega, by dsimp only; omega, hsl⟩, by dsimp only; rw [hnl]; exact hsim2, hlv2, by dsimp only; omega, by dsimp only; omega, hsk.1.trans hj12, hsk.2.trans hj13, hfin⟩ (show M.length - (j + 1) < M.length - j by omega) (.dr (.dr (.dr (.kp rfl (.kp rfl (.kp rfl (.kp (congrArg str hns.symm) (.kp rfl (.kp rfl (.kp rfl (.kp rfl (.kp rfl (.kp rfl (.kp rfl (.kp rfl (.kp rfl (.kp (by simp) .nil))))))))))))))))) (.kp rfl (.kp rfl (.kp rfl (.dr (.dr (.kp (by simp [icells]) (.kp rfl (.kp rfl (.kp rfl .nil))))))))) (fun w h hd => ⟨h.1.1.1.1, h.1.1.1.2.1, h.1.1.1.2.2⟩)
              ·
               exfalso; omega
       ·
        refine WL.gn rfl L0 rfl ?_
        refine WL.gn rfl L1 rfl ?_
        refine WL.gn rfl L2 rfl ?_
        refine WL.st (R.pkf (.t L3) .c) rfl ?_
        refine WL.st (R.mv (.t L0)) rfl ?_
        refine WL.gy rfl L0 (R.mv (.t L7)) rfl ?_
        refine WL.gy rfl L1 (R.not (.t L0)) rfl ?_
        refine WL.gy rfl L2 (R.mv (.t L0)) rfl ?_
        refine WL.cd L0 U0 U0 (fun hg90 => ?_) (fun hg90 => ?_)
        ·
         refine WL.gy rfl L0 (R.mv (.t (D1 (D1 L4)))) rfl ?_
         refine WL.gy rfl L1 (R.fa fo_59_2 (.t (D1 L2))) rfl ?_
         refine WL.gy rfl L2 (R.ld sc_57 (.t L0) H4 rfl) rfl ?_
         refine WL.gy rfl L3 (R.fa fo_59_3 (.t (D1 L4))) rfl ?_
         refine WL.gy rfl L4 (R.ld sc_3 (.t L0) H4 rfl) rfl ?_
         refine WL.gy rfl L5 (R.fa fo_59_4 (.t (D1 L6))) rfl ?_
         refine WL.gy rfl L6 (R.ld sc_37 (.t L0) H4 rfl) rfl ?_
         refine WL.gy rfl L7 (R.bld (z := [.int .i64 0, .int .i64 0, str [], .slice none 0 0]) Tryd.underlying95 (by kernel_rfl) z_95 (.cons fo_95_0 fz_95_0 rfl (.t L4) rfl (by repeat constructor) (.cons fo_95_1 fz_95_1 rfl (.t L2) rfl (by repeat constructor) (.cons fo_95_3 fz_95_3 rfl (.t L0) rfl (by repeat constructor) .nil)))) rfl ?_
         refine WL.gyw rfl L8 ?_
         refine WL.call gf_48 .f (.cons (.t L7) (.cons (.t L0) .nil)) (.kp rfl (.kp rfl (.kp rfl (.dr (.dr (.dr (.dr (.dr (.dr .nil))))))))) (fun w hb => (mach_Step hbo.1 hbo.2 (by omega) (fun l hl => by have := hlvb l hl; omega) (hb.imp fun _ _ => trivial))) rfl (fun x99 => ?_)
         refine WL.gy rfl L9 (R.notb (.t L0)) rfl ?_
         refine WL.gy rfl (D1 L3) (R.pkt (.t (D1 L0)) (.t L0)) rfl ?_
         refine WL.st (R.pkf (.t (D1 L4)) (.t L0)) rfl ?_
         refine WL.nil (QS.next (W.del (.kp (.dr (.dr (.dr (.dr (.dr (.dr (.dr (.dr (.dr (.dr (.dr (.dr (.dr (.dr (.dr (.dr (.dr (.dr (.dr (.dr (.dr .rf)))))))))))))))))))))) ?_))
         refine W.cb (.t L0) (fun h5 => ?_) (fun h5 => ?_)
         ·
          refine W.del (.dr .rf) (W.seq ?_)
          have hse : (stepS k x57.1).1 = 170 := look_170 h4t (by rw [hsp.1]; rw [if_neg hg82]; simpa using h5)
          have hr := run_err hi1 hqj (by rw [hse]; decide)
          rw [hse] at hr
          have hm : measS (runS b s sty tp) = ⟨0, 0, 0, 0, 0, [], 0, 170⟩ := by rw [hr]; exact if_pos (show (170 : Int) ≠ 0 by decide)
          refine W.any mixed (n := 7) rfl ?_
          refine WA.take (i := 1) rfl (by kernel_rfl) (by kernel_rfl) (by kernel_rfl) (fun _ _ _ => (R.fa fo_59_0 (.t L1))) rfl ?_
          refine WA.more [0, 2] (by kernel_rfl) (List.cons_ne_nil _ _) ⟨⟨_, rfl, ?_⟩, ⟨_, rfl, ?_⟩, trivial⟩
          ·
           refine WL.st (R.lda ag_31 (.t (D1 L3)) H7 (by repeat constructor)) rfl ?_
           refine WL.nil (WA.next ?_)
           refine WA.more [2, 3] (by kernel_rfl) (List.cons_ne_nil _ _) ⟨⟨_, rfl, ?_⟩, ⟨_, rfl, ?_⟩, trivial⟩
           ·
            refine WL.st (R.ld sc_3 (.t L1) H4 rfl) rfl ?_
            refine WL.nil (WA.next ?_)
            refine WA.more [3] (by kernel_rfl) (List.cons_ne_nil _ _) ⟨⟨_, rfl, ?_⟩, trivial⟩
            refine WL.sto sz_31 (.t (D1 L1)) (.t L1) rfl rfl rfl C8 (by repeat constructor) ?_
            refine WL.nil (WA.next ?_)
            refine WA.more [4] (by kernel_rfl) (List.cons_ne_nil _ _) ⟨⟨_, rfl, ?_⟩, trivial⟩
            refine WL.as .c (E1 U2) rfl ?_
            refine WL.nil (WA.next ?_)
            refine WA.more [5] (by kernel_rfl) (List.cons_ne_nil _ _) ⟨⟨_, rfl, ?_⟩, trivial⟩
            refine WL.as (.t L0) (E1 U3) rfl ?_
            refine WL.nil (WA.next ?_)
            refine WA.more [6] (by kernel_rfl) (List.cons_ne_nil _ _) ⟨⟨_, rfl, ?_⟩, trivial⟩
            refine WL.as .c (E1 U4) rfl ?_
            refine WL.nil (WA.next ?_)
            refine WA.done (by kernel_rfl) ?_
            refine QS.next (W.del (.dr (.dr (.dr .rf))) (W.ret (QS.thenr (QS.blkr (QS.thenr (QS.thenr (QS.blkr (QS.thenr ?_))))))))
            exact QS.fin (.inl rfl) rfl (.agg ag_31 rfl L8 H8 (.tmp L9 (.tmp (D1 L0) (.tmp (D1 L1) .nil)))) (none, 0) (by rw [hm, hr]; rfl) (.dr (.dr (.dr (.dr (.dr (.dr (.dr (.dr (.dr .nil))))))))) (fun w _ _ => by rw [hm]; exact Rd.nil)
           ·
            refine WL.sto sz_31 (.t (D1 L0)) (.t L0) rfl rfl rfl C8 (by repeat constructor) ?_
            refine WL.nil (WA.next ?_)
            refine WA.more [2, 4] (by kernel_rfl) (List.cons_ne_nil _ _) ⟨⟨_, rfl, ?_⟩, ⟨_, rfl, ?_⟩, trivial⟩
            ·
             refine WL.st (R.ld sc_3 (.t L1) H4 rfl) rfl ?_
             refine WL.nil (WA.next ?_)
             refine WA.more [4] (by kernel_rfl) (List.cons_ne_nil _ _) ⟨⟨_, rfl, ?_⟩, trivial⟩
             refine WL.as .c (E1 U2) rfl ?_
             refine WL.nil (WA.next ?_)
             refine WA.more [5] (by kernel_rfl) (List.cons_ne_nil _ _) ⟨⟨_, rfl, ?_⟩, trivial⟩
             refine WL.as (.t L0) (E1 U3) rfl ?_
             refine WL.nil (WA.next ?_)
             refine WA.more [6] (by kernel_rfl) (List.cons_ne_nil _ _) ⟨⟨_, rfl, ?_⟩, trivial⟩
             refine WL.as .c (E1 U4) rfl ?_
             refine WL.nil (WA.next ?_)
             refine WA.done (by kernel_rfl) ?_
             refine QS.next (W.del (.dr (.dr (.dr .rf))) (W.ret (QS.thenr (QS.blkr (QS.thenr (QS.thenr (QS.blkr (QS.thenr ?_))))))))
             exact QS.fin (.inl rfl) rfl (.agg ag_31 rfl L8 H8 (.tmp L9 (.tmp (D1 L0) (.tmp (D1 L1) .nil)))) (none, 0) (by rw [hm, hr]; rfl) (.dr (.dr (.dr (.dr (.dr (.dr (.dr (.dr (.dr .nil))))))))) (fun w _ _ => by rw [hm]; exact Rd.nil)
            ·
             refine WL.as .c (E1 U1) rfl ?_
             refine WL.nil (WA.next ?_)
             refine WA.more [2] (by kernel_rfl) (List.cons_ne_nil _ _) ⟨⟨_, rfl, ?_⟩, trivial⟩
             refine WL.st (R.ld sc_3 (.t L1) H4 rfl) rfl ?_
             refine WL.nil (WA.next ?_)
             refine WA.more [5] (by kernel_rfl) (List.cons_ne_nil _ _) ⟨⟨_, rfl, ?_⟩, trivial⟩
             refine WL.as (.t L0) (E1 U3) rfl ?_
             refine WL.nil (WA.next ?_)
             refine WA.more [6] (by kernel_rfl) (List.cons_ne_nil _ _) ⟨⟨_, rfl, ?_⟩, trivial⟩
             refine WL.as .c (E1 U4) rfl ?_
             refine WL.nil (WA.next ?_)
             refine WA.done (by kernel_rfl) ?_
             refine QS.next (W.del (.dr (.dr (.dr .rf))) (W.ret (QS.thenr (QS.blkr (QS.thenr (QS.thenr (QS.blkr (QS.thenr ?_))))))))
             exact QS.fin (.inl rfl) rfl (.agg ag_31 rfl L8 H8 (.tmp L9 (.tmp (D1 L0) (.tmp (D1 L1) .nil)))) (none, 0) (by rw [hm, hr]; rfl) (.dr (.dr (.dr (.dr (.dr (.dr (.dr (.dr (.dr .nil))))))))) (fun w _ _ => by rw [hm]; exact Rd.nil)
          ·
           refine WL.st (R.ld sc_3 (.t L0) H4 rfl) rfl ?_
           refine WL.nil (WA.next ?_)
           refine WA.more [0] (by kernel_rfl) (List.cons_ne_nil _ _) ⟨⟨_, rfl, ?_⟩, trivial⟩
           refine WL.st (R.lda ag_31 (.t (D1 L4)) H7 (by repeat constructor)) rfl ?_
           refine WL.nil (WA.next ?_)
           refine WA.more [3] (by kernel_rfl) (List.cons_ne_nil _ _) ⟨⟨_, rfl, ?_⟩, trivial⟩
           refine WL.sto sz_31 (.t (D1 L1)) (.t L0) rfl rfl rfl C8 (by repeat constructor) ?_
           refine WL.nil (WA.next ?_)
           refine WA.more [4] (by kernel_rfl) (List.cons_ne_nil _ _) ⟨⟨_, rfl, ?_⟩, trivial⟩
           refine WL.as .c (E1 U2) rfl ?_
           refine WL.nil (WA.next ?_)
           refine WA.more [5] (by kernel_rfl) (List.cons_ne_nil _ _) ⟨⟨_, rfl, ?_⟩, trivial⟩
           refine WL.as (.t L1) (E1 U3) rfl ?_
           refine WL.nil (WA.next ?_)
           refine WA.more [6] (by kernel_rfl) (List.cons_ne_nil _ _) ⟨⟨_, rfl, ?_⟩, trivial⟩
           refine WL.as .c (E1 U4) rfl ?_
           refine WL.nil (WA.next ?_)
           refine WA.done (by kernel_rfl) ?_
           refine QS.next (W.del (.dr (.dr (.dr .rf))) (W.ret (QS.thenr (QS.blkr (QS.thenr (QS.thenr (QS.blkr (QS.thenr ?_))))))))
           exact QS.fin (.inl rfl) rfl (.agg ag_31 rfl L8 H8 (.tmp L9 (.tmp (D1 L0) (.tmp (D1 L1) .nil)))) (none, 0) (by rw [hm, hr]; rfl) (.dr (.dr (.dr (.dr (.dr (.dr (.dr (.dr (.dr .nil))))))))) (fun w _ _ => by rw [hm]; exact Rd.nil)
         ·
          refine W.del (.dr .rf) (W.skip (QS.next (W.seq (W.region ?_))))
          refine WL.st (R.fa fo_59_2 (.t L1)) rfl ?_
          refine WL.st (R.ld sc_57 (.t L0) H4 rfl) rfl ?_
          refine WL.nil (QS.next (W.del (.kp (.dr .rf)) (W.block (W.seq (W.region ?_)))))
          refine WL.st (R.eqi (.t L0) .c) rfl ?_
          refine WL.st (R.as (.t L0)) rfl ?_
          refine WL.nil (QS.next (W.del (.kp (.dr .rf)) ?_))
          refine W.cd (.t L0) (fun h6 => ?_) (fun h6 => ?_)
          ·
           refine W.del (.dr (.dr .rf)) (W.seq (W.seq (W.region ?_)))
           refine WL.st (R.fa fo_59_3 (.t L1)) rfl ?_
           refine WL.st (R.ld sc_3 (.t L0) H4 rfl) rfl ?_
           refine WL.st (R.mv (.t L7)) rfl ?_
           refine WL.st (R.lens st_9 (.t L0)) rfl ?_
           refine WL.st (R.gtr (.t L2) (.t L0)) rfl ?_
           refine WL.nil (QS.next (W.del (.kp (.dr (.dr (.dr (.dr .rf))))) ?_))
           refine W.cd (.t L0) (fun h7 => ?_) (fun h7 => ?_)
           ·
            refine W.del (.dr .rf) (W.seq ?_)
            have hpt : (placeS k x57.1.kind x57.1.widths.length).1 = true := by rw [hsp.1]; rw [if_neg hg82]; simpa using h5
            have hps := hpl0.1
            have hse : (stepS k x57.1).1 = 171 := look_171 h4t hpt (by rw [texts_1x (by omega) (by rw [hps]; omega)])
            have hr := run_err hi1 hqj (by rw [hse]; decide)
            rw [hse] at hr
            have hm : measS (runS b s sty tp) = ⟨0, 0, 0, 0, 0, [], 0, 171⟩ := by rw [hr]; exact if_pos (show (171 : Int) ≠ 0 by decide)
            refine W.any mixed (n := 7) rfl ?_
            refine WA.take (i := 1) rfl (by kernel_rfl) (by kernel_rfl) (by kernel_rfl) (fun _ _ _ => (R.fa fo_59_0 (.t L1))) rfl ?_
            refine WA.more [0, 2] (by kernel_rfl) (List.cons_ne_nil _ _) ⟨⟨_, rfl, ?_⟩, ⟨_, rfl, ?_⟩, trivial⟩
            ·
             refine WL.st (R.lda ag_31 (.t (D1 L3)) H7 (by repeat constructor)) rfl ?_
             refine WL.nil (WA.next ?_)
             refine WA.more [2, 3] (by kernel_rfl) (List.cons_ne_nil _ _) ⟨⟨_, rfl, ?_⟩, ⟨_, rfl, ?_⟩, trivial⟩
             ·
              refine WL.st (R.ld sc_3 (.t L1) H4 rfl) rfl ?_
              refine WL.nil (WA.next ?_)
              refine WA.more [3] (by kernel_rfl) (List.cons_ne_nil _ _) ⟨⟨_, rfl, ?_⟩, trivial⟩
              refine WL.sto sz_31 (.t (D1 L1)) (.t L1) rfl rfl rfl C8 (by repeat constructor) ?_
              refine WL.nil (WA.next ?_)
              refine WA.more [4] (by kernel_rfl) (List.cons_ne_nil _ _) ⟨⟨_, rfl, ?_⟩, trivial⟩
              refine WL.as .c (E1 U2) rfl ?_
              refine WL.nil (WA.next ?_)
              refine WA.more [5] (by kernel_rfl) (List.cons_ne_nil _ _) ⟨⟨_, rfl, ?_⟩, trivial⟩
              refine WL.as (.t L0) (E1 U3) rfl ?_
              refine WL.nil (WA.next ?_)
              refine WA.more [6] (by kernel_rfl) (List.cons_ne_nil _ _) ⟨⟨_, rfl, ?_⟩, trivial⟩
              refine WL.as .c (E1 U4) rfl ?_
              refine WL.nil (WA.next ?_)
              refine WA.done (by kernel_rfl) ?_
              refine QS.next (W.del (.dr (.dr (.dr .rf))) (W.ret (QS.thenr (QS.blkr (QS.blkr (QS.thenr (QS.thenr (QS.blkr (QS.thenr ?_)))))))))
              exact QS.fin (.inl rfl) rfl (.agg ag_31 rfl L8 H8 (.tmp L9 (.tmp (D1 L0) (.tmp (D1 L1) .nil)))) (none, 0) (by rw [hm, hr]; rfl) (.dr (.dr (.dr (.dr (.dr (.dr (.dr (.dr (.dr .nil))))))))) (fun w _ _ => by rw [hm]; exact Rd.nil)
             ·
              refine WL.sto sz_31 (.t (D1 L0)) (.t L0) rfl rfl rfl C8 (by repeat constructor) ?_
              refine WL.nil (WA.next ?_)
              refine WA.more [2, 4] (by kernel_rfl) (List.cons_ne_nil _ _) ⟨⟨_, rfl, ?_⟩, ⟨_, rfl, ?_⟩, trivial⟩
              ·
               refine WL.st (R.ld sc_3 (.t L1) H4 rfl) rfl ?_
               refine WL.nil (WA.next ?_)
               refine WA.more [4] (by kernel_rfl) (List.cons_ne_nil _ _) ⟨⟨_, rfl, ?_⟩, trivial⟩
               refine WL.as .c (E1 U2) rfl ?_
               refine WL.nil (WA.next ?_)
               refine WA.more [5] (by kernel_rfl) (List.cons_ne_nil _ _) ⟨⟨_, rfl, ?_⟩, trivial⟩
               refine WL.as (.t L0) (E1 U3) rfl ?_
               refine WL.nil (WA.next ?_)
               refine WA.more [6] (by kernel_rfl) (List.cons_ne_nil _ _) ⟨⟨_, rfl, ?_⟩, trivial⟩
               refine WL.as .c (E1 U4) rfl ?_
               refine WL.nil (WA.next ?_)
               refine WA.done (by kernel_rfl) ?_
               refine QS.next (W.del (.dr (.dr (.dr .rf))) (W.ret (QS.thenr (QS.blkr (QS.blkr (QS.thenr (QS.thenr (QS.blkr (QS.thenr ?_)))))))))
               exact QS.fin (.inl rfl) rfl (.agg ag_31 rfl L8 H8 (.tmp L9 (.tmp (D1 L0) (.tmp (D1 L1) .nil)))) (none, 0) (by rw [hm, hr]; rfl) (.dr (.dr (.dr (.dr (.dr (.dr (.dr (.dr (.dr .nil))))))))) (fun w _ _ => by rw [hm]; exact Rd.nil)
              ·
               refine WL.as .c (E1 U1) rfl ?_
               refine WL.nil (WA.next ?_)
               refine WA.more [2] (by kernel_rfl) (List.cons_ne_nil _ _) ⟨⟨_, rfl, ?_⟩, trivial⟩
               refine WL.st (R.ld sc_3 (.t L1) H4 rfl) rfl ?_
               refine WL.nil (WA.next ?_)
               refine WA.more [5] (by kernel_rfl) (List.cons_ne_nil _ _) ⟨⟨_, rfl, ?_⟩, trivial⟩
               refine WL.as (.t L0) (E1 U3) rfl ?_
               refine WL.nil (WA.next ?_)
               refine WA.more [6] (by kernel_rfl) (List.cons_ne_nil _ _) ⟨⟨_, rfl, ?_⟩, trivial⟩
               refine WL.as .c (E1 U4) rfl ?_
               refine WL.nil (WA.next ?_)
               refine WA.done (by kernel_rfl) ?_
               refine QS.next (W.del (.dr (.dr (.dr .rf))) (W.ret (QS.thenr (QS.blkr (QS.blkr (QS.thenr (QS.thenr (QS.blkr (QS.thenr ?_)))))))))
               exact QS.fin (.inl rfl) rfl (.agg ag_31 rfl L8 H8 (.tmp L9 (.tmp (D1 L0) (.tmp (D1 L1) .nil)))) (none, 0) (by rw [hm, hr]; rfl) (.dr (.dr (.dr (.dr (.dr (.dr (.dr (.dr (.dr .nil))))))))) (fun w _ _ => by rw [hm]; exact Rd.nil)
            ·
             refine WL.st (R.ld sc_3 (.t L0) H4 rfl) rfl ?_
             refine WL.nil (WA.next ?_)
             refine WA.more [0] (by kernel_rfl) (List.cons_ne_nil _ _) ⟨⟨_, rfl, ?_⟩, trivial⟩
             refine WL.st (R.lda ag_31 (.t (D1 L4)) H7 (by repeat constructor)) rfl ?_
             refine WL.nil (WA.next ?_)
             refine WA.more [3] (by kernel_rfl) (List.cons_ne_nil _ _) ⟨⟨_, rfl, ?_⟩, trivial⟩
             refine WL.sto sz_31 (.t (D1 L1)) (.t L0) rfl rfl rfl C8 (by repeat constructor) ?_
             refine WL.nil (WA.next ?_)
             refine WA.more [4] (by kernel_rfl) (List.cons_ne_nil _ _) ⟨⟨_, rfl, ?_⟩, trivial⟩
             refine WL.as .c (E1 U2) rfl ?_
             refine WL.nil (WA.next ?_)
             refine WA.more [5] (by kernel_rfl) (List.cons_ne_nil _ _) ⟨⟨_, rfl, ?_⟩, trivial⟩
             refine WL.as (.t L1) (E1 U3) rfl ?_
             refine WL.nil (WA.next ?_)
             refine WA.more [6] (by kernel_rfl) (List.cons_ne_nil _ _) ⟨⟨_, rfl, ?_⟩, trivial⟩
             refine WL.as .c (E1 U4) rfl ?_
             refine WL.nil (WA.next ?_)
             refine WA.done (by kernel_rfl) ?_
             refine QS.next (W.del (.dr (.dr (.dr .rf))) (W.ret (QS.thenr (QS.blkr (QS.blkr (QS.thenr (QS.thenr (QS.blkr (QS.thenr ?_)))))))))
             exact QS.fin (.inl rfl) rfl (.agg ag_31 rfl L8 H8 (.tmp L9 (.tmp (D1 L0) (.tmp (D1 L1) .nil)))) (none, 0) (by rw [hm, hr]; rfl) (.dr (.dr (.dr (.dr (.dr (.dr (.dr (.dr (.dr .nil))))))))) (fun w _ _ => by rw [hm]; exact Rd.nil)
           ·
            refine W.del (.dr .rf) (W.skip (QS.next (W.seq (W.seq (W.region ?_)))))
            refine WL.st (R.mv (.t L5)) rfl ?_
            refine WL.st (R.fa fo_59_3 (.t L2)) rfl ?_
            refine WL.st (R.ld sc_3 (.t L0) H4 rfl) rfl ?_
            obtain ⟨nn, hn⟩ : ∃ nn : Nat, x57.1.n = (nn : Int) := ⟨x57.1.n.toNat, by omega⟩
            have hnn : x57.1.n.toNat = nn := by omega
            refine WL.st (R.sls st_9 (.t L2) .no (.yes (.t L0) hn) (a := 0) (b := nn) (Nat.zero_le _) (by omega) (r := k.s.take nn) (by simp)) rfl ?_
            refine WL.callr gf_71 .f (.cons (.t L0) .nil) (fun w hb => (ref02_Plain (l := k.s.take nn) (by rw [List.length_take]; omega) (hb.imp fun _ _ => trivial))) rfl ?_
            refine WL.st (R.mv (.t L0)) rfl ?_
            refine WL.st (R.ex (.t L0) .here) rfl ?_
            refine WL.st (R.ex (.t L1) (.skip .here)) rfl ?_
            refine WL.st (R.as (.t L1)) rfl ?_
            refine WL.st (R.as (.t L1)) rfl ?_
            refine WL.nil (QS.next (W.del (.kp (.kp (.dr (.dr (.dr (.dr (.dr (.dr (.dr (.dr .rf)))))))))) (W.seq (W.region ?_))))
            refine WL.st (R.mv (.t L0)) rfl ?_
            refine WL.st (R.notb (.t L0)) rfl ?_
            refine WL.nil (QS.next (W.del (.kp (.dr .rf)) ?_))
            refine W.cb (.t L0) (fun h8 => ?_) (fun h8 => ?_)
            ·
             refine W.del (.dr .rf) (W.seq ?_)
             have hpt : (placeS k x57.1.kind x57.1.widths.length).1 = true := by rw [hsp.1]; rw [if_neg hg82]; simpa using h5
             have hps := hpl0.1
             have hse : (stepS k x57.1).1 = 171 := look_171 h4t hpt (by rw [texts_1 (by omega) (by rw [hps]; omega), hps, hnn]; simpa using h8)
             have hr := run_err hi1 hqj (by rw [hse]; decide)
             rw [hse] at hr
             have hm : measS (runS b s sty tp) = ⟨0, 0, 0, 0, 0, [], 0, 171⟩ := by rw [hr]; exact if_pos (show (171 : Int) ≠ 0 by decide)
             refine W.any mixed (n := 7) rfl ?_
             refine WA.take (i := 1) rfl (by kernel_rfl) (by kernel_rfl) (by kernel_rfl) (fun _ _ _ => (R.fa fo_59_0 (.t L3))) rfl ?_
             refine WA.more [0, 2] (by kernel_rfl) (List.cons_ne_nil _ _) ⟨⟨_, rfl, ?_⟩, ⟨_, rfl, ?_⟩, trivial⟩
             ·
              refine WL.st (R.lda ag_31 (.t (D1 L5)) H7 (by repeat constructor)) rfl ?_
              refine WL.nil (WA.next ?_)
              refine WA.more [2, 3] (by kernel_rfl) (List.cons_ne_nil _ _) ⟨⟨_, rfl, ?_⟩, ⟨_, rfl, ?_⟩, trivial⟩
              ·
               refine WL.st (R.ld sc_3 (.t L1) H4 rfl) rfl ?_
               refine WL.nil (WA.next ?_)
               refine WA.more [3] (by kernel_rfl) (List.cons_ne_nil _ _) ⟨⟨_, rfl, ?_⟩, trivial⟩
               refine WL.sto sz_31 (.t (D1 L3)) (.t L1) rfl rfl rfl C8 (by repeat constructor) ?_
               refine WL.nil (WA.next ?_)
               refine WA.more [4] (by kernel_rfl) (List.cons_ne_nil _ _) ⟨⟨_, rfl, ?_⟩, trivial⟩
               refine WL.as .c (E1 U4) rfl ?_
               refine WL.nil (WA.next ?_)
               refine WA.more [5] (by kernel_rfl) (List.cons_ne_nil _ _) ⟨⟨_, rfl, ?_⟩, trivial⟩
               refine WL.as (.t L0) (E1 U5) rfl ?_
               refine WL.nil (WA.next ?_)
               refine WA.more [6] (by kernel_rfl) (List.cons_ne_nil _ _) ⟨⟨_, rfl, ?_⟩, trivial⟩
               refine WL.as .c (E1 U6) rfl ?_
               refine WL.nil (WA.next ?_)
               refine WA.done (by kernel_rfl) ?_
               refine QS.next (W.del (.dr (.dr (.dr .rf))) (W.ret (QS.thenr (QS.blkr (QS.blkr (QS.thenr (QS.thenr (QS.blkr (QS.thenr ?_)))))))))
               exact QS.fin (.inl rfl) rfl (.agg ag_31 rfl (D1 L0) H8 (.tmp (D1 L1) (.tmp (D1 L2) (.tmp (D1 L3) .nil)))) (none, 0) (by rw [hm, hr]; rfl) (.dr (.dr (.dr (.dr (.dr (.dr (.dr (.dr (.dr .nil))))))))) (fun w _ _ => by rw [hm]; exact Rd.nil)
              ·
               refine WL.sto sz_31 (.t (D1 L2)) (.t L0) rfl rfl rfl C8 (by repeat constructor) ?_
               refine WL.nil (WA.next ?_)
               refine WA.more [2, 4] (by kernel_rfl) (List.cons_ne_nil _ _) ⟨⟨_, rfl, ?_⟩, ⟨_, rfl, ?_⟩, trivial⟩
               ·
                refine WL.st (R.ld sc_3 (.t L1) H4 rfl) rfl ?_
                refine WL.nil (WA.next ?_)
                refine WA.more [4] (by kernel_rfl) (List.cons_ne_nil _ _) ⟨⟨_, rfl, ?_⟩, trivial⟩
                refine WL.as .c (E1 U4) rfl ?_
                refine WL.nil (WA.next ?_)
                refine WA.more [5] (by kernel_rfl) (List.cons_ne_nil _ _) ⟨⟨_, rfl, ?_⟩, trivial⟩
                refine WL.as (.t L0) (E1 U5) rfl ?_
                refine WL.nil (WA.next ?_)
                refine WA.more [6] (by kernel_rfl) (List.cons_ne_nil _ _) ⟨⟨_, rfl, ?_⟩, trivial⟩
                refine WL.as .c (E1 U6) rfl ?_
                refine WL.nil (WA.next ?_)
                refine WA.done (by kernel_rfl) ?_
                refine QS.next (W.del (.dr (.dr (.dr .rf))) (W.ret (QS.thenr (QS.blkr (QS.blkr (QS.thenr (QS.thenr (QS.blkr (QS.thenr ?_)))))))))
                exact QS.fin (.inl rfl) rfl (.agg ag_31 rfl (D1 L0) H8 (.tmp (D1 L1) (.tmp (D1 L2) (.tmp (D1 L3) .nil)))) (none, 0) (by rw [hm, hr]; rfl) (.dr (.dr (.dr (.dr (.dr (.dr (.dr (.dr (.dr .nil))))))))) (fun w _ _ => by rw [hm]; exact Rd.nil)
               ·
                refine WL.as .c (E1 U3) rfl ?_
                refine WL.nil (WA.next ?_)
                refine WA.more [2] (by kernel_rfl) (List.cons_ne_nil _ _) ⟨⟨_, rfl, ?_⟩, trivial⟩
                refine WL.st (R.ld sc_3 (.t L1) H4 rfl) rfl ?_
                refine WL.nil (WA.next ?_)
                refine WA.more [5] (by kernel_rfl) (List.cons_ne_nil _ _) ⟨⟨_, rfl, ?_⟩, trivial⟩
                refine WL.as (.t L0) (E1 U5) rfl ?_
                refine WL.nil (WA.next ?_)
                refine WA.more [6] (by kernel_rfl) (List.cons_ne_nil _ _) ⟨⟨_, rfl, ?_⟩, trivial⟩
                refine WL.as .c (E1 U6) rfl ?_
                refine WL.nil (WA.next ?_)
                refine WA.done (by kernel_rfl) ?_
                refine QS.next (W.del (.dr (.dr (.dr .rf))) (W.ret (QS.thenr (QS.blkr (QS.blkr (QS.thenr (QS.thenr (QS.blkr (QS.thenr ?_)))))))))
                exact QS.fin (.inl rfl) rfl (.agg ag_31 rfl (D1 L0) H8 (.tmp (D1 L1) (.tmp (D1 L2) (.tmp (D1 L3) .nil)))) (none, 0) (by rw [hm, hr]; rfl) (.dr (.dr (.dr (.dr (.dr (.dr (.dr (.dr (.dr .nil))))))))) (fun w _ _ => by rw [hm]; exact Rd.nil)
             ·
              refine WL.st (R.ld sc_3 (.t L0) H4 rfl) rfl ?_
              refine WL.nil (WA.next ?_)
              refine WA.more [0] (by kernel_rfl) (List.cons_ne_nil _ _) ⟨⟨_, rfl, ?_⟩, trivial⟩
              refine WL.st (R.lda ag_31 (.t (D1 L6)) H7 (by repeat constructor)) rfl ?_
              refine WL.nil (WA.next ?_)
              refine WA.more [3] (by kernel_rfl) (List.cons_ne_nil _ _) ⟨⟨_, rfl, ?_⟩, trivial⟩
              refine WL.sto sz_31 (.t (D1 L3)) (.t L0) rfl rfl rfl C8 (by repeat constructor) ?_
              refine WL.nil (WA.next ?_)
              refine WA.more [4] (by kernel_rfl) (List.cons_ne_nil _ _) ⟨⟨_, rfl, ?_⟩, trivial⟩
              refine WL.as .c (E1 U4) rfl ?_
              refine WL.nil (WA.next ?_)
              refine WA.more [5] (by kernel_rfl) (List.cons_ne_nil _ _) ⟨⟨_, rfl, ?_⟩, trivial⟩
              refine WL.as (.t L1) (E1 U5) rfl ?_
              refine WL.nil (WA.next ?_)
              refine WA.more [6] (by kernel_rfl) (List.cons_ne_nil _ _) ⟨⟨_, rfl, ?_⟩, trivial⟩
              refine WL.as .c (E1 U6) rfl ?_
              refine WL.nil (WA.next ?_)
              refine WA.done (by kernel_rfl) ?_
              refine QS.next (W.del (.dr (.dr (.dr .rf))) (W.ret (QS.thenr (QS.blkr (QS.blkr (QS.thenr (QS.thenr (QS.blkr (QS.thenr ?_)))))))))
              exact QS.fin (.inl rfl) rfl (.agg ag_31 rfl (D1 L0) H8 (.tmp (D1 L1) (.tmp (D1 L2) (.tmp (D1 L3) .nil)))) (none, 0) (by rw [hm, hr]; rfl) (.dr (.dr (.dr (.dr (.dr (.dr (.dr (.dr (.dr .nil))))))))) (fun w _ _ => by rw [hm]; exact Rd.nil)
            ·
             refine W.del (.dr .rf) (W.skip (QS.next (W.region ?_)))
             refine WL.st (R.mv (.t L7)) rfl ?_
             refine WL.st (R.fa fo_59_3 (.t L4)) rfl ?_
             refine WL.st (R.ld sc_3 (.t L0) H4 rfl) rfl ?_
             refine WL.st (R.sls st_9 (.t L2) (.yes (.t L0) hn) .no (a := nn) (b := k.s.length) (by omega) (Nat.le_refl _) (r := k.s.drop nn) (by exact List.take_of_length_le (by simp))) rfl ?_
             refine WL.as (.t L0) (E1 U1) rfl ?_
             refine WL.nil (QS.blkn (QS.blkn (QS.next (W.del (.dr (.dr (.dr (.dr .rf)))) (W.region ?_)))))
             refine WL.st (R.add (.t L4) .c (wi (by omega) (by omega))) rfl ?_
             refine WL.up (R.mv (.t L0)) U5 rfl ?_
             refine WL.nil ?_
             have hpt : (placeS k x57.1.kind x57.1.widths.length).1 = true := by rw [hsp.1]; rw [if_neg hg82]; simpa using h5
             have htx : (textsS (placeS k x57.1.kind x57.1.widths.length).2 x57.1.kind x57.1.n).1 = true := by rw [texts_1 (by omega) (by rw [hpl0.1]; omega), hpl0.1, hnn]; simpa using h8
             have hst0 := look_0 h4t hpt htx
             have hk2 : (stepS k x57.1).2 = { (textsS (placeS k x57.1.kind x57.1.widths.length).2 x57.1.kind x57.1.n).2 with last := x57.1.kind } := by rw [hst0]
             have hns : (stepS k x57.1).2.s = k.s.drop nn := by rw [hk2]; dsimp only; rw [texts_1 (by omega) (by rw [hpl0.1]; omega)]; dsimp only; rw [hpl0.1, hnn]
             have hnl : (stepS k x57.1).2.last = x57.1.kind := by rw [hk2]
             have hz : (stepS k x57.1).1 = 0 := by rw [hst0]
             have hn2 := step_ok ok hz
             have hsk := step_keep hst0
             have hsim2 : Sim (stepS k x57.1).2 (machStep m x57.1.kind x57.1.widths.length).2 x57.1.kind := by
               have h := hsp.2 hpt
               rw [if_neg hg82] at h
               rw [hk2]; exact sim_texts h rfl
             have hlv2 : LvB (machStep m x57.1.kind x57.1.widths.length).2 ((j + 1 : Nat) : Int) := by
               have h := lvb_step (m := m) (kind := x57.1.kind) (wl := x57.1.widths.length) (x := (j : Int)) (by omega) hlvb; rw [show ((j + 1 : Nat) : Int) = (j : Int) + 1 by omega]; exact h
             have hfin : j + 1 = (instrsS b).1.length → (stepS k x57.1).2.depth = 0 := fun hh => halt_next ok hz (last_15 (by omega) hqj hh)
             have hsl : (stepS k x57.1).2.s.length ≤ 16384 := by have := hn2.s; omega
             have hrn := run_next hi1 hqj hz
             rw [if_neg (show ¬ (x57.1.kind = 3 ∨ x57.1.kind = 4) by omega)] at hrn
             rw [if_neg (show ¬ x57.1.kind = 8 by omega)] at hrn
             exact QS.at ⟨(((stepS k x57.1).2, (machStep m x57.1.kind x57.1.widths.length).2, ds ++ [(k.depth : Int)], nl, np, max ns (stepS k x57.1).2.depth, max st k.depth, j + 1), (A63, c63), x99.1, x99.2), ⟨hrn, hn2.ok, by dsimp only; omega, by simp; omega, by dsimp only; omega, by dsimp only; omega, by dsimp only; omega, by dsimp only; omega, hsl⟩, by dsimp only; rw [hnl]; exact hsim2, hlv2, by dsimp only; omega, by dsimp only; omega, hsk.1.trans hj12, hsk.2.trans hj13, hfin⟩ (show M.length - (j + 1) < M.length - j by omega) (.dr (.dr (.dr (.dr (.dr (.kp rfl (.kp rfl (.kp rfl (.kp (congrArg str hns.symm) (.kp rfl (.kp rfl (.kp rfl (.kp rfl (.kp rfl (.kp rfl (.kp rfl (.kp rfl (.kp rfl (.kp (by simp) .nil))))))))))))))))))) (.kp rfl (.kp rfl (.kp rfl (.dr (.dr (.kp (by simp [icells]) (.kp rfl (.kp rfl (.kp rfl .nil))))))))) (fun w h hd => ⟨h.1.1.1.1, h.1.1.1.2.1, h.1.1.1.2.2⟩)
          ·
           refine W.del (.dr .rf) (W.seq (W.seq (W.region ?_)))
           refine WL.st (R.eqi (.t L0) .c) rfl ?_
           refine WL.st (R.as (.t L0)) rfl ?_
           refine WL.nil (QS.next (W.del (.kp (.dr .rf)) ?_))
           refine W.cd (.t L0) (fun h9 => ?_) (fun h9 => ?_)
           ·
            refine W.skip (QS.next ?_)
            refine W.cdt (.t L0) h9 ?_
            refine W.del (.dr (.dr .rf)) (W.region ?_)
            refine WL.st (R.fa fo_31_2 (.t (D1 L3))) rfl ?_
            refine WL.st (R.ld sc_3 (.t L0) H6 rfl) rfl ?_
            refine WL.st (R.add (.t L0) .c (wi (by omega) (by omega))) rfl ?_
            refine WL.st (R.fa fo_31_2 (.t (D1 L6))) rfl ?_
            refine WL.sto sz_3 (.t L0) (.t L1) rfl rfl rfl C6 (by repeat constructor) ?_
            refine WL.nil (QS.blkn (QS.blkn (QS.next (W.del (.dr (.dr (.dr (.dr .rf)))) (W.region ?_)))))
            refine WL.st (R.add (.t L2) .c (wi (by omega) (by omega))) rfl ?_
            refine WL.up (R.mv (.t L0)) U3 rfl ?_
            refine WL.nil ?_
            have hpt : (placeS k x57.1.kind x57.1.widths.length).1 = true := by rw [hsp.1]; rw [if_neg hg82]; simpa using h5
            have htx : (textsS (placeS k x57.1.kind x57.1.widths.length).2 x57.1.kind x57.1.n).1 = true := by rw [texts_no (by omega) (by omega)]
            have hst0 := look_0 h4t hpt htx
            have hk2 : (stepS k x57.1).2 = { (textsS (placeS k x57.1.kind x57.1.widths.length).2 x57.1.kind x57.1.n).2 with last := x57.1.kind } := by rw [hst0]
            have hns : (stepS k x57.1).2.s = k.s := by rw [hk2]; dsimp only; rw [texts_no (by omega) (by omega)]; exact hpl0.1
            have hnl : (stepS k x57.1).2.last = x57.1.kind := by rw [hk2]
            have hz : (stepS k x57.1).1 = 0 := by rw [hst0]
            have hn2 := step_ok ok hz
            have hsk := step_keep hst0
            have hsim2 : Sim (stepS k x57.1).2 (machStep m x57.1.kind x57.1.widths.length).2 x57.1.kind := by
              have h := hsp.2 hpt
              rw [if_neg hg82] at h
              rw [hk2]; exact sim_texts h rfl
            have hlv2 : LvB (machStep m x57.1.kind x57.1.widths.length).2 ((j + 1 : Nat) : Int) := by
              have h := lvb_step (m := m) (kind := x57.1.kind) (wl := x57.1.widths.length) (x := (j : Int)) (by omega) hlvb; rw [show ((j + 1 : Nat) : Int) = (j : Int) + 1 by omega]; exact h
            have hfin : j + 1 = (instrsS b).1.length → (stepS k x57.1).2.depth = 0 := fun hh => halt_next ok hz (last_15 (by omega) hqj hh)
            have hsl : (stepS k x57.1).2.s.length ≤ 16384 := by have := hn2.s; omega
            have hrn := run_next hi1 hqj hz
            rw [if_pos (show x57.1.kind = 3 ∨ x57.1.kind = 4 by omega)] at hrn
            rw [if_neg (show ¬ x57.1.kind = 8 by omega)] at hrn
            exact QS.at ⟨(((stepS k x57.1).2, (machStep m x57.1.kind x57.1.widths.length).2, ds ++ [(k.depth : Int)], nl + 1, np, max ns (stepS k x57.1).2.depth, max st k.depth, j + 1), (A63, c63), x99.1, x99.2), ⟨hrn, hn2.ok, by dsimp only; omega, by simp; omega, by dsimp only; omega, by dsimp only; omega, by dsimp only; omega, by dsimp only; omega, hsl⟩, by dsimp only; rw [hnl]; exact hsim2, hlv2, by dsimp only; omega, by dsimp only; omega, hsk.1.trans hj12, hsk.2.trans hj13, hfin⟩ (show M.length - (j + 1) < M.length - j by omega) (.dr (.dr (.dr (.kp rfl (.kp rfl (.kp rfl (.kp (congrArg str hns.symm) (.kp rfl (.kp rfl (.kp rfl (.kp rfl (.kp rfl (.kp rfl (.kp rfl (.kp rfl (.kp rfl (.kp (by simp) .nil))))))))))))))))) (.kp rfl (.kp rfl (.kp rfl (.dr (.dr (.kp (by simp [icells]) (.kp rfl (.kp rfl (.kp rfl .nil))))))))) (fun w h hd => ⟨h.1.1.1.1, h.1.1.1.2.1, h.1.1.1.2.2⟩)
           ·
            refine W.region ?_
            refine WL.st (R.eqi (.t L1) .c) rfl ?_
            refine WL.as (.t L0) U1 rfl ?_
            refine WL.nil (QS.next (W.del (.dr .rf) ?_))
            refine W.cd (.t L0) (fun h10 => ?_) (fun h10 => ?_)
            ·
             refine W.del (.dr (.dr .rf)) (W.region ?_)
             refine WL.st (R.fa fo_31_2 (.t (D1 L3))) rfl ?_
             refine WL.st (R.ld sc_3 (.t L0) H6 rfl) rfl ?_
             refine WL.st (R.add (.t L0) .c (wi (by omega) (by omega))) rfl ?_
             refine WL.st (R.fa fo_31_2 (.t (D1 L6))) rfl ?_
             refine WL.sto sz_3 (.t L0) (.t L1) rfl rfl rfl C6 (by repeat constructor) ?_
             refine WL.nil (QS.blkn (QS.blkn (QS.next (W.del (.dr (.dr (.dr (.dr .rf)))) (W.region ?_)))))
             refine WL.st (R.add (.t L2) .c (wi (by omega) (by omega))) rfl ?_
             refine WL.up (R.mv (.t L0)) U3 rfl ?_
             refine WL.nil ?_
             have hpt : (placeS k x57.1.kind x57.1.widths.length).1 = true := by rw [hsp.1]; rw [if_neg hg82]; simpa using h5
             have htx : (textsS (placeS k x57.1.kind x57.1.widths.length).2 x57.1.kind x57.1.n).1 = true := by rw [texts_no (by omega) (by omega)]
             have hst0 := look_0 h4t hpt htx
             have hk2 : (stepS k x57.1).2 = { (textsS (placeS k x57.1.kind x57.1.widths.length).2 x57.1.kind x57.1.n).2 with last := x57.1.kind } := by rw [hst0]
             have hns : (stepS k x57.1).2.s = k.s := by rw [hk2]; dsimp only; rw [texts_no (by omega) (by omega)]; exact hpl0.1
             have hnl : (stepS k x57.1).2.last = x57.1.kind := by rw [hk2]
             have hz : (stepS k x57.1).1 = 0 := by rw [hst0]
             have hn2 := step_ok ok hz
             have hsk := step_keep hst0
             have hsim2 : Sim (stepS k x57.1).2 (machStep m x57.1.kind x57.1.widths.length).2 x57.1.kind := by
               have h := hsp.2 hpt
               rw [if_neg hg82] at h
               rw [hk2]; exact sim_texts h rfl
             have hlv2 : LvB (machStep m x57.1.kind x57.1.widths.length).2 ((j + 1 : Nat) : Int) := by
               have h := lvb_step (m := m) (kind := x57.1.kind) (wl := x57.1.widths.length) (x := (j : Int)) (by omega) hlvb; rw [show ((j + 1 : Nat) : Int) = (j : Int) + 1 by omega]; exact h
             have hfin : j + 1 = (instrsS b).1.length → (stepS k x57.1).2.depth = 0 := fun hh => halt_next ok hz (last_15 (by omega) hqj hh)
             have hsl : (stepS k x57.1).2.s.length ≤ 16384 := by have := hn2.s; omega
             have hrn := run_next hi1 hqj hz
             rw [if_pos (show x57.1.kind = 3 ∨ x57.1.kind = 4 by omega)] at hrn
             rw [if_neg (show ¬ x57.1.kind = 8 by omega)] at hrn
             exact QS.at ⟨(((stepS k x57.1).2, (machStep m x57.1.kind x57.1.widths.length).2, ds ++ [(k.depth : Int)], nl + 1, np, max ns (stepS k x57.1).2.depth, max st k.depth, j + 1), (A63, c63), x99.1, x99.2), ⟨hrn, hn2.ok, by dsimp only; omega, by simp; omega, by dsimp only; omega, by dsimp only; omega, by dsimp only; omega, by dsimp only; omega, hsl⟩, by dsimp only; rw [hnl]; exact hsim2, hlv2, by dsimp only; omega, by dsimp only; omega, hsk.1.trans hj12, hsk.2.trans hj13, hfin⟩ (show M.length - (j + 1) < M.length - j by omega) (.dr (.dr (.dr (.kp rfl (.kp rfl (.kp rfl (.kp (congrArg str hns.symm) (.kp rfl (.kp rfl (.kp rfl (.kp rfl (.kp rfl (.kp rfl (.kp rfl (.kp rfl (.kp rfl (.kp (by simp) .nil))))))))))))))))) (.kp rfl (.kp rfl (.kp rfl (.dr (.dr (.kp (by simp [icells]) (.kp rfl (.kp rfl (.kp rfl .nil))))))))) (fun w h hd => ⟨h.1.1.1.1, h.1.1.1.2.1, h.1.1.1.2.2⟩)
            ·
             refine W.del (.dr .rf) (W.seq (W.region ?_))
             refine WL.st (R.eqi (.t L0) .c) rfl ?_
             refine WL.st (R.as (.t L0)) rfl ?_
             refine WL.nil (QS.next (W.del (.kp (.dr .rf)) ?_))
             refine W.cd (.t L0) (fun h11 => ?_) (fun h11 => ?_)
             ·
              refine W.del (.dr (.dr .rf)) (W.region ?_)
              refine WL.st (R.fa fo_31_3 (.t (D1 L3))) rfl ?_
              refine WL.st (R.ld sc_3 (.t L0) H6 rfl) rfl ?_
              refine WL.st (R.add (.t L0) .c (wi (by omega) (by omega))) rfl ?_
              refine WL.st (R.fa fo_31_3 (.t (D1 L6))) rfl ?_
              refine WL.sto sz_3 (.t L0) (.t L1) rfl rfl rfl C6 (by repeat constructor) ?_
              refine WL.nil (QS.blkn (QS.blkn (QS.next (W.del (.dr (.dr (.dr (.dr .rf)))) (W.region ?_)))))
              refine WL.st (R.add (.t L2) .c (wi (by omega) (by omega))) rfl ?_
              refine WL.up (R.mv (.t L0)) U3 rfl ?_
              refine WL.nil ?_
              have hpt : (placeS k x57.1.kind x57.1.widths.length).1 = true := by rw [hsp.1]; rw [if_neg hg82]; simpa using h5
              have htx : (textsS (placeS k x57.1.kind x57.1.widths.length).2 x57.1.kind x57.1.n).1 = true := by rw [texts_no (by omega) (by omega)]
              have hst0 := look_0 h4t hpt htx
              have hk2 : (stepS k x57.1).2 = { (textsS (placeS k x57.1.kind x57.1.widths.length).2 x57.1.kind x57.1.n).2 with last := x57.1.kind } := by rw [hst0]
              have hns : (stepS k x57.1).2.s = k.s := by rw [hk2]; dsimp only; rw [texts_no (by omega) (by omega)]; exact hpl0.1
              have hnl : (stepS k x57.1).2.last = x57.1.kind := by rw [hk2]
              have hz : (stepS k x57.1).1 = 0 := by rw [hst0]
              have hn2 := step_ok ok hz
              have hsk := step_keep hst0
              have hsim2 : Sim (stepS k x57.1).2 (machStep m x57.1.kind x57.1.widths.length).2 x57.1.kind := by
                have h := hsp.2 hpt
                rw [if_neg hg82] at h
                rw [hk2]; exact sim_texts h rfl
              have hlv2 : LvB (machStep m x57.1.kind x57.1.widths.length).2 ((j + 1 : Nat) : Int) := by
                have h := lvb_step (m := m) (kind := x57.1.kind) (wl := x57.1.widths.length) (x := (j : Int)) (by omega) hlvb; rw [show ((j + 1 : Nat) : Int) = (j : Int) + 1 by omega]; exact h
              have hfin : j + 1 = (instrsS b).1.length → (stepS k x57.1).2.depth = 0 := fun hh => halt_next ok hz (last_15 (by omega) hqj hh)
              have hsl : (stepS k x57.1).2.s.length ≤ 16384 := by have := hn2.s; omega
              have hrn := run_next hi1 hqj hz
              rw [if_neg (show ¬ (x57.1.kind = 3 ∨ x57.1.kind = 4) by omega)] at hrn
              rw [if_pos (show x57.1.kind = 8 by omega)] at hrn
              exact QS.at ⟨(((stepS k x57.1).2, (machStep m x57.1.kind x57.1.widths.length).2, ds ++ [(k.depth : Int)], nl, np + 1, max ns (stepS k x57.1).2.depth, max st k.depth, j + 1), (A63, c63), x99.1, x99.2), ⟨hrn, hn2.ok, by dsimp only; omega, by simp; omega, by dsimp only; omega, by dsimp only; omega, by dsimp only; omega, by dsimp only; omega, hsl⟩, by dsimp only; rw [hnl]; exact hsim2, hlv2, by dsimp only; omega, by dsimp only; omega, hsk.1.trans hj12, hsk.2.trans hj13, hfin⟩ (show M.length - (j + 1) < M.length - j by omega) (.dr (.dr (.dr (.kp rfl (.kp rfl (.kp rfl (.kp (congrArg str hns.symm) (.kp rfl (.kp rfl (.kp rfl (.kp rfl (.kp rfl (.kp rfl (.kp rfl (.kp rfl (.kp rfl (.kp (by simp) .nil))))))))))))))))) (.kp rfl (.kp rfl (.kp rfl (.dr (.dr (.kp (by simp [icells]) (.kp rfl (.kp rfl (.kp rfl .nil))))))))) (fun w h hd => ⟨h.1.1.1.1, h.1.1.1.2.1, h.1.1.1.2.2⟩)
             ·
              refine W.del (.dr .rf) (W.seq (W.region ?_))
              refine WL.st (R.eqi (.t L0) .c) rfl ?_
              refine WL.st (R.as (.t L0)) rfl ?_
              refine WL.nil (QS.next (W.del (.kp (.dr (.dr .rf))) ?_))
              refine W.cd (.t L0) (fun h12 => ?_) (fun h12 => ?_)
              ·
               exfalso; omega
              ·
               refine W.del (.dr .rf) (W.skip (QS.blkn (QS.blkn (QS.next (W.region ?_)))))
               refine WL.st (R.add (.t L2) .c (wi (by omega) (by omega))) rfl ?_
               refine WL.up (R.mv (.t L0)) U3 rfl ?_
               refine WL.nil ?_
               have hpt : (placeS k x57.1.kind x57.1.widths.length).1 = true := by rw [hsp.1]; rw [if_neg hg82]; simpa using h5
               have htx : (textsS (placeS k x57.1.kind x57.1.widths.length).2 x57.1.kind x57.1.n).1 = true := by rw [texts_no (by omega) (by omega)]
               have hst0 := look_0 h4t hpt htx
               have hk2 : (stepS k x57.1).2 = { (textsS (placeS k x57.1.kind x57.1.widths.length).2 x57.1.kind x57.1.n).2 with last := x57.1.kind } := by rw [hst0]
               have hns : (stepS k x57.1).2.s = k.s := by rw [hk2]; dsimp only; rw [texts_no (by omega) (by omega)]; exact hpl0.1
               have hnl : (stepS k x57.1).2.last = x57.1.kind := by rw [hk2]
               have hz : (stepS k x57.1).1 = 0 := by rw [hst0]
               have hn2 := step_ok ok hz
               have hsk := step_keep hst0
               have hsim2 : Sim (stepS k x57.1).2 (machStep m x57.1.kind x57.1.widths.length).2 x57.1.kind := by
                 have h := hsp.2 hpt
                 rw [if_neg hg82] at h
                 rw [hk2]; exact sim_texts h rfl
               have hlv2 : LvB (machStep m x57.1.kind x57.1.widths.length).2 ((j + 1 : Nat) : Int) := by
                 have h := lvb_step (m := m) (kind := x57.1.kind) (wl := x57.1.widths.length) (x := (j : Int)) (by omega) hlvb; rw [show ((j + 1 : Nat) : Int) = (j : Int) + 1 by omega]; exact h
               have hfin : j + 1 = (instrsS b).1.length → (stepS k x57.1).2.depth = 0 := fun hh => halt_next ok hz (last_15 (by omega) hqj hh)
               have hsl : (stepS k x57.1).2.s.length ≤ 16384 := by have := hn2.s; omega
               have hrn := run_next hi1 hqj hz
               rw [if_neg (show ¬ (x57.1.kind = 3 ∨ x57.1.kind = 4) by omega)] at hrn
               rw [if_neg (show ¬ x57.1.kind = 8 by omega)] at hrn
               exact QS.at ⟨(((stepS k x57.1).2, (machStep m x57.1.kind x57.1.widths.length).2, ds ++ [(k.depth : Int)], nl, np, max ns (stepS k x57.1).2.depth, max st k.depth, j + 1), (A63, c63), x99.1, x99.2), ⟨hrn, hn2.ok, by dsimp only; omega, by simp; omega, by dsimp only; omega, by dsimp only; omega, by dsimp only; omega, by dsimp only; omega, hsl⟩, by dsimp only; rw [hnl]; exact hsim2, hlv2, by dsimp only; omega, by dsimp only; omega, hsk.1.trans hj12, hsk.2.trans hj13, hfin⟩ (show M.length - (j + 1) < M.length - j by omega) (.dr (.dr (.dr (.kp rfl (.kp rfl (.kp rfl (.kp (congrArg str hns.symm) (.kp rfl (.kp rfl (.kp rfl (.kp rfl (.kp rfl (.kp rfl (.kp rfl (.kp rfl (.kp rfl (.kp (by simp) .nil))))))))))))))))) (.kp rfl (.kp rfl (.kp rfl (.dr (.dr (.kp (by simp [icells]) (.kp rfl (.kp rfl (.kp rfl .nil))))))))) (fun w h hd => ⟨h.1.1.1.1, h.1.1.1.2.1, h.1.1.1.2.2⟩)
        ·
         exfalso; omega
    ·
     refine W.del (.dr .rf) (W.exit (QS.thenx (QS.thenx (QS.blkx (QS.next (W.del (.dr (.dr (.dr .rf))) (W.seq (W.region ?_))))))))
     refine WL.st (R.lda ag_31 (.t L8) H4 (by repeat constructor)) rfl ?_
     refine WL.st (R.mv (.t (D1 L1))) rfl ?_
     refine WL.sto sz_31 (.t L5) (.t L1) rfl rfl rfl C6 (by repeat constructor) ?_
     refine WL.as (.t L0) U6 rfl ?_
     refine WL.as .c U7 rfl ?_
     refine WL.as .c U8 rfl ?_
     refine WL.nil (QS.next (W.del (.dr (.dr .rf)) (W.ret ?_)))
     have hd0 := hj14 (by omega)
     have hr := run_end hi1 (by omega)
     have hm : measS (runS b s sty tp) = ⟨((instrsS b).1.length : Int) - 1, s.length, nl, np, ns, ds, 0, 0⟩ := by rw [hr]; exact if_neg (show ¬ (0 : Int) ≠ 0 by decide)
     have hsn : st = ns := by omega
     exact QS.fin (.inl rfl) rfl (.agg ag_31 rfl L3 H6 (.tmp L4 (.tmp L5 (.tmp L6 .nil)))) (Ad, cd) (by rw [hm, hr, hsn]; rfl) (.dr (.dr (.dr (.dr (.dr (.dr (.dr .nil))))))) (fun w h hd => by rw [hm]; exact rowI hd.2.2.2.1 rfl rfl)

theorem ref17_Check {A : Option Addr} {b s : List UInt8} {c : Nat} {sty tp : Int} (hc : b.length ≤ c) (hl : b.length ≤ 140737488355328) (hs : s.length ≤ 140737488355328) {C : Cx} (hb : Hb C C.w0 [] (fun w => RdB w A b)) :
    Ret Tryd.prog 14 [.slice A b.length c, str s, .int .i64 sty, .int .i64 tp] C (.tuple #[.int .i64 (runS b s sty tp).at_, .int .i64 (runS b s sty tp).e]) := by
 refine Sp.enter (N := 26) (e := entryEnv [.slice A b.length c, str s, .int .i64 sty, .int .i64 tp] 0 14) Tryd.func14 rfl rfl (Nat.le_of_ble_eq_true rfl) (entry_ok (Nat.le_of_ble_eq_true rfl) (Nat.le_of_ble_eq_true rfl)) (entry_nd _ _) hb ?_
 show W _ _ _ _ _ [(0, .slice A b.length c), (1, str s), (2, .int .i64 sty), (3, .int .i64 tp), (4, undef), (5, undef), (6, undef), (7, undef), (8, undef), (9, undef), (10, undef), (11, undef), (12, undef), (13, undef)] _ _
 refine W.seq (W.region ?_)
 refine WL.as .c U8 rfl ?_
 refine WL.as .c U9 rfl ?_
 refine WL.nil (QS.next (W.seq (W.region ?_)))
 refine WL.st (R.mv (.t L0)) rfl ?_
 refine WL.st (R.mv (.t L2)) rfl ?_
 refine WL.st (R.mv (.t L4)) rfl ?_
 refine WL.st (R.mv (.t L6)) rfl ?_
 refine WL.call gf_45 .f (.cons (.t L3) (.cons (.t L2) (.cons (.t L1) (.cons (.t L0) .nil)))) .nil (fun w hb => (ref17_look hc hl hs hb)) rfl (fun x19 => ?_)
 refine WL.st (R.mv (.t L0)) rfl ?_
 refine WL.st (R.ex (.t L0) .here) rfl ?_
 refine WL.st (R.ex (.t L1) (.skip .here)) rfl ?_
 refine WL.st (R.ex (.t L2) (.skip (.skip .here))) rfl ?_
 refine WL.st (R.ex (.t L3) (.skip (.skip (.skip .here)))) rfl ?_
 refine WL.allocu z_31 (fun _ => (E1 (E1 U0))) rfl (fun g10 => ?_)
 refine WL.sto sz_31 (.t (D1 (D1 L0))) (.t L3) rfl rfl rfl C0 (by repeat constructor) ?_
 refine WL.as (.t L2) (E1 (E1 U1)) rfl ?_
 refine WL.as (.t L1) (E1 (E1 U2)) rfl ?_
 refine WL.as (.t L0) (E1 (E1 U3)) rfl ?_
 refine WL.nil (QS.next (W.del (.dr (.dr (.dr (.dr (.dr (.dr (.dr (.dr (.dr (.dr .rf)))))))))) (W.seq (W.region ?_))))
 refine WL.st (R.mv (.t (D1 L2))) rfl ?_
 refine WL.st (R.mv (.t (D1 L4))) rfl ?_
 refine WL.as (.t L1) (E1 U0) rfl ?_
 refine WL.as (.t L0) (E1 U1) rfl ?_
 refine WL.nil (QS.next (W.del (.dr (.dr .rf)) (W.ret ?_)))
 exact QS.fin (.inl rfl) rfl (.tmp L8 (.tmp L9 .nil)) () rfl (.dr .nil) (fun _ _ _ => trivial)

theorem meas_e {r : RunR} : (measS r).e = r.e := by unfold measS; split; rfl; (rename_i h; exact (Classical.not_not.1 h).symm)

theorem ref17_Measure {A : Option Addr} {b s : List UInt8} {c : Nat} {sty tp : Int} (hc : b.length ≤ c) (hl : b.length ≤ 140737488355328) (hs : s.length ≤ 140737488355328) {C : Cx} (hb : Hb C C.w0 [] (fun w => RdB w A b)) :
    Ret Tryd.prog 16 [.slice A b.length c, str s, .int .i64 sty, .int .i64 tp] C (.tuple #[.agg #[.int .i64 (measS (runS b s sty tp)).ni, .int .i64 (measS (runS b s sty tp)).nb, .int .i64 (measS (runS b s sty tp)).nl, .int .i64 (measS (runS b s sty tp)).np, .int .i64 (measS (runS b s sty tp)).ns], .int .i64 (measS (runS b s sty tp)).e]) := by
 refine Sp.enter (N := 26) (e := entryEnv [.slice A b.length c, str s, .int .i64 sty, .int .i64 tp] 0 14) Tryd.func16 rfl rfl (Nat.le_of_ble_eq_true rfl) (entry_ok (Nat.le_of_ble_eq_true rfl) (Nat.le_of_ble_eq_true rfl)) (entry_nd _ _) hb ?_
 show W _ _ _ _ _ [(0, .slice A b.length c), (1, str s), (2, .int .i64 sty), (3, .int .i64 tp), (4, undef), (5, undef), (6, undef), (7, undef), (8, undef), (9, undef), (10, undef), (11, undef), (12, undef), (13, undef)] _ _
 refine W.seq (W.region ?_)
 refine WL.allocu z_31 (fun _ => U8) rfl (fun g8 => ?_)
 refine WL.as .c U9 rfl ?_
 refine WL.nil (QS.next (W.seq (W.region ?_)))
 refine WL.st (R.mv (.t L0)) rfl ?_
 refine WL.st (R.mv (.t L2)) rfl ?_
 refine WL.st (R.mv (.t L4)) rfl ?_
 refine WL.st (R.mv (.t L6)) rfl ?_
 refine WL.call gf_45 .f (.cons (.t L3) (.cons (.t L2) (.cons (.t L1) (.cons (.t L0) .nil)))) (.dr .nil) (fun w hb => (ref17_look hc hl hs hb)) rfl (fun x19 => ?_)
 refine WL.st (R.mv (.t L0)) rfl ?_
 refine WL.st (R.ex (.t L0) .here) rfl ?_
 refine WL.st (R.ex (.t L1) (.skip .here)) rfl ?_
 refine WL.st (R.ex (.t L2) (.skip (.skip .here))) rfl ?_
 refine WL.st (R.ex (.t L3) (.skip (.skip (.skip .here)))) rfl ?_
 refine WL.allocu z_31 (fun _ => (E1 (E1 U0))) rfl (fun g10 => ?_)
 refine WL.sto sz_31 (.t (D1 (D1 L0))) (.t L3) rfl rfl rfl C0 (by repeat constructor) ?_
 refine WL.as (.t L2) (E1 (E1 U1)) rfl ?_
 refine WL.as (.t L1) (E1 (E1 U2)) rfl ?_
 refine WL.as (.t L0) (E1 (E1 U3)) rfl ?_
 refine WL.nil (QS.next (W.del (.dr (.dr (.dr (.dr (.dr (.dr (.dr (.dr (.dr (.dr .rf)))))))))) (W.seq (W.region ?_))))
 refine WL.st (R.lda ag_31 (.t (D1 L0)) H0 (by repeat constructor)) rfl ?_
 refine WL.st (R.mv (.t (D1 L4))) rfl ?_
 refine WL.sto sz_31 (.t (D1 L0)) (.t L1) rfl rfl rfl C1 (by repeat constructor) ?_
 refine WL.as (.t L0) (E1 U1) rfl ?_
 refine WL.nil (QS.next (W.del (.dr (.dr .rf)) (W.ret ?_)))
 exact QS.fin (.inl rfl) rfl (.agg ag_31 rfl L8 H1 (.tmp L9 .nil)) () (by rw [meas_e]; rfl) (.dr (.dr .nil)) (fun _ _ _ => trivial)

theorem ref17_Depths {A : Option Addr} {b s : List UInt8} {c : Nat} {sty tp : Int} (hc : b.length ≤ c) (hl : b.length ≤ 140737488355328) (hs : s.length ≤ 140737488355328) {C : Cx} (hb : Hb C C.w0 [] (fun w => RdB w A b)) :
    Sp Tryd.prog 19 [.slice A b.length c, str s, .int .i64 sty, .int .i64 tp] C (ι := Option Addr × Nat) (fun x => .tuple #[.slice x.1 (measS (runS b s sty tp)).ds.length x.2, .int .i64 (measS (runS b s sty tp)).e]) (fun _ => []) (fun x w => RdI w x.1 (measS (runS b s sty tp)).ds) := by
 refine Sp.enter (N := 26) (e := entryEnv [.slice A b.length c, str s, .int .i64 sty, .int .i64 tp] 0 14) Tryd.func19 rfl rfl (Nat.le_of_ble_eq_true rfl) (entry_ok (Nat.le_of_ble_eq_true rfl) (Nat.le_of_ble_eq_true rfl)) (entry_nd _ _) hb ?_
 show W _ _ _ _ _ [(0, .slice A b.length c), (1, str s), (2, .int .i64 sty), (3, .int .i64 tp), (4, undef), (5, undef), (6, undef), (7, undef), (8, undef), (9, undef), (10, undef), (11, undef), (12, undef), (13, undef)] _ _
 refine W.seq (W.region ?_)
 refine WL.as .c U8 rfl ?_
 refine WL.as .c U9 rfl ?_
 refine WL.nil (QS.next (W.seq (W.region ?_)))
 refine WL.st (R.mv (.t L0)) rfl ?_
 refine WL.st (R.mv (.t L2)) rfl ?_
 refine WL.st (R.mv (.t L4)) rfl ?_
 refine WL.st (R.mv (.t L6)) rfl ?_
 refine WL.call gf_45 .f (.cons (.t L3) (.cons (.t L2) (.cons (.t L1) (.cons (.t L0) .nil)))) .nil (fun w hb => (ref17_look hc hl hs hb)) rfl (fun x19 => ?_)
 refine WL.st (R.mv (.t L0)) rfl ?_
 refine WL.st (R.ex (.t L0) .here) rfl ?_
 refine WL.st (R.ex (.t L1) (.skip .here)) rfl ?_
 refine WL.st (R.ex (.t L2) (.skip (.skip .here))) rfl ?_
 refine WL.st (R.ex (.t L3) (.skip (.skip (.skip .here)))) rfl ?_
 refine WL.allocu z_31 (fun _ => (E1 (E1 U0))) rfl (fun g10 => ?_)
 refine WL.sto sz_31 (.t (D1 (D1 L0))) (.t L3) rfl rfl rfl C0 (by repeat constructor) ?_
 refine WL.as (.t L2) (E1 (E1 U1)) rfl ?_
 refine WL.as (.t L1) (E1 (E1 U2)) rfl ?_
 refine WL.as (.t L0) (E1 (E1 U3)) rfl ?_
 refine WL.nil (QS.next (W.del (.dr (.dr (.dr (.dr (.dr (.dr (.dr (.dr (.dr (.dr .rf)))))))))) (W.seq (W.region ?_))))
 refine WL.st (R.mv (.t (D1 L1))) rfl ?_
 refine WL.st (R.mv (.t (D1 L4))) rfl ?_
 refine WL.as (.t L1) (E1 U0) rfl ?_
 refine WL.as (.t L0) (E1 U1) rfl ?_
 refine WL.nil (QS.next (W.del (.dr (.dr .rf)) (W.ret ?_)))
 exact QS.fin (.inl rfl) rfl (.tmp L8 (.tmp L9 .nil)) x19 (by rw [meas_e]; rfl) (.dr .nil) (fun w h _ => h.2)

theorem ref17_Links {A : Option Addr} {b : List UInt8} {c : Nat} (hc : b.length ≤ c) (hl : b.length ≤ 140737488355) {C : Cx} (hb : Hb C C.w0 [] (fun w => RdB w A b)) :
    Sp Tryd.prog 23 [.slice A b.length c] C (ι := Option Addr × Nat) (fun x => .slice x.1 (linksS b).length x.2) (fun _ => []) (fun x w => Rd w x.1 2 (linksS b).length (tcells (linksS b))) := by
 refine Sp.enter (N := 42) (e := entryEnv [.slice A b.length c] 0 7) Tryd.func23 rfl rfl (Nat.le_of_ble_eq_true rfl) (entry_ok (Nat.le_of_ble_eq_true rfl) (Nat.le_of_ble_eq_true rfl)) (entry_nd _ _) hb ?_
 show W _ _ _ _ _ [(0, .slice A b.length c), (1, undef), (2, undef), (3, undef), (4, undef), (5, undef), (6, undef)] _ _
 refine W.seq (W.region ?_)
 refine WL.as .c U2 rfl ?_
 refine WL.nil (QS.next (W.seq (W.region ?_)))
 refine WL.as .c U3 rfl ?_
 refine WL.nil (QS.next (W.seq (W.region ?_)))
 refine WL.as .c U4 rfl ?_
 refine WL.nil (QS.next (W.block ?_))
 refine W.nilrow 93 2 ?_
 refine W.loop (ι := {p : (List (Int × Int) × Nat × Nat) × Option Addr × Nat // p.1.1 ++ linksF p.1.2.2 b p.1.2.1 = linksS b ∧ b.length + 1 ≤ p.1.2.1 + p.1.2.2 ∧ p.1.2.1 ≤ b.length ∧ p.1.1.length ≤ p.1.2.1}) (fun x => [(0, .slice A b.length c), (2, .slice none 0 0), (3, .slice x.1.2.1 x.1.1.1.length x.1.2.2), (4, .int .i64 x.1.1.2.1)]) (fun x => [.row (.slice x.1.2.1 x.1.1.1.length x.1.2.2) 93 2 x.1.1.1.length (tcells x.1.1.1)]) (fun x w => RdB w A b) (fun x => b.length - x.1.1.2.1) ⟨(([], 0, b.length + 1), none, 0), rfl, by dsimp only; omega, Nat.zero_le _, Nat.le_refl _⟩ (.kp rfl (.dr (.kp rfl (.kp rfl (.kp rfl (.dr (.dr .nil))))))) (.kp rfl .nil) (fun w h hd => h) ?_
 intro x
 obtain ⟨⟨⟨o, k, f⟩, Al, cl⟩, hi1, hi2, hi3, hi4⟩ := x
 dsimp only at hi1 hi2 hi3 hi4
 cases f with
 | zero => exfalso; omega
 | succ f => ?_
 show W _ _ _ _ _ [(0, .slice A b.length c), (2, .slice none 0 0), (3, .slice Al o.length cl), (4, .int .i64 k)] [.row (.slice Al o.length cl) 93 2 o.length (tcells o)] (fun w => RdB w A b)
 refine W.block (W.seq (W.region ?_))
 refine WL.st (R.mv (.t L0)) rfl ?_
 refine WL.st (R.mv (.t L4)) rfl ?_
 refine WL.call gf_32 .f (.cons (.t L1) (.cons (.t L0) .nil)) (.dr .nil) (fun w hb => (ref16_Next hc (by omega) (hb.imp fun w h => h))) rfl (fun x10 => ?_)
 have hno := next_ok (b := b) (k := k)
 refine WL.st (R.mv (.t L0)) rfl ?_
 refine WL.st (R.ex (.t L0) .here) rfl ?_
 refine WL.st (R.ex (.t L1) (.skip .here)) rfl ?_
 refine WL.alloc z_59 rfl (fun g5 => ?_)
 refine WL.sto sz_59 (.t L0) (.t L2) rfl rfl rfl C0 (by repeat constructor) ?_
 refine WL.st (R.as (.t L1)) rfl ?_
 refine WL.nil (QS.next (W.del (.kp (.kp (.dr (.dr (.dr (.dr (.dr (.dr .rf)))))))) (W.seq (W.seq (W.region ?_)))))
 refine WL.st (R.mv (.t L0)) rfl ?_
 refine WL.st (R.nei (.t L0) .c) rfl ?_
 refine WL.st (R.mv (.t L0)) rfl ?_
 refine WL.cd L0 U0 U0 (fun hg15 => ?_) (fun hg15 => ?_)
 ·
  refine WL.gn rfl L0 rfl ?_
  refine WL.gn rfl L1 rfl ?_
  refine WL.gn rfl L2 rfl ?_
  refine WL.st (R.pkt (.t L3) .c) rfl ?_
  refine WL.nil (QS.next (W.del (.kp (.dr (.dr (.dr (.dr (.dr (.dr .rf))))))) (W.ct (.t L0) (W.del (.dr .rf) (W.seq (W.region ?_))))))
  refine WL.st (R.mv (.t L4)) rfl ?_
  refine WL.as (.t L0) U4 rfl ?_
  refine WL.nil (QS.next (W.del (.dr .rf) (W.ret (QS.thenr (QS.blkr (QS.thenr (QS.blkr ?_)))))))
  have hr := links_stop hi1 (by omega)
  exact QS.fin (.inl rfl) rfl (.tmp L3 .nil) (Al, cl) (by rw [hr]; rfl) (.dr (.dr .nil)) (fun w h hd => by rw [hr]; exact Rd.of_row hd.2.1)
 ·
  refine WL.gy rfl L0 (R.fa fo_59_2 (.t L4)) rfl ?_
  refine WL.gy rfl L1 (R.ld sc_57 (.t L0) H0 rfl) rfl ?_
  refine WL.gy rfl L2 (R.eqi (.t L0) .c) rfl ?_
  refine WL.st (R.pkf (.t L3) (.t L0)) rfl ?_
  refine WL.nil (QS.next (W.del (.kp (.dr (.dr (.dr (.dr (.dr (.dr .rf))))))) ?_))
  refine W.cd (.t L0) (fun h0 => ?_) (fun h0 => ?_)
  ·
   refine W.del (.dr .rf) (W.seq (W.region ?_))
   refine WL.st (R.mv (.t L4)) rfl ?_
   refine WL.as (.t L0) U4 rfl ?_
   refine WL.nil (QS.next (W.del (.dr .rf) (W.ret (QS.thenr (QS.blkr (QS.thenr (QS.blkr ?_)))))))
   have hr := links_stop hi1 (by omega)
   exact QS.fin (.inl rfl) rfl (.tmp L3 .nil) (Al, cl) (by rw [hr]; rfl) (.dr (.dr .nil)) (fun w h hd => by rw [hr]; exact Rd.of_row hd.2.1)
  ·
   refine W.del (.dr .rf) (W.skip (QS.next (W.seq (W.seq ?_))))
   have hno := hno (by omega)
   refine W.region ?_
   refine WL.st (R.fa fo_59_2 (.t L1)) rfl ?_
   refine WL.st (R.ld sc_57 (.t L0) H0 rfl) rfl ?_
   refine WL.st (R.eqi (.t L0) .c) rfl ?_
   refine WL.st (R.mv (.t L0)) rfl ?_
   refine WL.cd L0 U0 U0 (fun hg24 => ?_) (fun hg24 => ?_)
   ·
    refine WL.gn rfl L0 rfl ?_
    refine WL.gn rfl L1 rfl ?_
    refine WL.gn rfl L2 rfl ?_
    refine WL.st (R.pkt (.t L3) .c) rfl ?_
    refine WL.nil (QS.next (W.del (.kp (.dr (.dr (.dr (.dr (.dr (.dr (.dr .rf)))))))) (W.ct (.t L0) (W.del (.dr .rf) (W.region ?_)))))
    refine WL.st (R.mv (.t L4)) rfl ?_
    refine WL.st (R.fa fo_59_2 (.t L2)) rfl ?_
    refine WL.st (R.ld sc_57 (.t L0) H0 rfl) rfl ?_
    refine WL.st (R.sub (.t L0) .c (wi (by omega) (by omega))) rfl ?_
    refine WL.st (R.fa fo_59_3 (.t L5)) rfl ?_
    refine WL.st (R.ld sc_3 (.t L0) H0 rfl) rfl ?_
    refine WL.st (R.bld (z := [.int .i64 0, .int .i64 0]) Tryd.underlying93 (by kernel_rfl) z_93 (.cons fo_93_0 fz_93_0 rfl (.t L2) rfl (by repeat constructor) (.cons fo_93_1 fz_93_1 rfl (.t L0) rfl (by repeat constructor) .nil))) rfl ?_
    refine WL.bs1 sl_44 z_93 rfl (by decide) (by decide) (.t L0) rfl rfl rfl (fun g36 => ?_)
    refine WL.app' ap_44 (.t L7) (.t L0) (fun _ _ => C2) (fun w hb => Rd.of_blk (hb.has H0) rfl) rfl (by unfold maxLen; omega) (by omega) rfl (fun A37 c37 => ?_)
    refine WL.as (.t L0) (E1 U3) rfl ?_
    refine WL.nil (QS.next (W.del (.dr (.dr (.dr (.dr (.dr (.dr (.dr (.dr (.dr .rf))))))))) (W.region ?_)))
    refine WL.st (R.mv (.t L5)) rfl ?_
    refine WL.st (R.fa fo_59_1 (.t L2)) rfl ?_
    refine WL.st (R.ld sc_3 (.t L0) H1 rfl) rfl ?_
    refine WL.st (R.add (.t L2) (.t L0) (wi (by omega) (by omega))) rfl ?_
    refine WL.as (.t L0) U9 rfl ?_
    refine WL.nil (QS.blkn ?_)
    exact QS.at ⟨((o ++ [(0, (nextS b k).1.n)], k + (nextS b k).1.long.toNat, f), A37, c37), links_3 hi1 (by omega) (by omega), by dsimp only; omega, by dsimp only; omega, by dsimp only; first | omega | (simp; omega)⟩ (show b.length - (k + (nextS b k).1.long.toNat) < b.length - k by omega) (.dr (.dr (.dr (.dr (.dr (.dr (.kp rfl (.kp rfl (.kp (by simp) (.kp (congrArg (Value.int .i64) (show (k : Int) + (nextS b k).1.long = ((k + (nextS b k).1.long.toNat : Nat) : Int) by omega)) .nil)))))))))) (.dr (.dr (.kp (chunk_row (by simp) (by first | rfl | (rw [← tcells_snoc]; simp; done) | (rw [← tcells_snoc]; simp; omega))) .nil))) (fun w h hd => h.1)
   ·
    refine WL.gy rfl L0 (R.fa fo_59_2 (.t L5)) rfl ?_
    refine WL.gy rfl L1 (R.ld sc_57 (.t L0) H0 rfl) rfl ?_
    refine WL.gy rfl L2 (R.eqi (.t L0) .c) rfl ?_
    refine WL.st (R.pkf (.t L3) (.t L0)) rfl ?_
    refine WL.nil (QS.next (W.del (.kp (.dr (.dr (.dr (.dr (.dr (.dr (.dr .rf)))))))) ?_))
    refine W.cd (.t L0) (fun h1 => ?_) (fun h1 => ?_)
    ·
     refine W.del (.dr .rf) (W.region ?_)
     refine WL.st (R.mv (.t L4)) rfl ?_
     refine WL.st (R.fa fo_59_2 (.t L2)) rfl ?_
     refine WL.st (R.ld sc_57 (.t L0) H0 rfl) rfl ?_
     refine WL.st (R.sub (.t L0) .c (wi (by omega) (by omega))) rfl ?_
     refine WL.st (R.fa fo_59_3 (.t L5)) rfl ?_
     refine WL.st (R.ld sc_3 (.t L0) H0 rfl) rfl ?_
     refine WL.st (R.bld (z := [.int .i64 0, .int .i64 0]) Tryd.underlying93 (by kernel_rfl) z_93 (.cons fo_93_0 fz_93_0 rfl (.t L2) rfl (by repeat constructor) (.cons fo_93_1 fz_93_1 rfl (.t L0) rfl (by repeat constructor) .nil))) rfl ?_
     refine WL.bs1 sl_44 z_93 rfl (by decide) (by decide) (.t L0) rfl rfl rfl (fun g36 => ?_)
     refine WL.app' ap_44 (.t L7) (.t L0) (fun _ _ => C2) (fun w hb => Rd.of_blk (hb.has H0) rfl) rfl (by unfold maxLen; omega) (by omega) rfl (fun A37 c37 => ?_)
     refine WL.as (.t L0) (E1 U3) rfl ?_
     refine WL.nil (QS.next (W.del (.dr (.dr (.dr (.dr (.dr (.dr (.dr (.dr (.dr .rf))))))))) (W.region ?_)))
     refine WL.st (R.mv (.t L5)) rfl ?_
     refine WL.st (R.fa fo_59_1 (.t L2)) rfl ?_
     refine WL.st (R.ld sc_3 (.t L0) H1 rfl) rfl ?_
     refine WL.st (R.add (.t L2) (.t L0) (wi (by omega) (by omega))) rfl ?_
     refine WL.as (.t L0) U9 rfl ?_
     refine WL.nil (QS.blkn ?_)
     exact QS.at ⟨((o ++ [(1, (nextS b k).1.n)], k + (nextS b k).1.long.toNat, f), A37, c37), links_4 hi1 (by omega) (by omega), by dsimp only; omega, by dsimp only; omega, by dsimp only; first | omega | (simp; omega)⟩ (show b.length - (k + (nextS b k).1.long.toNat) < b.length - k by omega) (.dr (.dr (.dr (.dr (.dr (.dr (.kp rfl (.kp rfl (.kp (by simp) (.kp (congrArg (Value.int .i64) (show (k : Int) + (nextS b k).1.long = ((k + (nextS b k).1.long.toNat : Nat) : Int) by omega)) .nil)))))))))) (.dr (.dr (.kp (chunk_row (by simp) (by first | rfl | (rw [← tcells_snoc]; simp; done) | (rw [← tcells_snoc]; simp; omega))) .nil))) (fun w h hd => h.1)
    ·
     refine W.del (.dr .rf) (W.skip (QS.next (W.region ?_)))
     refine WL.st (R.mv (.t L5)) rfl ?_
     refine WL.st (R.fa fo_59_1 (.t L2)) rfl ?_
     refine WL.st (R.ld sc_3 (.t L0) H0 rfl) rfl ?_
     refine WL.st (R.add (.t L2) (.t L0) (wi (by omega) (by omega))) rfl ?_
     refine WL.as (.t L0) U9 rfl ?_
     refine WL.nil (QS.blkn ?_)
     exact QS.at ⟨((o, k + (nextS b k).1.long.toNat, f), Al, cl), links_next hi1 (by omega) (by omega) (by omega) (by omega), by dsimp only; omega, by dsimp only; omega, by dsimp only; first | omega | (simp; omega)⟩ (show b.length - (k + (nextS b k).1.long.toNat) < b.length - k by omega) (.dr (.dr (.dr (.dr (.dr (.dr (.kp rfl (.kp rfl (.kp rfl (.kp (congrArg (Value.int .i64) (show (k : Int) + (nextS b k).1.long = ((k + (nextS b k).1.long.toNat : Nat) : Int) by omega)) .nil)))))))))) (.dr (.kp rfl .nil)) (fun w h hd => h.1)

end Go.Proofs.YtpaecijilnfkhaaDoor
