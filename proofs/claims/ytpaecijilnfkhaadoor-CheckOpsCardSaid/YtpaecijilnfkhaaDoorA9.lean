/- Contracts: the laws of chapter 17. -/
import Derived.Test.YtpaecijilnfkhaaDoorA8

namespace Go.Proofs.YtpaecijilnfkhaaDoor
open Go Go.Eng Go.RowKit
theorem aw1 : runS [128, 17, 144, 240] [97, 98] 0 0 = ⟨3, 2, 0, 1, 1, [0, 1, 1, 0], 0, 0⟩ := by kernel_rfl
theorem aw2 : (runS [128, 17, 144, 240] [97] 0 0).at_ = 1 ∧ (runS [128, 17, 144, 240] [97] 0 0).e = 171 := ⟨by kernel_rfl, by kernel_rfl⟩
theorem aw3 : (linksS [48, 240]).length = 1 := by kernel_rfl
theorem aw4 : measS (runS [128, 17, 144, 240] [97, 98] 0 0) = ⟨3, 2, 0, 1, 1, [0, 1, 1, 0], 0, 0⟩ := by kernel_rfl

theorem law17_awake  {C : Cx} (hb : Hb C C.w0 [] (fun w => Lib.Utf8Tabs 4 5 w)) :
    Ret Tryd.prog 11 [] C (.bool true) := by
 refine Sp.enter (N := 79) (e := entryEnv [] 0 10) Tryd.func11 rfl rfl (Nat.le_of_ble_eq_true rfl) (entry_ok (Nat.le_of_ble_eq_true rfl) (Nat.le_of_ble_eq_true rfl)) (entry_nd _ _) hb ?_
 show W _ _ _ _ _ [(0, undef), (1, undef), (2, undef), (3, undef), (4, undef), (5, undef), (6, undef), (7, undef), (8, undef), (9, undef)] _ _
 refine W.seq (W.region ?_)
 refine WL.as .c U0 rfl ?_
 refine WL.nil (QS.next (W.seq (W.region ?_)))
 refine WL.bsc sl_22 z_5 (by decide) (by decide) (pv := [(0, .int .u8 128), (1, .int .u8 17), (2, .int .u8 144), (3, .int .u8 240)]) (fun a => by simp [Act.eval]) (l := [.int .u8 128, .int .u8 17, .int .u8 144, .int .u8 240]) (by kernel_rfl) rfl (fun g10 => ?_)
 refine WL.weak (ks := []) (J := fun w => Lib.Utf8Tabs 4 5 w ∧ RdB w (some ⟨g10, 0, none⟩) [128, 17, 144, 240]) (.dr .nil) (fun w h hd => ⟨h, Rd.of_blk hd.1 rfl⟩) ?_
 refine WL.as (.t L0) U2 rfl ?_
 refine WL.nil (QS.next (W.del (.dr .rf) (W.seq (W.region ?_))))
 refine WL.st (R.mv (.t L1)) rfl ?_
 refine WL.callr gf_12 .f (.cons (.t L0) (.cons .c (.cons .c (.cons .c .nil)))) (fun w hb => (check_Check (b := [128, 17, 144, 240]) (s := [97, 98]) (by decide) (by decide) (by decide) (hb.imp fun _ h => ⟨h.2, h.1⟩))) rfl ?_
 refine WL.rw L0 (v' := .tuple #[.int .i64 0, .int .i64 0]) (by rw [aw1]) U0 ?_
 refine WL.st (R.mv (.t L0)) rfl ?_
 refine WL.st (R.ex (.t L0) .here) rfl ?_
 refine WL.st (R.ex (.t L1) (.skip .here)) rfl ?_
 refine WL.as (.t L1) U7 rfl ?_
 refine WL.as (.t L0) U8 rfl ?_
 refine WL.nil (QS.next (W.del (.dr (.dr (.dr (.dr (.dr .rf))))) (W.seq (W.region ?_))))
 refine WL.st (R.mv (.t L1)) rfl ?_
 refine WL.callr gf_12 .f (.cons (.t L0) (.cons .c (.cons .c (.cons .c .nil)))) (fun w hb => (check_Check (b := [128, 17, 144, 240]) (s := [97]) (by decide) (by decide) (by decide) (hb.imp fun _ h => ⟨h.2, h.1⟩))) rfl ?_
 refine WL.rw L0 (v' := .tuple #[.int .i64 1, .int .i64 171]) (by rw [aw2.1, aw2.2]) U0 ?_
 refine WL.st (R.mv (.t L0)) rfl ?_
 refine WL.st (R.ex (.t L0) .here) rfl ?_
 refine WL.st (R.ex (.t L1) (.skip .here)) rfl ?_
 refine WL.as (.t L1) U9 rfl ?_
 refine WL.as (.t L0) (E1 U0) rfl ?_
 refine WL.nil (QS.next (W.del (.dr (.dr (.dr (.dr (.dr .rf))))) (W.seq (W.region ?_))))
 refine WL.st (R.mv (.t L1)) rfl ?_
 refine WL.callr gf_15 .f (.cons (.t L0) (.cons .c (.cons .c (.cons .c .nil)))) (fun w hb => (check_Measure (b := [128, 17, 144, 240]) (s := [97, 98]) (by decide) (by decide) (by decide) (hb.imp fun _ h => ⟨h.2, h.1⟩))) rfl ?_
 refine WL.rw L0 (v' := .tuple #[.agg #[.int .i64 3, .int .i64 2, .int .i64 0, .int .i64 1, .int .i64 1], .int .i64 0]) (by rw [aw4]) U0 ?_
 refine WL.st (R.mv (.t L0)) rfl ?_
 refine WL.st (R.ex (.t L0) .here) rfl ?_
 refine WL.st (R.ex (.t L1) (.skip .here)) rfl ?_
 refine WL.allocu z_31 (fun _ => (E1 U1)) rfl (fun g6 => ?_)
 refine WL.sto sz_31 (.t (D1 L1)) (.t L1) rfl rfl rfl C0 (by repeat constructor) ?_
 refine WL.as (.t L0) (E1 U2) rfl ?_
 refine WL.nil (QS.next (W.del (.dr (.dr (.dr (.dr (.dr .rf))))) (W.seq (W.region ?_))))
 refine WL.st (R.mv (.t L1)) rfl ?_
 refine WL.call gf_18 .f (.cons (.t L0) (.cons .c (.cons .c (.cons .c .nil)))) (.dr .nil) (fun w hb => (check_Depths (b := [128, 17, 144, 240]) (s := [97, 98]) (by decide) (by decide) (by decide) (hb.imp fun _ h => ⟨h.2, h.1⟩))) rfl (fun x28 => ?_)
 refine WL.rw L0 (v' := .tuple #[.slice x28.1 4 x28.2, .int .i64 0]) (by rw [aw4]; rfl) U0 ?_
 refine WL.st (R.mv (.t L0)) rfl ?_
 refine WL.st (R.ex (.t L0) .here) rfl ?_
 refine WL.st (R.ex (.t L1) (.skip .here)) rfl ?_
 refine WL.as (.t L1) (E1 U3) rfl ?_
 refine WL.as (.t L0) (E1 U4) rfl ?_
 refine WL.nil (QS.next (W.del (.dr (.dr (.dr (.dr (.dr .rf))))) (W.seq (W.region ?_))))
 refine WL.st (R.mv (.t L2)) rfl ?_
 refine WL.st (R.eqi (.t L0) .c) rfl ?_
 refine WL.st (R.mv (.t L0)) rfl ?_
 refine WL.rw L0 (v' := .bool true) (congrArg Value.bool (decide_eq_true rfl)) U0 ?_
 refine WL.gy rfl L0 (R.mv (.t L6)) rfl ?_
 refine WL.gy rfl L1 (R.eqi (.t L0) .c) rfl ?_
 refine WL.st (R.pkt (.t L2) (.t L0)) rfl ?_
 refine WL.st (R.mv (.t L0)) rfl ?_
 refine WL.rw L0 (v' := .bool true) (congrArg Value.bool (decide_eq_true rfl)) U0 ?_
 refine WL.gy rfl L0 (R.mv (.t (D1 L1))) rfl ?_
 refine WL.gy rfl L1 (R.eqi (.t L0) .c) rfl ?_
 refine WL.st (R.pkt (.t L2) (.t L0)) rfl ?_
 refine WL.st (R.mv (.t L0)) rfl ?_
 refine WL.rw L0 (v' := .bool true) (congrArg Value.bool (decide_eq_true rfl)) U0 ?_
 refine WL.gy rfl L0 (R.mv (.t (D1 L6))) rfl ?_
 refine WL.gy rfl L1 (R.eqi (.t L0) .c) rfl ?_
 refine WL.st (R.pkt (.t L2) (.t L0)) rfl ?_
 refine WL.st (R.mv (.t L0)) rfl ?_
 refine WL.rw L0 (v' := .bool true) (congrArg Value.bool (decide_eq_true rfl)) U0 ?_
 refine WL.gy rfl L0 (R.fa fo_31_0 (.t (D1 (D1 L1)))) rfl ?_
 refine WL.gy rfl L1 (R.ld sc_3 (.t L0) H0 rfl) rfl ?_
 refine WL.gy rfl L2 (R.eqi (.t L0) .c) rfl ?_
 refine WL.st (R.pkt (.t L3) (.t L0)) rfl ?_
 refine WL.st (R.mv (.t L0)) rfl ?_
 refine WL.rw L0 (v' := .bool true) (congrArg Value.bool (decide_eq_true rfl)) U0 ?_
 refine WL.gy rfl L0 (R.fa fo_31_3 (.t (D1 (D1 L6)))) rfl ?_
 refine WL.gy rfl L1 (R.ld sc_3 (.t L0) H0 rfl) rfl ?_
 refine WL.gy rfl L2 (R.eqi (.t L0) .c) rfl ?_
 refine WL.st (R.pkt (.t L3) (.t L0)) rfl ?_
 refine WL.st (R.mv (.t L0)) rfl ?_
 refine WL.rw L0 (v' := .bool true) (congrArg Value.bool (decide_eq_true rfl)) U0 ?_
 refine WL.gy rfl L0 (R.fa fo_31_4 (.t (D1 (D1 (D1 L1))))) rfl ?_
 refine WL.gy rfl L1 (R.ld sc_3 (.t L0) H0 rfl) rfl ?_
 refine WL.gy rfl L2 (R.eqi (.t L0) .c) rfl ?_
 refine WL.st (R.pkt (.t L3) (.t L0)) rfl ?_
 refine WL.st (R.mv (.t L0)) rfl ?_
 refine WL.rw L0 (v' := .bool true) (congrArg Value.bool (decide_eq_true rfl)) U0 ?_
 refine WL.gy rfl L0 (R.mv (.t (D1 (D1 (D1 L7))))) rfl ?_
 refine WL.gy rfl L1 (R.eqi (.t L0) .c) rfl ?_
 refine WL.st (R.pkt (.t L2) (.t L0)) rfl ?_
 refine WL.st (R.mv (.t L0)) rfl ?_
 refine WL.rw L0 (v' := .bool true) (congrArg Value.bool (decide_eq_true rfl)) U0 ?_
 refine WL.gy rfl L0 (R.mv (.t (D1 (D1 (D1 (D1 L2)))))) rfl ?_
 refine WL.gyw rfl L1 ?_
 refine WL.bsc sl_37 z_3 (by decide) (by decide) (pv := [(0, .int .i64 0), (1, .int .i64 1), (2, .int .i64 1), (3, .int .i64 0)]) (fun a => by simp [Act.eval]) (l := [.int .i64 0, .int .i64 1, .int .i64 1, .int .i64 0]) (by kernel_rfl) rfl (fun g66 => ?_)
 refine WL.weak (J := fun w => ((Lib.Utf8Tabs 4 5 w ∧ RdB w (some ⟨g10, 0, none⟩) [128, 17, 144, 240]) ∧ RdI w x28.1 [0, 1, 1, 0]) ∧ RdI w (some ⟨g66, 0, none⟩) [0, 1, 1, 0]) (.dr (.kp rfl .nil)) (fun w h hd => ⟨by rw [aw4] at h; exact h, Rd.of_blk hd.1 rfl⟩) ?_
 refine WL.gyw rfl L2 ?_
 refine WL.callr gf_20 .f (.cons (.t L1) (.cons (.t L0) .nil)) (fun w hb => (ref09_Ints (l := [0, 1, 1, 0]) (m := [0, 1, 1, 0]) (by decide) (hb.imp fun _ h => ⟨h.1.2, h.2⟩))) rfl ?_
 refine WL.st (R.pkt (.t L3) (.t L0)) rfl ?_
 refine WL.st (R.mv (.t L0)) rfl ?_
 refine WL.rw L0 (v' := .bool true) (congrArg Value.bool (decide_eq_true rfl)) U0 ?_
 refine WL.gy rfl L0 (R.mv (.t (D1 (D1 (D1 (D1 L8)))))) rfl ?_
 refine WL.gy rfl L1 (R.eqi (.t L0) .c) rfl ?_
 refine WL.st (R.pkt (.t L2) (.t L0)) rfl ?_
 refine WL.st (R.mv (.t L0)) rfl ?_
 refine WL.rw L0 (v' := .bool true) (congrArg Value.bool (decide_eq_true rfl)) U0 ?_
 refine WL.gyw rfl L0 ?_
 refine WL.bsc sl_22 z_5 (by decide) (by decide) (pv := [(0, .int .u8 48), (1, .int .u8 240)]) (fun a => by simp [Act.eval]) (l := [.int .u8 48, .int .u8 240]) (by kernel_rfl) rfl (fun g74 => ?_)
 refine WL.weak (J := fun w => RdB w (some ⟨g74, 0, none⟩) [48, 240]) (.dr (.kp rfl .nil)) (fun w h hd => Rd.of_blk hd.1 rfl) ?_
 refine WL.gyw rfl L1 ?_
 refine WL.call gf_22 .f (.cons (.t L0) .nil) (.dr .nil) (fun w hb => (check_Links (b := [48, 240]) (by decide) (by decide) (hb.imp fun _ h => h))) rfl (fun x75 => ?_)
 refine WL.gy rfl L2 (R.lenl sl_44 (.t L0)) rfl ?_
 refine WL.gy rfl L3 (R.eqi (.t L0) .c) rfl ?_
 refine WL.st (R.pkt (.t L4) (.t L0)) rfl ?_
 refine WL.as (.t L0) (E1 (E1 (E1 (E1 U8)))) rfl ?_
 refine WL.nil (QS.next (W.del (.dr (.dr (.dr (.dr (.dr (.dr (.dr (.dr (.dr (.dr (.dr (.dr (.dr (.dr (.dr (.dr (.dr (.dr (.dr (.dr (.dr (.dr (.dr (.dr (.dr (.dr (.dr (.dr (.dr (.dr (.dr (.dr (.dr (.dr (.dr (.dr (.dr (.dr (.dr (.dr (.dr (.dr (.dr (.dr (.dr (.dr (.dr (.dr .rf)))))))))))))))))))))))))))))))))))))))))))))))) (W.ret ?_)))
 exact QS.fin (.inl rfl) rfl (.tmp L0 .nil) () (congrArg Value.bool (decide_eq_true (by rw [aw3]; rfl))) (.dr .nil) (fun _ _ _ => trivial)

end Go.Proofs.YtpaecijilnfkhaaDoor
