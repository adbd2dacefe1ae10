/- Contracts: check.Check, Measure, Depths. -/
import Derived.Test.YtpaecijilnfkhaaDoorA5

namespace Go.Proofs.YtpaecijilnfkhaaDoor
open Go Go.Eng Go.RowKit
theorem check_Check {A : Option Addr} {b s : List UInt8} {c : Nat} {sty tp : Int} (hc : b.length ≤ c) (hl : b.length ≤ 140737488355328) (hs : s.length ≤ 140737488355328) {C : Cx} (hb : Hb C C.w0 [] (fun w => RdB w A b ∧ Lib.Utf8Tabs 4 5 w)) :
    Ret Tryd.prog 12 [.slice A b.length c, str s, .int .i64 sty, .int .i64 tp] C (.tuple #[.int .i64 (runS b s sty tp).at_, .int .i64 (runS b s sty tp).e]) := by
 refine Sp.enter (N := 26) (e := entryEnv [.slice A b.length c, str s, .int .i64 sty, .int .i64 tp] 0 14) Tryd.func12 rfl rfl (Nat.le_of_ble_eq_true rfl) (entry_ok (Nat.le_of_ble_eq_true rfl) (Nat.le_of_ble_eq_true rfl)) (entry_nd _ _) hb ?_
 show W _ _ _ _ _ [(0, .slice A b.length c), (1, str s), (2, .int .i64 sty), (3, .int .i64 tp), (4, undef), (5, undef), (6, undef), (7, undef), (8, undef), (9, undef), (10, undef), (11, undef), (12, undef), (13, undef)] _ _
 refine W.seq (W.region ?_)
 refine WL.as .c U8 rfl ?_
 refine WL.as .c U9 rfl ?_
 refine WL.nil (QS.next (W.seq (W.region ?_)))
 refine WL.st (R.mv (.t L0)) rfl ?_
 refine WL.st (R.mv (.t L2)) rfl ?_
 refine WL.st (R.mv (.t L4)) rfl ?_
 refine WL.st (R.mv (.t L6)) rfl ?_
 refine WL.call gf_44 .f (.cons (.t L3) (.cons (.t L2) (.cons (.t L1) (.cons (.t L0) .nil)))) .nil (fun w hb => (check_run hc hl hs hb)) rfl (fun x19 => ?_)
 refine WL.st (R.mv (.t L0)) rfl ?_
 refine WL.st (R.ex (.t L0) .here) rfl ?_
 refine WL.st (R.ex (.t L1) (.skip .here)) rfl ?_
 refine WL.st (R.ex (.t L2) (.skip (.skip .here))) rfl ?_
 refine WL.st (R.ex (.t L3) (.skip (.skip (.skip .here)))) rfl ?_
 refine WL.allocu z_31 (fun _ => (E1 (E1 U0))) rfl (fun g10 => ?_)
 refine WL.sto sz_31 (.t (D1 (D1 L0))) (.t L3) rfl rfl rfl C0 (by repeat constructor) ?_
 refine WL.as (.t L2) (E1 (E1 U1)) rfl ?_
 refine WL.as (.t L1) (E1 (E1 U2)) rfl ?_
 refine WL.as (.t L0) (E1 (E1 U3)) rfl ?_
 refine WL.nil (QS.next (W.del (.dr (.dr (.dr (.dr (.dr (.dr (.dr (.dr (.dr (.dr .rf)))))))))) (W.seq (W.region ?_))))
 refine WL.st (R.mv (.t (D1 L2))) rfl ?_
 refine WL.st (R.mv (.t (D1 L4))) rfl ?_
 refine WL.as (.t L1) (E1 U0) rfl ?_
 refine WL.as (.t L0) (E1 U1) rfl ?_
 refine WL.nil (QS.next (W.del (.dr (.dr .rf)) (W.ret ?_)))
 exact QS.fin (.inl rfl) rfl (.tmp L8 (.tmp L9 .nil)) () rfl (.dr .nil) (fun _ _ _ => trivial)

theorem check_Measure {A : Option Addr} {b s : List UInt8} {c : Nat} {sty tp : Int} (hc : b.length ≤ c) (hl : b.length ≤ 140737488355328) (hs : s.length ≤ 140737488355328) {C : Cx} (hb : Hb C C.w0 [] (fun w => RdB w A b ∧ Lib.Utf8Tabs 4 5 w)) :
    Ret Tryd.prog 15 [.slice A b.length c, str s, .int .i64 sty, .int .i64 tp] C (.tuple #[.agg #[.int .i64 (measS (runS b s sty tp)).ni, .int .i64 (measS (runS b s sty tp)).nb, .int .i64 (measS (runS b s sty tp)).nl, .int .i64 (measS (runS b s sty tp)).np, .int .i64 (measS (runS b s sty tp)).ns], .int .i64 (measS (runS b s sty tp)).e]) := by
 refine Sp.enter (N := 29) (e := entryEnv [.slice A b.length c, str s, .int .i64 sty, .int .i64 tp] 0 14) Tryd.func15 rfl rfl (Nat.le_of_ble_eq_true rfl) (entry_ok (Nat.le_of_ble_eq_true rfl) (Nat.le_of_ble_eq_true rfl)) (entry_nd _ _) hb ?_
 show W _ _ _ _ _ [(0, .slice A b.length c), (1, str s), (2, .int .i64 sty), (3, .int .i64 tp), (4, undef), (5, undef), (6, undef), (7, undef), (8, undef), (9, undef), (10, undef), (11, undef), (12, undef), (13, undef)] _ _
 refine W.seq (W.region ?_)
 refine WL.allocu z_31 (fun _ => U8) rfl (fun g8 => ?_)
 refine WL.as .c U9 rfl ?_
 refine WL.nil (QS.next (W.seq (W.region ?_)))
 refine WL.st (R.mv (.t L0)) rfl ?_
 refine WL.st (R.mv (.t L2)) rfl ?_
 refine WL.st (R.mv (.t L4)) rfl ?_
 refine WL.st (R.mv (.t L6)) rfl ?_
 refine WL.call gf_44 .f (.cons (.t L3) (.cons (.t L2) (.cons (.t L1) (.cons (.t L0) .nil)))) (.dr .nil) (fun w hb => (check_run hc hl hs hb)) rfl (fun x19 => ?_)
 refine WL.st (R.mv (.t L0)) rfl ?_
 refine WL.st (R.ex (.t L0) .here) rfl ?_
 refine WL.st (R.ex (.t L1) (.skip .here)) rfl ?_
 refine WL.st (R.ex (.t L2) (.skip (.skip .here))) rfl ?_
 refine WL.st (R.ex (.t L3) (.skip (.skip (.skip .here)))) rfl ?_
 refine WL.allocu z_31 (fun _ => (E1 (E1 U0))) rfl (fun g10 => ?_)
 refine WL.sto sz_31 (.t (D1 (D1 L0))) (.t L3) rfl rfl rfl C0 (by repeat constructor) ?_
 refine WL.as (.t L2) (E1 (E1 U1)) rfl ?_
 refine WL.as (.t L1) (E1 (E1 U2)) rfl ?_
 refine WL.as (.t L0) (E1 (E1 U3)) rfl ?_
 refine WL.nil (QS.next (W.del (.dr (.dr (.dr (.dr (.dr (.dr (.dr (.dr (.dr (.dr .rf)))))))))) (W.seq (W.seq (W.region ?_)))))
 refine WL.st (R.mv (.t (D1 L3))) rfl ?_
 refine WL.st (R.nei (.t L0) .c) rfl ?_
 refine WL.nil (QS.next (W.del (.kp (.dr .rf)) ?_))
 refine W.cd (.t L0) (fun h0 => ?_) (fun h0 => ?_)
 ·
  refine W.del (.dr .rf) (W.seq (W.region ?_))
  refine WL.st (R.bld (z := [.int .i64 0, .int .i64 0, .int .i64 0, .int .i64 0, .int .i64 0]) Tryd.underlying31 (by kernel_rfl) z_31 .nil) rfl ?_
  refine WL.st (R.mv (.t (D1 L4))) rfl ?_
  refine WL.sto sz_31 (.t (D1 L0)) (.t L1) rfl rfl rfl C1 (by repeat constructor) ?_
  refine WL.as (.t L0) (E1 U1) rfl ?_
  refine WL.nil (QS.next (W.del (.dr (.dr .rf)) (W.ret (QS.thenr ?_))))
  have hr : measS (runS b s sty tp) = ⟨0, 0, 0, 0, 0, [], 0, (runS b s sty tp).e⟩ := if_pos (by omega)
  exact QS.fin (.inl rfl) rfl (.agg ag_31 rfl L8 H1 (.tmp L9 .nil)) () (by rw [hr]; rfl) (.dr (.dr .nil)) (fun _ _ _ => trivial)
 ·
  refine W.del (.dr .rf) (W.skip (QS.next (W.seq (W.region ?_))))
  refine WL.st (R.lda ag_31 (.t (D1 L0)) H0 (by repeat constructor)) rfl ?_
  refine WL.sto sz_31 (.t L9) (.t L0) rfl rfl rfl C1 (by repeat constructor) ?_
  refine WL.as .c (E1 U0) rfl ?_
  refine WL.nil (QS.next (W.del (.dr .rf) (W.ret ?_)))
  have hr : measS (runS b s sty tp) = ⟨(runS b s sty tp).ni, (runS b s sty tp).nb, (runS b s sty tp).nl, (runS b s sty tp).np, (runS b s sty tp).ns, (runS b s sty tp).ds, (runS b s sty tp).at_, 0⟩ := if_neg (by omega)
  exact QS.fin (.inl rfl) rfl (.agg ag_31 rfl L8 H1 (.tmp L9 .nil)) () (by rw [hr]; rfl) (.dr (.dr .nil)) (fun _ _ _ => trivial)

theorem check_Depths {A : Option Addr} {b s : List UInt8} {c : Nat} {sty tp : Int} (hc : b.length ≤ c) (hl : b.length ≤ 140737488355328) (hs : s.length ≤ 140737488355328) {C : Cx} (hb : Hb C C.w0 [] (fun w => RdB w A b ∧ Lib.Utf8Tabs 4 5 w)) :
    Sp Tryd.prog 18 [.slice A b.length c, str s, .int .i64 sty, .int .i64 tp] C (ι := Option Addr × Nat) (fun x => .tuple #[.slice x.1 (measS (runS b s sty tp)).ds.length x.2, .int .i64 (measS (runS b s sty tp)).e]) (fun _ => []) (fun x w => RdI w x.1 (measS (runS b s sty tp)).ds) := by
 refine Sp.enter (N := 28) (e := entryEnv [.slice A b.length c, str s, .int .i64 sty, .int .i64 tp] 0 14) Tryd.func18 rfl rfl (Nat.le_of_ble_eq_true rfl) (entry_ok (Nat.le_of_ble_eq_true rfl) (Nat.le_of_ble_eq_true rfl)) (entry_nd _ _) hb ?_
 show W _ _ _ _ _ [(0, .slice A b.length c), (1, str s), (2, .int .i64 sty), (3, .int .i64 tp), (4, undef), (5, undef), (6, undef), (7, undef), (8, undef), (9, undef), (10, undef), (11, undef), (12, undef), (13, undef)] _ _
 refine W.seq (W.region ?_)
 refine WL.as .c U8 rfl ?_
 refine WL.as .c U9 rfl ?_
 refine WL.nil (QS.next (W.seq (W.region ?_)))
 refine WL.st (R.mv (.t L0)) rfl ?_
 refine WL.st (R.mv (.t L2)) rfl ?_
 refine WL.st (R.mv (.t L4)) rfl ?_
 refine WL.st (R.mv (.t L6)) rfl ?_
 refine WL.call gf_44 .f (.cons (.t L3) (.cons (.t L2) (.cons (.t L1) (.cons (.t L0) .nil)))) .nil (fun w hb => (check_run hc hl hs hb)) rfl (fun x19 => ?_)
 refine WL.st (R.mv (.t L0)) rfl ?_
 refine WL.st (R.ex (.t L0) .here) rfl ?_
 refine WL.st (R.ex (.t L1) (.skip .here)) rfl ?_
 refine WL.st (R.ex (.t L2) (.skip (.skip .here))) rfl ?_
 refine WL.st (R.ex (.t L3) (.skip (.skip (.skip .here)))) rfl ?_
 refine WL.allocu z_31 (fun _ => (E1 (E1 U0))) rfl (fun g10 => ?_)
 refine WL.sto sz_31 (.t (D1 (D1 L0))) (.t L3) rfl rfl rfl C0 (by repeat constructor) ?_
 refine WL.as (.t L2) (E1 (E1 U1)) rfl ?_
 refine WL.as (.t L1) (E1 (E1 U2)) rfl ?_
 refine WL.as (.t L0) (E1 (E1 U3)) rfl ?_
 refine WL.nil (QS.next (W.del (.dr (.dr (.dr (.dr (.dr (.dr (.dr (.dr (.dr (.dr .rf)))))))))) (W.seq (W.seq (W.region ?_)))))
 refine WL.st (R.mv (.t (D1 L3))) rfl ?_
 refine WL.st (R.nei (.t L0) .c) rfl ?_
 refine WL.nil (QS.next (W.del (.kp (.dr .rf)) ?_))
 refine W.cd (.t L0) (fun h0 => ?_) (fun h0 => ?_)
 ·
  refine W.del (.dr .rf) (W.seq (W.region ?_))
  refine WL.st (R.mv (.t (D1 L3))) rfl ?_
  refine WL.as .c U9 rfl ?_
  refine WL.as (.t L0) (E1 U0) rfl ?_
  refine WL.nil (QS.next (W.del (.dr .rf) (W.ret (QS.thenr ?_))))
  have hr : measS (runS b s sty tp) = ⟨0, 0, 0, 0, 0, [], 0, (runS b s sty tp).e⟩ := if_pos (by omega)
  exact QS.fin (.inl rfl) rfl (.tmp L8 (.tmp L9 .nil)) (none, 0) (by rw [hr]; rfl) (.dr .nil) (fun w _ _ => by rw [hr]; exact Rd.nil)
 ·
  refine W.del (.dr .rf) (W.skip (QS.next (W.seq (W.region ?_))))
  refine WL.st (R.mv (.t (D1 L1))) rfl ?_
  refine WL.as (.t L0) U9 rfl ?_
  refine WL.as .c (E1 U0) rfl ?_
  refine WL.nil (QS.next (W.del (.dr .rf) (W.ret ?_)))
  have hr : measS (runS b s sty tp) = ⟨(runS b s sty tp).ni, (runS b s sty tp).nb, (runS b s sty tp).nl, (runS b s sty tp).np, (runS b s sty tp).ns, (runS b s sty tp).ds, (runS b s sty tp).at_, 0⟩ := if_neg (by omega)
  exact QS.fin (.inl rfl) rfl (.tmp L8 (.tmp L9 .nil)) x19 (by rw [hr]; rfl) (.dr .nil) (fun w h _ => by rw [hr]; exact h.2)

end Go.Proofs.YtpaecijilnfkhaaDoor
