/- Contracts: octet. -/
import Derived.Test.YtpaecijilnfkhaaDoorTy
import Derived.Test.YtpaecijilnfkhaaDoorPl

namespace Go.Proofs.YtpaecijilnfkhaaDoor
open Go Go.Eng Go.RowKit
theorem octet_New {A : Option Addr} {c : Nat} {l : List UInt8} (hl : l.length ≤ 140737488355328) {C : Cx} (hb : Hb C C.w0 [] (fun w => RdB w A l)) :
    Sp Tryd.prog 55 [.slice A l.length c] C (ι := Nat × Nat) (fun x => .pointer (some ⟨x.1, 0, none⟩)) (fun x => [blk x.1 137 [.slice (some ⟨x.2, 0, none⟩) l.length l.length, .int .i64 0, .int .i64 0]]) (fun x w => RdB w (some ⟨x.2, 0, none⟩) l) := by
 refine Sp.enter (N := 16) (e := entryEnv [.slice A l.length c] 0 4) Tryd.func55 rfl rfl (Nat.le_of_ble_eq_true rfl) (entry_ok (Nat.le_of_ble_eq_true rfl) (Nat.le_of_ble_eq_true rfl)) (entry_nd _ _) hb ?_
 show W _ _ _ _ _ [(0, .slice A l.length c), (1, undef), (2, undef), (3, undef)] _ _
 refine W.seq (W.region ?_)
 refine WL.as .c U2 rfl ?_
 refine WL.nil (QS.next (W.seq (W.region ?_)))
 refine WL.st (R.mv (.t L0)) rfl ?_
 refine WL.st (R.lenl sl_22 (.t L0)) rfl ?_
 refine WL.mks ap_22 z_5 (.t L0) (.t L0) rfl rfl (Nat.le_refl _) (by omega) (by omega) rfl (fun g6 => ?_)
 refine WL.st (R.bld (z := [.slice none 0 0, .int .i64 0, .int .i64 0]) Tryd.underlying137 (by kernel_rfl) z_137 (.cons fo_137_0 fz_137_0 rfl (.t L0) rfl (by repeat constructor) .nil)) rfl ?_
 refine WL.box (.t L0) rfl rfl (fun g8 => ?_)
 refine WL.as (.t L0) U8 rfl ?_
 refine WL.nil (QS.next (W.del (.dr (.dr (.dr (.dr (.dr .rf))))) (W.seq (W.region ?_))))
 refine WL.st (R.mv (.t L3)) rfl ?_
 refine WL.st (R.nc (.t L0)) rfl ?_
 refine WL.st (R.fa fo_137_0 (.t L0)) rfl ?_
 refine WL.st (R.ld sc_22 (.t L0) H0 rfl) rfl ?_
 refine WL.st (R.mv (.t L4)) rfl ?_
 refine WL.cpyf sl_22 (.t L1) (.t L0) C1 (by simp) (fun w hb => hb.get) (bcells_one l) rfl ?_
 refine WL.nil (QS.next (W.del (.dr (.dr (.dr (.dr (.dr (.dr .rf)))))) (W.seq (W.region ?_))))
 refine WL.st (R.mv (.t L3)) rfl ?_
 refine WL.as (.t L0) U3 rfl ?_
 refine WL.nil (QS.next (W.del (.dr .rf) (W.ret ?_)))
 exact QS.fin (.inl rfl) rfl (.tmp L2 .nil) (g8, g6) rfl (.kp rfl (.dr .nil)) (fun w hI hd => Rd.of_blk hd.1 (by simp [bcells_length]))

theorem cur_Err {A : Option Addr} {n c g : Nat} {at_ er : Int} {C : Cx} (hb : Hb C C.w0 [blk g 137 [.slice A n c, .int .i64 at_, .int .i64 er]] (fun _ => True)) :
    Ret1 Tryd.prog 57 [.pointer (some ⟨g, 0, none⟩)] C (.int .i64 er) (blk g 137 [.slice A n c, .int .i64 at_, .int .i64 er]) := by
 refine Sp.enter (N := 9) (e := entryEnv [.pointer (some ⟨g, 0, none⟩)] 0 3) Tryd.func57 rfl rfl (Nat.le_of_ble_eq_true rfl) (entry_ok (Nat.le_of_ble_eq_true rfl) (Nat.le_of_ble_eq_true rfl)) (entry_nd _ _) hb ?_
 show W _ _ _ _ _ [(0, .pointer (some ⟨g, 0, none⟩)), (1, undef), (2, undef)] _ _
 refine W.seq (W.region ?_)
 refine WL.as .c U2 rfl ?_
 refine WL.nil (QS.next (W.seq (W.seq (W.region ?_))))
 refine WL.st (R.mv (.t L0)) rfl ?_
 refine WL.st (R.eqpn pt_111 (.t L0)) rfl ?_
 refine WL.nil (QS.next (W.del (.kp (.dr .rf)) (W.cf (.t L0) (W.del (.dr .rf) (W.skip (QS.next (W.seq (W.region ?_))))))))
 refine WL.st (R.mv (.t L0)) rfl ?_
 refine WL.st (R.nc (.t L0)) rfl ?_
 refine WL.st (R.fa fo_137_2 (.t L0)) rfl ?_
 refine WL.st (R.ld sc_24 (.t L0) H0 rfl) rfl ?_
 refine WL.as (.t L0) U6 rfl ?_
 refine WL.nil (QS.next (W.del (.dr (.dr (.dr (.dr .rf)))) (W.ret ?_)))
 exact QS.fin (.inl rfl) rfl (.tmp L2 .nil) () rfl (.kp rfl .nil) (fun _ _ _ => trivial)

theorem cur_At {A : Option Addr} {n c g : Nat} {at_ er : Int} {C : Cx} (hb : Hb C C.w0 [blk g 137 [.slice A n c, .int .i64 at_, .int .i64 er]] (fun _ => True)) :
    Ret1 Tryd.prog 58 [.pointer (some ⟨g, 0, none⟩)] C (.int .i64 at_) (blk g 137 [.slice A n c, .int .i64 at_, .int .i64 er]) := by
 refine Sp.enter (N := 9) (e := entryEnv [.pointer (some ⟨g, 0, none⟩)] 0 3) Tryd.func58 rfl rfl (Nat.le_of_ble_eq_true rfl) (entry_ok (Nat.le_of_ble_eq_true rfl) (Nat.le_of_ble_eq_true rfl)) (entry_nd _ _) hb ?_
 show W _ _ _ _ _ [(0, .pointer (some ⟨g, 0, none⟩)), (1, undef), (2, undef)] _ _
 refine W.seq (W.region ?_)
 refine WL.as .c U2 rfl ?_
 refine WL.nil (QS.next (W.seq (W.seq (W.region ?_))))
 refine WL.st (R.mv (.t L0)) rfl ?_
 refine WL.st (R.eqpn pt_111 (.t L0)) rfl ?_
 refine WL.nil (QS.next (W.del (.kp (.dr .rf)) (W.cf (.t L0) (W.del (.dr .rf) (W.skip (QS.next (W.seq (W.region ?_))))))))
 refine WL.st (R.mv (.t L0)) rfl ?_
 refine WL.st (R.nc (.t L0)) rfl ?_
 refine WL.st (R.fa fo_137_1 (.t L0)) rfl ?_
 refine WL.st (R.ld sc_3 (.t L0) H0 rfl) rfl ?_
 refine WL.as (.t L0) U6 rfl ?_
 refine WL.nil (QS.next (W.del (.dr (.dr (.dr (.dr .rf)))) (W.ret ?_)))
 exact QS.fin (.inl rfl) rfl (.tmp L2 .nil) () rfl (.kp rfl .nil) (fun _ _ _ => trivial)

theorem cur_Left {A : Option Addr} {n c g : Nat} {at_ er : Int} (h0 : 0 ≤ at_) (h1 : at_ ≤ n) (h2 : n ≤ 140737488355328) {C : Cx} (hb : Hb C C.w0 [blk g 137 [.slice A n c, .int .i64 at_, .int .i64 er]] (fun _ => True)) :
    Ret1 Tryd.prog 99 [.pointer (some ⟨g, 0, none⟩)] C (.int .i64 (n - at_)) (blk g 137 [.slice A n c, .int .i64 at_, .int .i64 er]) := by
 refine Sp.enter (N := 15) (e := entryEnv [.pointer (some ⟨g, 0, none⟩)] 0 3) Tryd.func99 rfl rfl (Nat.le_of_ble_eq_true rfl) (entry_ok (Nat.le_of_ble_eq_true rfl) (Nat.le_of_ble_eq_true rfl)) (entry_nd _ _) hb ?_
 show W _ _ _ _ _ [(0, .pointer (some ⟨g, 0, none⟩)), (1, undef), (2, undef)] _ _
 refine W.seq (W.region ?_)
 refine WL.as .c U2 rfl ?_
 refine WL.nil (QS.next (W.seq (W.seq (W.region ?_))))
 refine WL.st (R.mv (.t L0)) rfl ?_
 refine WL.st (R.eqpn pt_111 (.t L0)) rfl ?_
 refine WL.nil (QS.next (W.del (.kp (.dr .rf)) (W.cf (.t L0) (W.del (.dr .rf) (W.skip (QS.next (W.seq ?_)))))))
 refine W.draw 11 mixed (by kernel_rfl) ?_
 refine HD.st (R.mv (.t L0)) rfl ?_
 refine HD.st (R.nc (.t L0)) rfl ?_
 refine HD.st (R.fa fo_137_0 (.t L0)) rfl ?_
 refine HD.st (R.ld sc_22 (.t L0) H0 rfl) rfl ?_
 refine HD.st (R.lenl sl_22 (.t L0)) rfl ?_
 refine HD.st (R.mv (.t L5)) rfl ?_
 refine HD.st (R.nc (.t L0)) rfl ?_
 refine HD.st (R.fa fo_137_1 (.t L0)) rfl ?_
 refine HD.st (R.ld sc_3 (.t L0) H0 rfl) rfl ?_
 refine HD.st (R.sub (.t L4) (.t L0) (wi (by omega) (by omega))) rfl ?_
 refine HD.up (R.as (.t L0)) (E1 U2) rfl ?_
 refine HD.nil (WL.nil (QS.next (W.del (.dr (.dr (.dr (.dr (.dr (.dr (.dr (.dr (.dr (.dr .rf)))))))))) (W.ret ?_))))
 exact QS.fin (.inl rfl) rfl (.tmp L2 .nil) () rfl (.kp rfl .nil) (fun _ _ _ => trivial)

theorem cur_fine {A : Option Addr} {n c g : Nat} {at_ er : Int} {C : Cx} (hb : Hb C C.w0 [blk g 137 [.slice A n c, .int .i64 at_, .int .i64 er]] (fun _ => True)) :
    Ret1 Tryd.prog 76 [.pointer (some ⟨g, 0, none⟩)] C (.bool (decide (er = 0))) (blk g 137 [.slice A n c, .int .i64 at_, .int .i64 er]) := by
 refine Sp.enter (N := 6) (e := entryEnv [.pointer (some ⟨g, 0, none⟩)] 0 3) Tryd.func76 rfl rfl (Nat.le_of_ble_eq_true rfl) (entry_ok (Nat.le_of_ble_eq_true rfl) (Nat.le_of_ble_eq_true rfl)) (entry_nd _ _) hb ?_
 show W _ _ _ _ _ [(0, .pointer (some ⟨g, 0, none⟩)), (1, undef), (2, undef)] _ _
 refine W.seq (W.region ?_)
 refine WL.as .c U2 rfl ?_
 refine WL.nil (QS.next (W.seq (W.region ?_)))
 refine WL.st (R.mv (.t L0)) rfl ?_
 refine WL.call1r gf_57 .f (.cons (.t L0) .nil) I0 (fun w ds hb => (cur_Err (hb.imp fun _ _ => trivial))) rfl ?_
 refine WL.st (R.eqi (.t L0) .c) rfl ?_
 refine WL.as (.t L0) U5 rfl ?_
 refine WL.nil (QS.next (W.del (.dr (.dr (.dr .rf))) (W.ret ?_)))
 exact QS.fin (.inl rfl) rfl (.tmp L2 .nil) () rfl (.kp rfl .nil) (fun _ _ _ => trivial)

theorem cur_Fail {A : Option Addr} {n c g : Nat} {at_ er : Int} {e : Int} {C : Cx} (hb : Hb C C.w0 [blk g 137 [.slice A n c, .int .i64 at_, .int .i64 er]] (fun _ => True)) :
    Ret1 Tryd.prog 78 [.pointer (some ⟨g, 0, none⟩), .int .i64 e] C (.tuple #[]) (blk g 137 [.slice A n c, .int .i64 at_, .int .i64 (if er = 0 then e else er)]) := by
 refine Sp.enter (N := 17) (e := entryEnv [.pointer (some ⟨g, 0, none⟩), .int .i64 e] 0 4) Tryd.func78 rfl rfl (Nat.le_of_ble_eq_true rfl) (entry_ok (Nat.le_of_ble_eq_true rfl) (Nat.le_of_ble_eq_true rfl)) (entry_nd _ _) hb ?_
 show W _ _ _ _ _ [(0, .pointer (some ⟨g, 0, none⟩)), (1, .int .i64 e), (2, undef), (3, undef)] _ _
 refine W.seq (W.region ?_)
 refine WL.st (R.mv (.t L0)) rfl ?_
 refine WL.st (R.nepn pt_111 (.t L0)) rfl ?_
 refine WL.st (R.mv (.t L0)) rfl ?_
 refine WL.gy rfl L0 (R.mv (.t L3)) rfl ?_
 refine WL.gy rfl L1 (R.nc (.t L0)) rfl ?_
 refine WL.gy rfl L2 (R.fa fo_137_2 (.t L0)) rfl ?_
 refine WL.gy rfl L3 (R.ld sc_24 (.t L0) H0 rfl) rfl ?_
 refine WL.gy rfl L4 (R.eqi (.t L0) .c) rfl ?_
 refine WL.st (R.pkt (.t L5) (.t L0)) rfl ?_
 refine WL.nil (QS.next (W.del (.kp (.dr (.dr (.dr (.dr (.dr (.dr (.dr (.dr .rf))))))))) ?_))
 refine W.cd (.t L0) (fun h0 => ?_) (fun h0 => ?_)
 ·
  refine W.del (.dr .rf) (W.region ?_)
  refine WL.st (R.mv (.t L0)) rfl ?_
  refine WL.st (R.mv (.t L2)) rfl ?_
  refine WL.st (R.nc (.t L1)) rfl ?_
  refine WL.st (R.fa fo_137_2 (.t L0)) rfl ?_
  refine WL.sto sz_24 (.t L0) (.t L2) rfl rfl rfl C0 (by repeat constructor) ?_
  refine WL.nil ?_
  first | rw [if_pos h0] | rw [if_neg h0]
  exact QS.fin (.inr rfl) rfl .nil () rfl (.kp rfl .nil) (fun _ _ _ => trivial)
 ·
  refine W.del (.dr .rf) (W.skip ?_)
  first | rw [if_pos h0] | rw [if_neg h0]
  exact QS.fin (.inr rfl) rfl .nil () rfl (.kp rfl .nil) (fun _ _ _ => trivial)

theorem cur_number {A : Option Addr} {l : List UInt8} {c g at_ : Nat} {er : Int} (hat : at_ ≤ l.length) (hl : l.length ≤ 140737488355328) {C : Cx} (hb : Hb C C.w0 [blk g 137 [.slice A l.length c, .int .i64 at_, .int .i64 er]] (fun w => RdB w A l)) :
    Ret1 Tryd.prog 77 [.pointer (some ⟨g, 0, none⟩)] C (.tuple #[.int .u64 (numV (l.drop at_)), .int .i64 (numL (l.drop at_)), .int .i64 (numE (l.drop at_))]) (blk g 137 [.slice A l.length c, .int .i64 at_, .int .i64 er]) := by
 refine Sp.enter (N := 59) (e := entryEnv [.pointer (some ⟨g, 0, none⟩)] 0 8) Tryd.func77 rfl rfl (Nat.le_of_ble_eq_true rfl) (entry_ok (Nat.le_of_ble_eq_true rfl) (Nat.le_of_ble_eq_true rfl)) (entry_nd _ _) hb ?_
 show W _ _ _ _ _ [(0, .pointer (some ⟨g, 0, none⟩)), (1, undef), (2, undef), (3, undef), (4, undef), (5, undef), (6, undef), (7, undef)] _ _
 refine W.seq (W.region ?_)
 refine WL.as .c U2 rfl ?_
 refine WL.as .c U3 rfl ?_
 refine WL.as .c U4 rfl ?_
 refine WL.nil (QS.next ?_)
 refine W.scope ?_
 refine W.seq (W.region ?_)
 refine WL.as .c U5 rfl ?_
 refine WL.as .c U6 rfl ?_
 refine WL.nil (QS.next (W.seq ?_))
 refine W.label ?_
 refine QS.next (W.seq (W.block ?_))
 refine W.loop (ι := {p : Nat × Nat // at_ + p.1 ≤ l.length ∧ p.1 ≤ 9 ∧ p.2 < 128 ^ p.1 ∧ numS (l.drop (at_ + p.1)) p.1 p.2 = numS (l.drop at_) 0 0}) (fun x => [(0, .pointer (some ⟨g, 0, none⟩)), (2, .int .u64 0), (3, .int .i64 0), (4, .int .i64 0), (5, .int .u64 x.1.2), (6, .int .i64 x.1.1)]) (fun x => [blk g 137 [.slice A l.length c, .int .i64 at_, .int .i64 er]]) (fun x w => RdB w A l) (fun x => 10 - x.1.1) ⟨(0, 0), by simpa using hat, by omega, by simp, rfl⟩ (.kp rfl (.dr (.kp rfl (.kp rfl (.kp rfl (.kp rfl (.kp rfl (.dr .nil)))))))) (.kp rfl .nil) (fun _ h _ => h) ?_
 intro x
 obtain ⟨⟨i, acc⟩, hi1, hi2, hi3, hi4⟩ := x
 dsimp only at hi1 hi2 hi3 hi4
 show W _ _ _ _ _ [(0, .pointer (some ⟨g, 0, none⟩)), (2, .int .u64 0), (3, .int .i64 0), (4, .int .i64 0), (5, .int .u64 acc), (6, .int .i64 i)] [blk g 137 [.slice A l.length c, .int .i64 at_, .int .i64 er]] (fun w => RdB w A l)
 refine W.seq (W.seq (W.region ?_))
 refine WL.st (R.mv (.t L5)) rfl ?_
 refine WL.st (R.mv (.t L1)) rfl ?_
 refine WL.call1r gf_99 .f (.cons (.t L0) .nil) I0 (fun w ds hb => (cur_Left (by omega) (by omega) (by omega) (hb.imp fun _ _ => trivial))) rfl ?_
 refine WL.st (R.lss (.t L2) (.t L0)) rfl ?_
 refine WL.nil (QS.next (W.del (.kp (.dr (.dr (.dr .rf)))) ?_))
 refine W.cd (.t L0) (fun h0 => ?_) (fun h0 => ?_)
 ·
  refine W.del (.dr .rf) (W.skip (QS.next (W.seq (W.block (W.seq ?_)))))
  obtain ⟨x, hx⟩ : ∃ x, l[at_ + i]? = some x := ⟨_, List.getElem?_eq_getElem (by omega)⟩
  have hxb : x.toNat < 256 := x.toNat_lt
  refine W.draw 14 mixed (by kernel_rfl) ?_
  refine HD.st (R.mv (.t L0)) rfl ?_
  refine HD.st (R.nc (.t L0)) rfl ?_
  refine HD.st (R.fa fo_137_0 (.t L0)) rfl ?_
  refine HD.st (R.ld sc_22 (.t L0) H0 rfl) rfl ?_
  refine HD.st (R.mv (.t L4)) rfl ?_
  refine HD.st (R.nc (.t L0)) rfl ?_
  refine HD.st (R.fa fo_137_1 (.t L0)) rfl ?_
  refine HD.st (R.ld sc_3 (.t L0) H0 rfl) rfl ?_
  refine HD.st (R.mv (.t (D1 L3))) rfl ?_
  refine HD.st (R.add (.t L1) (.t L0) (wi (by omega) (by omega))) rfl ?_
  refine HD.st (R.ixB sl_22 (.t L6) rfl (.t L0) (j := at_ + i) (by omega) (by omega) (fun w hb => hb.get)) rfl ?_
  refine HD.st (R.ldp sc_5 (.t L0) (fun w hb => hb.get.cell hx)) rfl ?_
  refine HD.st (R.cvi Tryd.underlying5 ti_113 (.t L0) (wu64 (by omega) (by omega))) rfl ?_
  refine HD.st (R.as (.t L0)) rfl ?_
  refine HD.nil (WL.nil (QS.next (W.del (.kp (.dr (.dr (.dr (.dr (.dr (.dr (.dr (.dr (.dr (.dr (.dr (.dr (.dr .rf)))))))))))))) (W.seq (W.seq (W.region ?_))))))
  refine WL.st (R.mv (.t L6)) rfl ?_
  refine WL.st (R.gtr (.t L0) .c) rfl ?_
  refine WL.st (R.mv (.t L0)) rfl ?_
  refine WL.rw L0 (v' := .bool false) (congrArg Value.bool (decide_eq_false (by omega))) U0 ?_
  refine WL.gy rfl L0 (R.mv (.t L9)) rfl ?_
  refine WL.gy rfl L1 (R.eqi (.t L0) .c) rfl ?_
  refine WL.gy rfl L2 (R.mv (.t L0)) rfl ?_
  refine WL.cd L0 U0 U0 (fun hg32 => ?_) (fun hg32 => ?_)
  ·
   refine WL.gy rfl L0 (R.mv (.t L6)) rfl ?_
   refine WL.gy rfl L1 (R.gtr (.t L0) .c) rfl ?_
   refine WL.gy rfl L5 (R.pkt (.t L2) (.t L0)) rfl ?_
   refine WL.st (R.pkf (.t L6) (.t L0)) rfl ?_
   refine WL.nil (QS.next (W.del (.kp (.dr (.dr (.dr (.dr (.dr (.dr (.dr (.dr (.dr .rf)))))))))) ?_))
   refine W.cd (.t L0) (fun h1 => ?_) (fun h1 => ?_)
   ·
    refine W.del (.dr .rf) (W.seq (W.region ?_))
    refine WL.as .c U2 rfl ?_
    refine WL.as .c U3 rfl ?_
    refine WL.as .c U4 rfl ?_
    refine WL.nil (QS.next (W.ret (QS.thenr (QS.blkr (QS.thenr (QS.thenr (QS.blkr (QS.thenr ?_))))))))
    refine QS.ngr ?_
    have hr := num_bad hx hi4 (by omega)
    exact QS.fin (.inl rfl) rfl (.tmp L2 (.tmp L3 (.tmp L4 .nil))) () (by rw [numV, numL, numE, hr]; rfl) (.kp rfl .nil) (fun _ _ _ => trivial)
   ·
    refine W.del (.dr .rf) (W.skip (QS.next (W.seq ?_)))
    have hgb := grp_lt (x := x.toNat) hi3 hi2 (by omega)
    refine W.region ?_
    refine WL.st (R.mv (.t L5)) rfl ?_
    refine WL.st (R.mv (.t L1)) rfl ?_
    refine WL.st (R.bits (.inl rfl) (.t L0) .c (u64_and127 (by omega))) rfl ?_
    refine WL.st (R.mv (.t L9)) rfl ?_
    refine WL.st (R.mul .c (.t L0) (wi (by omega) (by omega))) rfl ?_
    refine WL.st (R.shl (.t L2) (.t L0) (by omega) (shl_u64 (by omega) hi2)) rfl ?_
    refine WL.st (R.bits (.inr (.inl rfl)) (.t L5) (.t L0) (u64_grp hi3 hgb)) rfl ?_
    refine WL.as (.t L0) (E1 U2) rfl ?_
    refine WL.nil (QS.next (W.del (.dr (.dr (.dr (.dr (.dr (.dr (.dr .rf))))))) (W.seq (W.region ?_))))
    refine WL.st (R.mv (.t L0)) rfl ?_
    refine WL.st (R.lss (.t L0) .c) rfl ?_
    refine WL.nil (QS.next (W.del (.kp (.dr .rf)) ?_))
    refine W.cd (.t L0) (fun h2 => ?_) (fun h2 => ?_)
    ·
     refine W.del (.dr .rf) (W.seq (W.seq (W.region ?_)))
     refine WL.st (R.mv (.t L0)) rfl ?_
     refine WL.st (R.eqi (.t L0) .c) rfl ?_
     refine WL.st (R.mv (.t L0)) rfl ?_
     refine WL.cd L0 U0 U0 (fun hg48 => ?_) (fun hg48 => ?_)
     ·
      refine WL.gy rfl L0 (R.mv (.t L9)) rfl ?_
      refine WL.gy rfl L1 (R.gtr (.t L0) .c) rfl ?_
      refine WL.st (R.pkt (.t L2) (.t L0)) rfl ?_
      refine WL.nil (QS.next (W.del (.kp (.dr (.dr (.dr (.dr (.dr .rf)))))) ?_))
      refine W.cd (.t L0) (fun h3 => ?_) (fun h3 => ?_)
      ·
       refine W.del (.dr .rf) (W.seq (W.region ?_))
       refine WL.as .c U2 rfl ?_
       refine WL.as .c U3 rfl ?_
       refine WL.as .c U4 rfl ?_
       refine WL.nil (QS.next (W.ret (QS.thenr (QS.blkr (QS.thenr (QS.thenr (QS.blkr (QS.thenr ?_))))))))
       refine QS.ngr ?_
       have hr := num_bad hx hi4 (by omega)
       exact QS.fin (.inl rfl) rfl (.tmp L2 (.tmp L3 (.tmp L4 .nil))) () (by rw [numV, numL, numE, hr]; rfl) (.kp rfl .nil) (fun _ _ _ => trivial)
      ·
       refine W.del (.dr .rf) (W.skip (QS.next (W.exit (QS.blky rfl (QS.thenx (QS.thenx (QS.blkx (QS.next (W.seq (W.seq (W.region ?_)))))))))))
       refine WL.st (R.mv (.t L6)) rfl ?_
       refine WL.st (R.mv (.t L2)) rfl ?_
       refine WL.call1r gf_99 .f (.cons (.t L0) .nil) I0 (fun w ds hb => (cur_Left (by omega) (by omega) (by omega) (hb.imp fun _ _ => trivial))) rfl ?_
       refine WL.st (R.geq (.t L2) (.t L0)) rfl ?_
       refine WL.nil (QS.next (W.del (.kp (.dr (.dr (.dr .rf)))) ?_))
       refine W.cd (.t L0) (fun h4 => ?_) (fun h4 => ?_)
       ·
        refine W.del (.dr .rf) (W.seq (W.region ?_))
        refine WL.as .c U2 rfl ?_
        refine WL.as .c U3 rfl ?_
        refine WL.as .c U4 rfl ?_
        refine WL.nil (QS.next (W.ret (QS.thenr ?_)))
        refine QS.ngr ?_
        first
          | (exfalso; omega)
          | (have hr := num_torn (by omega) hi4; exact QS.fin (.inl rfl) rfl (.tmp L2 (.tmp L3 (.tmp L4 .nil))) () (by rw [numV, numL, numE, hr]; rfl) (.kp rfl .nil) (fun _ _ _ => trivial))
       ·
        refine W.del (.dr .rf) (W.skip (QS.next (W.seq (W.region ?_))))
        refine WL.st (R.mv (.t L5)) rfl ?_
        refine WL.st (R.mv (.t L7)) rfl ?_
        refine WL.st (R.add (.t L0) .c (wi (by omega) (by omega))) rfl ?_
        refine WL.as (.t L2) U5 rfl ?_
        refine WL.as (.t L0) U6 rfl ?_
        refine WL.as .c U7 rfl ?_
        refine WL.nil (QS.next (W.del (.dr (.dr (.dr .rf))) (W.ret ?_)))
        refine QS.ngr ?_
        first
          | (exfalso; omega)
          | (have hr := num_end hx hi4 (by omega) (by omega) (by omega) (by omega); exact QS.fin (.inl rfl) rfl (.tmp L2 (.tmp L3 (.tmp L4 .nil))) () (by rw [numV, numL, numE, hr]; rfl) (.kp rfl .nil) (fun _ _ _ => trivial))
     ·
      refine WL.gn rfl L0 rfl ?_
      refine WL.gn rfl L1 rfl ?_
      refine WL.st (R.pkf (.t L2) .c) rfl ?_
      refine WL.nil (QS.next (W.del (.kp (.dr (.dr (.dr (.dr (.dr .rf)))))) (W.cf (.t L0) (W.del (.dr .rf) (W.skip (QS.next (W.exit (QS.blky rfl (QS.thenx (QS.thenx (QS.blkx (QS.next (W.seq (W.seq (W.region ?_)))))))))))))))
      refine WL.st (R.mv (.t L6)) rfl ?_
      refine WL.st (R.mv (.t L2)) rfl ?_
      refine WL.call1r gf_99 .f (.cons (.t L0) .nil) I0 (fun w ds hb => (cur_Left (by omega) (by omega) (by omega) (hb.imp fun _ _ => trivial))) rfl ?_
      refine WL.st (R.geq (.t L2) (.t L0)) rfl ?_
      refine WL.nil (QS.next (W.del (.kp (.dr (.dr (.dr .rf)))) ?_))
      refine W.cd (.t L0) (fun h4 => ?_) (fun h4 => ?_)
      ·
       refine W.del (.dr .rf) (W.seq (W.region ?_))
       refine WL.as .c U2 rfl ?_
       refine WL.as .c U3 rfl ?_
       refine WL.as .c U4 rfl ?_
       refine WL.nil (QS.next (W.ret (QS.thenr ?_)))
       refine QS.ngr ?_
       first
         | (exfalso; omega)
         | (have hr := num_torn (by omega) hi4; exact QS.fin (.inl rfl) rfl (.tmp L2 (.tmp L3 (.tmp L4 .nil))) () (by rw [numV, numL, numE, hr]; rfl) (.kp rfl .nil) (fun _ _ _ => trivial))
      ·
       refine W.del (.dr .rf) (W.skip (QS.next (W.seq (W.region ?_))))
       refine WL.st (R.mv (.t L5)) rfl ?_
       refine WL.st (R.mv (.t L7)) rfl ?_
       refine WL.st (R.add (.t L0) .c (wi (by omega) (by omega))) rfl ?_
       refine WL.as (.t L2) U5 rfl ?_
       refine WL.as (.t L0) U6 rfl ?_
       refine WL.as .c U7 rfl ?_
       refine WL.nil (QS.next (W.del (.dr (.dr (.dr .rf))) (W.ret ?_)))
       refine QS.ngr ?_
       first
         | (exfalso; omega)
         | (have hr := num_end hx hi4 (by omega) (by omega) (by omega) (by omega); exact QS.fin (.inl rfl) rfl (.tmp L2 (.tmp L3 (.tmp L4 .nil))) () (by rw [numV, numL, numE, hr]; rfl) (.kp rfl .nil) (fun _ _ _ => trivial))
    ·
     refine W.del (.dr .rf) (W.skip (QS.blkn (QS.next (W.region ?_))))
     refine WL.st (R.mv (.t L6)) rfl ?_
     refine WL.st (R.add (.t L0) .c (wi (by omega) (by omega))) rfl ?_
     refine WL.as (.t L0) U8 rfl ?_
     refine WL.nil ?_
     exact QS.at ⟨(i + 1, acc + x.toNat % 128 * 128 ^ i), by dsimp only; omega, by dsimp only; omega, by dsimp only; exact acc_lt hi3 (Nat.mod_lt _ (by omega)), num_next hx hi4 (by omega) (by omega) (by omega)⟩ (by dsimp only; omega) (.dr (.dr (.dr (.kp rfl (.kp rfl (.kp rfl (.kp rfl (.kp rfl (.kp rfl .nil))))))))) (.kp rfl .nil) (fun _ h _ => h)
  ·
   refine WL.gn rfl L0 rfl ?_
   refine WL.gn rfl L1 rfl ?_
   refine WL.gy rfl L5 (R.pkf (.t L2) .c) rfl ?_
   refine WL.st (R.pkf (.t L6) (.t L0)) rfl ?_
   refine WL.nil (QS.next (W.del (.kp (.dr (.dr (.dr (.dr (.dr (.dr (.dr (.dr (.dr .rf)))))))))) (W.cf (.t L0) (W.del (.dr .rf) (W.skip (QS.next (W.seq ?_)))))))
   have hgb := grp_lt (x := x.toNat) hi3 hi2 (by omega)
   refine W.region ?_
   refine WL.st (R.mv (.t L5)) rfl ?_
   refine WL.st (R.mv (.t L1)) rfl ?_
   refine WL.st (R.bits (.inl rfl) (.t L0) .c (u64_and127 (by omega))) rfl ?_
   refine WL.st (R.mv (.t L9)) rfl ?_
   refine WL.st (R.mul .c (.t L0) (wi (by omega) (by omega))) rfl ?_
   refine WL.st (R.shl (.t L2) (.t L0) (by omega) (shl_u64 (by omega) hi2)) rfl ?_
   refine WL.st (R.bits (.inr (.inl rfl)) (.t L5) (.t L0) (u64_grp hi3 hgb)) rfl ?_
   refine WL.as (.t L0) (E1 U2) rfl ?_
   refine WL.nil (QS.next (W.del (.dr (.dr (.dr (.dr (.dr (.dr (.dr .rf))))))) (W.seq (W.region ?_))))
   refine WL.st (R.mv (.t L0)) rfl ?_
   refine WL.st (R.lss (.t L0) .c) rfl ?_
   refine WL.nil (QS.next (W.del (.kp (.dr .rf)) ?_))
   refine W.cd (.t L0) (fun h2 => ?_) (fun h2 => ?_)
   ·
    refine W.del (.dr .rf) (W.seq (W.seq (W.region ?_)))
    refine WL.st (R.mv (.t L0)) rfl ?_
    refine WL.st (R.eqi (.t L0) .c) rfl ?_
    refine WL.st (R.mv (.t L0)) rfl ?_
    refine WL.cd L0 U0 U0 (fun hg48 => ?_) (fun hg48 => ?_)
    ·
     refine WL.gy rfl L0 (R.mv (.t L9)) rfl ?_
     refine WL.gy rfl L1 (R.gtr (.t L0) .c) rfl ?_
     refine WL.st (R.pkt (.t L2) (.t L0)) rfl ?_
     refine WL.nil (QS.next (W.del (.kp (.dr (.dr (.dr (.dr (.dr .rf)))))) ?_))
     refine W.cd (.t L0) (fun h3 => ?_) (fun h3 => ?_)
     ·
      refine W.del (.dr .rf) (W.seq (W.region ?_))
      refine WL.as .c U2 rfl ?_
      refine WL.as .c U3 rfl ?_
      refine WL.as .c U4 rfl ?_
      refine WL.nil (QS.next (W.ret (QS.thenr (QS.blkr (QS.thenr (QS.thenr (QS.blkr (QS.thenr ?_))))))))
      refine QS.ngr ?_
      have hr := num_bad hx hi4 (by omega)
      exact QS.fin (.inl rfl) rfl (.tmp L2 (.tmp L3 (.tmp L4 .nil))) () (by rw [numV, numL, numE, hr]; rfl) (.kp rfl .nil) (fun _ _ _ => trivial)
     ·
      refine W.del (.dr .rf) (W.skip (QS.next (W.exit (QS.blky rfl (QS.thenx (QS.thenx (QS.blkx (QS.next (W.seq (W.seq (W.region ?_)))))))))))
      refine WL.st (R.mv (.t L6)) rfl ?_
      refine WL.st (R.mv (.t L2)) rfl ?_
      refine WL.call1r gf_99 .f (.cons (.t L0) .nil) I0 (fun w ds hb => (cur_Left (by omega) (by omega) (by omega) (hb.imp fun _ _ => trivial))) rfl ?_
      refine WL.st (R.geq (.t L2) (.t L0)) rfl ?_
      refine WL.nil (QS.next (W.del (.kp (.dr (.dr (.dr .rf)))) ?_))
      refine W.cd (.t L0) (fun h4 => ?_) (fun h4 => ?_)
      ·
       refine W.del (.dr .rf) (W.seq (W.region ?_))
       refine WL.as .c U2 rfl ?_
       refine WL.as .c U3 rfl ?_
       refine WL.as .c U4 rfl ?_
       refine WL.nil (QS.next (W.ret (QS.thenr ?_)))
       refine QS.ngr ?_
       first
         | (exfalso; omega)
         | (have hr := num_torn (by omega) hi4; exact QS.fin (.inl rfl) rfl (.tmp L2 (.tmp L3 (.tmp L4 .nil))) () (by rw [numV, numL, numE, hr]; rfl) (.kp rfl .nil) (fun _ _ _ => trivial))
      ·
       refine W.del (.dr .rf) (W.skip (QS.next (W.seq (W.region ?_))))
       refine WL.st (R.mv (.t L5)) rfl ?_
       refine WL.st (R.mv (.t L7)) rfl ?_
       refine WL.st (R.add (.t L0) .c (wi (by omega) (by omega))) rfl ?_
       refine WL.as (.t L2) U5 rfl ?_
       refine WL.as (.t L0) U6 rfl ?_
       refine WL.as .c U7 rfl ?_
       refine WL.nil (QS.next (W.del (.dr (.dr (.dr .rf))) (W.ret ?_)))
       refine QS.ngr ?_
       first
         | (exfalso; omega)
         | (have hr := num_end hx hi4 (by omega) (by omega) (by omega) (by omega); exact QS.fin (.inl rfl) rfl (.tmp L2 (.tmp L3 (.tmp L4 .nil))) () (by rw [numV, numL, numE, hr]; rfl) (.kp rfl .nil) (fun _ _ _ => trivial))
    ·
     refine WL.gn rfl L0 rfl ?_
     refine WL.gn rfl L1 rfl ?_
     refine WL.st (R.pkf (.t L2) .c) rfl ?_
     refine WL.nil (QS.next (W.del (.kp (.dr (.dr (.dr (.dr (.dr .rf)))))) (W.cf (.t L0) (W.del (.dr .rf) (W.skip (QS.next (W.exit (QS.blky rfl (QS.thenx (QS.thenx (QS.blkx (QS.next (W.seq (W.seq (W.region ?_)))))))))))))))
     refine WL.st (R.mv (.t L6)) rfl ?_
     refine WL.st (R.mv (.t L2)) rfl ?_
     refine WL.call1r gf_99 .f (.cons (.t L0) .nil) I0 (fun w ds hb => (cur_Left (by omega) (by omega) (by omega) (hb.imp fun _ _ => trivial))) rfl ?_
     refine WL.st (R.geq (.t L2) (.t L0)) rfl ?_
     refine WL.nil (QS.next (W.del (.kp (.dr (.dr (.dr .rf)))) ?_))
     refine W.cd (.t L0) (fun h4 => ?_) (fun h4 => ?_)
     ·
      refine W.del (.dr .rf) (W.seq (W.region ?_))
      refine WL.as .c U2 rfl ?_
      refine WL.as .c U3 rfl ?_
      refine WL.as .c U4 rfl ?_
      refine WL.nil (QS.next (W.ret (QS.thenr ?_)))
      refine QS.ngr ?_
      first
        | (exfalso; omega)
        | (have hr := num_torn (by omega) hi4; exact QS.fin (.inl rfl) rfl (.tmp L2 (.tmp L3 (.tmp L4 .nil))) () (by rw [numV, numL, numE, hr]; rfl) (.kp rfl .nil) (fun _ _ _ => trivial))
     ·
      refine W.del (.dr .rf) (W.skip (QS.next (W.seq (W.region ?_))))
      refine WL.st (R.mv (.t L5)) rfl ?_
      refine WL.st (R.mv (.t L7)) rfl ?_
      refine WL.st (R.add (.t L0) .c (wi (by omega) (by omega))) rfl ?_
      refine WL.as (.t L2) U5 rfl ?_
      refine WL.as (.t L0) U6 rfl ?_
      refine WL.as .c U7 rfl ?_
      refine WL.nil (QS.next (W.del (.dr (.dr (.dr .rf))) (W.ret ?_)))
      refine QS.ngr ?_
      first
        | (exfalso; omega)
        | (have hr := num_end hx hi4 (by omega) (by omega) (by omega) (by omega); exact QS.fin (.inl rfl) rfl (.tmp L2 (.tmp L3 (.tmp L4 .nil))) () (by rw [numV, numL, numE, hr]; rfl) (.kp rfl .nil) (fun _ _ _ => trivial))
   ·
    refine W.del (.dr .rf) (W.skip (QS.blkn (QS.next (W.region ?_))))
    refine WL.st (R.mv (.t L6)) rfl ?_
    refine WL.st (R.add (.t L0) .c (wi (by omega) (by omega))) rfl ?_
    refine WL.as (.t L0) U8 rfl ?_
    refine WL.nil ?_
    exact QS.at ⟨(i + 1, acc + x.toNat % 128 * 128 ^ i), by dsimp only; omega, by dsimp only; omega, by dsimp only; exact acc_lt hi3 (Nat.mod_lt _ (by omega)), num_next hx hi4 (by omega) (by omega) (by omega)⟩ (by dsimp only; omega) (.dr (.dr (.dr (.kp rfl (.kp rfl (.kp rfl (.kp rfl (.kp rfl (.kp rfl .nil))))))))) (.kp rfl .nil) (fun _ h _ => h)
 ·
  refine W.del (.dr .rf) (W.exit (QS.thenx (QS.thenx (QS.blkx (QS.next (W.seq (W.seq (W.region ?_))))))))
  refine WL.st (R.mv (.t L5)) rfl ?_
  refine WL.st (R.mv (.t L1)) rfl ?_
  refine WL.call1r gf_99 .f (.cons (.t L0) .nil) I0 (fun w ds hb => (cur_Left (by omega) (by omega) (by omega) (hb.imp fun _ _ => trivial))) rfl ?_
  refine WL.st (R.geq (.t L2) (.t L0)) rfl ?_
  refine WL.nil (QS.next (W.del (.kp (.dr (.dr (.dr .rf)))) ?_))
  refine W.cd (.t L0) (fun h4 => ?_) (fun h4 => ?_)
  ·
   refine W.del (.dr .rf) (W.seq (W.region ?_))
   refine WL.as .c U1 rfl ?_
   refine WL.as .c U2 rfl ?_
   refine WL.as .c U3 rfl ?_
   refine WL.nil (QS.next (W.ret (QS.thenr ?_)))
   refine QS.ngr ?_
   first
     | (exfalso; omega)
     | (have hr := num_torn (by omega) hi4; exact QS.fin (.inl rfl) rfl (.tmp L1 (.tmp L2 (.tmp L3 .nil))) () (by rw [numV, numL, numE, hr]; rfl) (.kp rfl .nil) (fun _ _ _ => trivial))
  ·
   refine W.del (.dr .rf) (W.skip (QS.next (W.seq (W.region ?_))))
   refine WL.st (R.mv (.t L4)) rfl ?_
   refine WL.st (R.mv (.t L6)) rfl ?_
   refine WL.st (R.add (.t L0) .c (wi (by omega) (by omega))) rfl ?_
   refine WL.as (.t L2) U4 rfl ?_
   refine WL.as (.t L0) U5 rfl ?_
   refine WL.as .c U6 rfl ?_
   refine WL.nil (QS.next (W.del (.dr (.dr (.dr .rf))) (W.ret ?_)))
   refine QS.ngr ?_
   first
     | (exfalso; omega)
     | (have hr := num_end hx hi4 (by omega) (by omega) (by omega) (by omega); exact QS.fin (.inl rfl) rfl (.tmp L1 (.tmp L2 (.tmp L3 .nil))) () (by rw [numV, numL, numE, hr]; rfl) (.kp rfl .nil) (fun _ _ _ => trivial))

theorem cur_number0 {A : Option Addr} {l : List UInt8} {c g : Nat} (hl : l.length ≤ 140737488355328) {C : Cx} (hb : Hb C C.w0 [blk g 137 [.slice A l.length c, .int .i64 0, .int .i64 0]] (fun w => RdB w A l)) :
    Ret1 Tryd.prog 77 [.pointer (some ⟨g, 0, none⟩)] C (.tuple #[.int .u64 (numV l), .int .i64 (numL l), .int .i64 (numE l)]) (blk g 137 [.slice A l.length c, .int .i64 0, .int .i64 0]) := cur_number (at_ := 0) (Nat.zero_le _) hl hb

theorem cur_Uint {A : Option Addr} {l : List UInt8} {c g : Nat} (hl : l.length ≤ 140737488355328) {C : Cx} (hb : Hb C C.w0 [blk g 137 [.slice A l.length c, .int .i64 0, .int .i64 0]] (fun w => RdB w A l)) :
    Ret1 Tryd.prog 56 [.pointer (some ⟨g, 0, none⟩)] C (.int .u64 (numV l)) (blk g 137 [.slice A l.length c, .int .i64 (numL l), .int .i64 (numE l)]) := by
 have hnb := numL_bd l
 refine Sp.enter (N := 31) (e := entryEnv [.pointer (some ⟨g, 0, none⟩)] 0 6) Tryd.func56 rfl rfl (Nat.le_of_ble_eq_true rfl) (entry_ok (Nat.le_of_ble_eq_true rfl) (Nat.le_of_ble_eq_true rfl)) (entry_nd _ _) hb ?_
 show W _ _ _ _ _ [(0, .pointer (some ⟨g, 0, none⟩)), (1, undef), (2, undef), (3, undef), (4, undef), (5, undef)] _ _
 refine W.seq (W.region ?_)
 refine WL.as .c U2 rfl ?_
 refine WL.nil (QS.next (W.seq (W.seq (W.region ?_))))
 refine WL.st (R.mv (.t L0)) rfl ?_
 refine WL.call1r gf_76 .f (.cons (.t L0) .nil) I0 (fun w ds hb => (cur_fine (hb.imp fun _ _ => trivial))) rfl ?_
 refine WL.st (R.not (.t L0)) rfl ?_
 refine WL.nil (QS.next (W.del (.kp (.dr (.dr .rf))) ?_))
 refine W.cdf (.t L0) (by omega) ?_
 refine W.del (.dr .rf) (W.skip (QS.next (W.seq (W.seq (W.region ?_)))))
 refine WL.st (R.mv (.t L0)) rfl ?_
 refine WL.st (R.eqpn pt_111 (.t L0)) rfl ?_
 refine WL.nil (QS.next (W.del (.kp (.dr .rf)) (W.cf (.t L0) (W.del (.dr .rf) (W.skip (QS.next (W.seq (W.region ?_))))))))
 refine WL.st (R.mv (.t L0)) rfl ?_
 refine WL.call1r gf_77 .f (.cons (.t L0) .nil) I0 (fun w ds hb => (cur_number0 hl hb)) rfl ?_
 refine WL.st (R.mv (.t L0)) rfl ?_
 refine WL.st (R.ex (.t L0) .here) rfl ?_
 refine WL.st (R.ex (.t L1) (.skip .here)) rfl ?_
 refine WL.st (R.ex (.t L2) (.skip (.skip .here))) rfl ?_
 refine WL.as (.t L2) U9 rfl ?_
 refine WL.as (.t L1) (E1 U0) rfl ?_
 refine WL.as (.t L0) (E1 U1) rfl ?_
 refine WL.nil (QS.next (W.del (.dr (.dr (.dr (.dr (.dr (.dr .rf)))))) (W.seq (W.seq (W.region ?_)))))
 refine WL.st (R.mv (.t L5)) rfl ?_
 refine WL.st (R.nei (.t L0) .c) rfl ?_
 refine WL.nil (QS.next (W.del (.kp (.dr .rf)) ?_))
 refine W.cd (.t L0) (fun h2 => ?_) (fun h2 => ?_)
 ·
  refine W.del (.dr .rf) (W.seq (W.region ?_))
  refine WL.st (R.mv (.t L0)) rfl ?_
  refine WL.st (R.mv (.t L6)) rfl ?_
  refine WL.call1r gf_78 .f (.cons (.t L1) (.cons (.t L0) .nil)) I0 (fun w ds hb => (cur_Fail (hb.imp fun _ _ => trivial))) rfl ?_
  refine WL.nil (QS.next (W.del (.dr (.dr (.dr .rf))) (W.seq (W.region ?_))))
  refine WL.as .c U2 rfl ?_
  refine WL.nil (QS.next (W.ret (QS.thenr ?_)))
  have hz := numE_ne h2
  rw [if_pos rfl]
  exact QS.fin (.inl rfl) rfl (.tmp L2 .nil) () (by rw [hz.2]; rfl) (.kp (by rw [hz.1]) .nil) (fun _ _ _ => trivial)
 ·
  refine W.del (.dr .rf) (W.skip (QS.next (W.seq (W.region ?_))))
  refine WL.st (R.mv (.t L0)) rfl ?_
  refine WL.st (R.nc (.t L0)) rfl ?_
  refine WL.st (R.fa fo_137_1 (.t L0)) rfl ?_
  refine WL.st (R.ld sc_3 (.t L0) H0 rfl) rfl ?_
  refine WL.st (R.mv (.t L8)) rfl ?_
  refine WL.st (R.add (.t L1) (.t L0) (wi (by omega) (by omega))) rfl ?_
  refine WL.st (R.nc (.t L5)) rfl ?_
  refine WL.st (R.fa fo_137_1 (.t L0)) rfl ?_
  refine WL.sto sz_3 (.t L0) (.t L2) rfl rfl rfl C0 (by repeat constructor) ?_
  refine WL.nil (QS.next (W.del (.dr (.dr (.dr (.dr (.dr (.dr (.dr (.dr .rf)))))))) (W.seq (W.region ?_))))
  refine WL.st (R.mv (.t L3)) rfl ?_
  refine WL.as (.t L0) U3 rfl ?_
  refine WL.nil (QS.next (W.del (.dr .rf) (W.ret ?_)))
  exact QS.fin (.inl rfl) rfl (.tmp L2 .nil) () rfl (.kp (by rw [show numE l = 0 by omega, Int.zero_add]) .nil) (fun _ _ _ => trivial)

end Go.Proofs.YtpaecijilnfkhaaDoor
