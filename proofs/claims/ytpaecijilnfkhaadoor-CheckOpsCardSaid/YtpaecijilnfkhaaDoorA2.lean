/- Contracts: code. -/
import Derived.Test.YtpaecijilnfkhaaDoorA1

namespace Go.Proofs.YtpaecijilnfkhaaDoor
open Go Go.Eng Go.RowKit
set_option maxHeartbeats 1000000 in
theorem code_finish {A : Option Addr} {b : List UInt8} {c : Nat} {at_ long kind n : Int} (hc : b.length ≤ c) (hl : b.length ≤ 140737488355328) (ha : 0 ≤ at_) (hg : 0 ≤ long) (hag : at_ + long ≤ b.length) (hn0 : 0 ≤ n) (hn1 : n ≤ 2147483662) {C : Cx} (hb : Hb C C.w0 [] (fun w => RdB w A b)) :
    Sp Tryd.prog 59 [.slice A b.length c, .agg #[.int .i64 at_, .int .i64 long, .int .i64 kind, .int .i64 0, .slice none 0 0], .int .i64 n] C (ι := Option Addr × Nat) (fun x => .tuple #[instrV (finS b at_ long kind n).1 x.1 x.2, .int .i64 (finS b at_ long kind n).2]) (fun _ => []) (fun x w => RdI w x.1 (finS b at_ long kind n).1.widths) := by
 refine Sp.enter (N := 81) (e := entryEnv [.slice A b.length c, .agg #[.int .i64 at_, .int .i64 long, .int .i64 kind, .int .i64 0, .slice none 0 0], .int .i64 n] 0 11) Tryd.func59 rfl rfl (Nat.le_of_ble_eq_true rfl) (entry_ok (Nat.le_of_ble_eq_true rfl) (Nat.le_of_ble_eq_true rfl)) (entry_nd _ _) hb ?_
 show W _ _ _ _ _ [(0, .slice A b.length c), (1, .agg #[.int .i64 at_, .int .i64 long, .int .i64 kind, .int .i64 0, .slice none 0 0]), (2, .int .i64 n), (3, undef), (4, undef), (5, undef), (6, undef), (7, undef), (8, undef), (9, undef), (10, undef)] _ _
 refine W.seq (W.region ?_)
 refine WL.boxu (.t L1) rfl (fun _ => U4) rfl (fun g4 => ?_)
 refine WL.allocu z_59 (fun _ => U6) rfl (fun g6 => ?_)
 refine WL.as .c U7 rfl ?_
 refine WL.nil (QS.next (W.seq (W.seq (W.region ?_))))
 refine WL.st (R.fa fo_59_2 (.t L4)) rfl ?_
 refine WL.st (R.ld sc_57 (.t L0) H1 rfl) rfl ?_
 refine WL.nil (QS.next (W.del (.kp (.dr .rf)) (W.block (W.seq (W.region ?_)))))
 refine WL.st (R.eqi (.t L0) .c) rfl ?_
 refine WL.st (R.as (.t L0)) rfl ?_
 refine WL.nil (QS.next (W.del (.kp (.dr .rf)) ?_))
 refine W.cd (.t L0) (fun h0 => ?_) (fun h0 => ?_)
 ·
  refine W.del (.dr (.dr .rf)) (W.seq (W.seq (W.region ?_)))
  refine WL.st (R.mv (.t L2)) rfl ?_
  refine WL.st (R.gtr (.t L0) .c) rfl ?_
  refine WL.nil (QS.next (W.del (.kp (.dr .rf)) ?_))
  refine W.cd (.t L0) (fun h1 => ?_) (fun h1 => ?_)
  ·
   refine W.del (.dr .rf) (W.seq (W.region ?_))
   refine WL.st (R.bld (z := [.int .i64 0, .int .i64 0, .int .i64 0, .int .i64 0, .slice none 0 0]) Tryd.underlying59 (by kernel_rfl) z_59 .nil) rfl ?_
   refine WL.sto sz_59 (.t L7) (.t L0) rfl rfl rfl C0 (by repeat constructor) ?_
   refine WL.as .c U8 rfl ?_
   refine WL.nil (QS.next (W.del (.dr .rf) (W.ret (QS.thenr (QS.blkr (QS.thenr ?_))))))
   have hf := fin_textE (b := b) (at_ := at_) (long := long) (kind := kind) (n := n) (by omega) (by omega)
   exact QS.fin (.inl rfl) rfl (.agg ag_59 rfl L6 H0 (.tmp L7 .nil)) (none, 0) (by rw [hf]; rfl) (.dr (.dr .nil)) (fun w _ _ => by rw [hf]; exact Rd.nil)
  ·
   refine W.del (.dr .rf) (W.skip (QS.next (W.region ?_)))
   refine WL.st (R.mv (.t L2)) rfl ?_
   refine WL.st (R.add (.t L0) .c (wi (by omega) (by omega))) rfl ?_
   refine WL.st (R.fa fo_59_3 (.t L6)) rfl ?_
   refine WL.sto sz_3 (.t L0) (.t L1) rfl rfl rfl C1 (by repeat constructor) ?_
   refine WL.nil (QS.blkn (QS.next (W.del (.dr (.dr (.dr .rf))) (W.seq (W.region ?_)))))
   refine WL.st (R.lda ag_59 (.t L4) H1 (by repeat constructor)) rfl ?_
   refine WL.sto sz_59 (.t L7) (.t L0) rfl rfl rfl C0 (by repeat constructor) ?_
   refine WL.as .c U8 rfl ?_
   refine WL.nil (QS.next (W.del (.dr .rf) (W.ret ?_)))
   first
     | (have hf := fin_text (b := b) (at_ := at_) (long := long) (kind := kind) (n := n) (by omega) (by omega); exact QS.fin (.inl rfl) rfl (.agg ag_59 rfl L6 H0 (.tmp L7 .nil)) (none, 0) (by rw [hf]; rfl) (.dr (.dr .nil)) (fun w _ _ => by rw [hf]; exact Rd.nil))
     | (have hf := fin_num (b := b) (at_ := at_) (long := long) (kind := kind) (n := n) (by omega); exact QS.fin (.inl rfl) rfl (.agg ag_59 rfl L6 H0 (.tmp L7 .nil)) (none, 0) (by rw [hf]; rfl) (.dr (.dr .nil)) (fun w _ _ => by rw [hf]; exact Rd.nil))
     | (have hf := fin_para (b := b) (at_ := at_) (long := long) (kind := kind) (n := n) (by omega); exact QS.fin (.inl rfl) rfl (.agg ag_59 rfl L6 H0 (.tmp L7 .nil)) (none, 0) (by rw [hf]; rfl) (.dr (.dr .nil)) (fun w _ _ => by rw [hf]; exact Rd.nil))
     | (have hf := fin_n0 (b := b) (at_ := at_) (long := long) (kind := kind) (n := n) (by omega) (by omega); exact QS.fin (.inl rfl) rfl (.agg ag_59 rfl L6 H0 (.tmp L7 .nil)) (none, 0) (by rw [hf]; rfl) (.dr (.dr .nil)) (fun w _ _ => by rw [hf]; exact Rd.nil))
 ·
  refine W.del (.dr .rf) (W.seq (W.seq (W.region ?_)))
  refine WL.st (R.eqi (.t L0) .c) rfl ?_
  refine WL.st (R.as (.t L0)) rfl ?_
  refine WL.nil (QS.next (W.del (.kp (.dr .rf)) ?_))
  refine W.cd (.t L0) (fun h2 => ?_) (fun h2 => ?_)
  ·
   refine W.skip (QS.next ?_)
   refine W.cdt (.t L0) h2 ?_
   refine W.del (.dr (.dr .rf)) (W.region ?_)
   refine WL.st (R.mv (.t L2)) rfl ?_
   refine WL.st (R.fa fo_59_3 (.t L5)) rfl ?_
   refine WL.sto sz_3 (.t L0) (.t L1) rfl rfl rfl C1 (by repeat constructor) ?_
   refine WL.nil (QS.blkn (QS.next (W.del (.dr (.dr .rf)) (W.seq (W.region ?_)))))
   refine WL.st (R.lda ag_59 (.t L4) H1 (by repeat constructor)) rfl ?_
   refine WL.sto sz_59 (.t L7) (.t L0) rfl rfl rfl C0 (by repeat constructor) ?_
   refine WL.as .c U8 rfl ?_
   refine WL.nil (QS.next (W.del (.dr .rf) (W.ret ?_)))
   first
     | (have hf := fin_text (b := b) (at_ := at_) (long := long) (kind := kind) (n := n) (by omega) (by omega); exact QS.fin (.inl rfl) rfl (.agg ag_59 rfl L6 H0 (.tmp L7 .nil)) (none, 0) (by rw [hf]; rfl) (.dr (.dr .nil)) (fun w _ _ => by rw [hf]; exact Rd.nil))
     | (have hf := fin_num (b := b) (at_ := at_) (long := long) (kind := kind) (n := n) (by omega); exact QS.fin (.inl rfl) rfl (.agg ag_59 rfl L6 H0 (.tmp L7 .nil)) (none, 0) (by rw [hf]; rfl) (.dr (.dr .nil)) (fun w _ _ => by rw [hf]; exact Rd.nil))
     | (have hf := fin_para (b := b) (at_ := at_) (long := long) (kind := kind) (n := n) (by omega); exact QS.fin (.inl rfl) rfl (.agg ag_59 rfl L6 H0 (.tmp L7 .nil)) (none, 0) (by rw [hf]; rfl) (.dr (.dr .nil)) (fun w _ _ => by rw [hf]; exact Rd.nil))
     | (have hf := fin_n0 (b := b) (at_ := at_) (long := long) (kind := kind) (n := n) (by omega) (by omega); exact QS.fin (.inl rfl) rfl (.agg ag_59 rfl L6 H0 (.tmp L7 .nil)) (none, 0) (by rw [hf]; rfl) (.dr (.dr .nil)) (fun w _ _ => by rw [hf]; exact Rd.nil))
  ·
   refine W.seq (W.region ?_)
   refine WL.st (R.eqi (.t L1) .c) rfl ?_
   refine WL.as (.t L0) U1 rfl ?_
   refine WL.nil (QS.next (W.del (.dr .rf) ?_))
   refine W.cd (.t L0) (fun h3 => ?_) (fun h3 => ?_)
   ·
    refine W.skip (QS.next ?_)
    refine W.cdt (.t L0) h3 ?_
    refine W.del (.dr (.dr .rf)) (W.region ?_)
    refine WL.st (R.mv (.t L2)) rfl ?_
    refine WL.st (R.fa fo_59_3 (.t L5)) rfl ?_
    refine WL.sto sz_3 (.t L0) (.t L1) rfl rfl rfl C1 (by repeat constructor) ?_
    refine WL.nil (QS.blkn (QS.next (W.del (.dr (.dr .rf)) (W.seq (W.region ?_)))))
    refine WL.st (R.lda ag_59 (.t L4) H1 (by repeat constructor)) rfl ?_
    refine WL.sto sz_59 (.t L7) (.t L0) rfl rfl rfl C0 (by repeat constructor) ?_
    refine WL.as .c U8 rfl ?_
    refine WL.nil (QS.next (W.del (.dr .rf) (W.ret ?_)))
    first
      | (have hf := fin_text (b := b) (at_ := at_) (long := long) (kind := kind) (n := n) (by omega) (by omega); exact QS.fin (.inl rfl) rfl (.agg ag_59 rfl L6 H0 (.tmp L7 .nil)) (none, 0) (by rw [hf]; rfl) (.dr (.dr .nil)) (fun w _ _ => by rw [hf]; exact Rd.nil))
      | (have hf := fin_num (b := b) (at_ := at_) (long := long) (kind := kind) (n := n) (by omega); exact QS.fin (.inl rfl) rfl (.agg ag_59 rfl L6 H0 (.tmp L7 .nil)) (none, 0) (by rw [hf]; rfl) (.dr (.dr .nil)) (fun w _ _ => by rw [hf]; exact Rd.nil))
      | (have hf := fin_para (b := b) (at_ := at_) (long := long) (kind := kind) (n := n) (by omega); exact QS.fin (.inl rfl) rfl (.agg ag_59 rfl L6 H0 (.tmp L7 .nil)) (none, 0) (by rw [hf]; rfl) (.dr (.dr .nil)) (fun w _ _ => by rw [hf]; exact Rd.nil))
      | (have hf := fin_n0 (b := b) (at_ := at_) (long := long) (kind := kind) (n := n) (by omega) (by omega); exact QS.fin (.inl rfl) rfl (.agg ag_59 rfl L6 H0 (.tmp L7 .nil)) (none, 0) (by rw [hf]; rfl) (.dr (.dr .nil)) (fun w _ _ => by rw [hf]; exact Rd.nil))
   ·
    refine W.seq (W.region ?_)
    refine WL.st (R.eqi (.t L1) .c) rfl ?_
    refine WL.as (.t L0) U1 rfl ?_
    refine WL.nil (QS.next (W.del (.dr .rf) ?_))
    refine W.cd (.t L0) (fun h4 => ?_) (fun h4 => ?_)
    ·
     refine W.skip (QS.next ?_)
     refine W.cdt (.t L0) h4 ?_
     refine W.del (.dr (.dr .rf)) (W.region ?_)
     refine WL.st (R.mv (.t L2)) rfl ?_
     refine WL.st (R.fa fo_59_3 (.t L5)) rfl ?_
     refine WL.sto sz_3 (.t L0) (.t L1) rfl rfl rfl C1 (by repeat constructor) ?_
     refine WL.nil (QS.blkn (QS.next (W.del (.dr (.dr .rf)) (W.seq (W.region ?_)))))
     refine WL.st (R.lda ag_59 (.t L4) H1 (by repeat constructor)) rfl ?_
     refine WL.sto sz_59 (.t L7) (.t L0) rfl rfl rfl C0 (by repeat constructor) ?_
     refine WL.as .c U8 rfl ?_
     refine WL.nil (QS.next (W.del (.dr .rf) (W.ret ?_)))
     first
       | (have hf := fin_text (b := b) (at_ := at_) (long := long) (kind := kind) (n := n) (by omega) (by omega); exact QS.fin (.inl rfl) rfl (.agg ag_59 rfl L6 H0 (.tmp L7 .nil)) (none, 0) (by rw [hf]; rfl) (.dr (.dr .nil)) (fun w _ _ => by rw [hf]; exact Rd.nil))
       | (have hf := fin_num (b := b) (at_ := at_) (long := long) (kind := kind) (n := n) (by omega); exact QS.fin (.inl rfl) rfl (.agg ag_59 rfl L6 H0 (.tmp L7 .nil)) (none, 0) (by rw [hf]; rfl) (.dr (.dr .nil)) (fun w _ _ => by rw [hf]; exact Rd.nil))
       | (have hf := fin_para (b := b) (at_ := at_) (long := long) (kind := kind) (n := n) (by omega); exact QS.fin (.inl rfl) rfl (.agg ag_59 rfl L6 H0 (.tmp L7 .nil)) (none, 0) (by rw [hf]; rfl) (.dr (.dr .nil)) (fun w _ _ => by rw [hf]; exact Rd.nil))
       | (have hf := fin_n0 (b := b) (at_ := at_) (long := long) (kind := kind) (n := n) (by omega) (by omega); exact QS.fin (.inl rfl) rfl (.agg ag_59 rfl L6 H0 (.tmp L7 .nil)) (none, 0) (by rw [hf]; rfl) (.dr (.dr .nil)) (fun w _ _ => by rw [hf]; exact Rd.nil))
    ·
     refine W.region ?_
     refine WL.st (R.eqi (.t L1) .c) rfl ?_
     refine WL.as (.t L0) U1 rfl ?_
     refine WL.nil (QS.next (W.del (.dr .rf) ?_))
     refine W.cd (.t L0) (fun h5 => ?_) (fun h5 => ?_)
     ·
      refine W.del (.dr (.dr .rf)) (W.region ?_)
      refine WL.st (R.mv (.t L2)) rfl ?_
      refine WL.st (R.fa fo_59_3 (.t L5)) rfl ?_
      refine WL.sto sz_3 (.t L0) (.t L1) rfl rfl rfl C1 (by repeat constructor) ?_
      refine WL.nil (QS.blkn (QS.next (W.del (.dr (.dr .rf)) (W.seq (W.region ?_)))))
      refine WL.st (R.lda ag_59 (.t L4) H1 (by repeat constructor)) rfl ?_
      refine WL.sto sz_59 (.t L7) (.t L0) rfl rfl rfl C0 (by repeat constructor) ?_
      refine WL.as .c U8 rfl ?_
      refine WL.nil (QS.next (W.del (.dr .rf) (W.ret ?_)))
      first
        | (have hf := fin_text (b := b) (at_ := at_) (long := long) (kind := kind) (n := n) (by omega) (by omega); exact QS.fin (.inl rfl) rfl (.agg ag_59 rfl L6 H0 (.tmp L7 .nil)) (none, 0) (by rw [hf]; rfl) (.dr (.dr .nil)) (fun w _ _ => by rw [hf]; exact Rd.nil))
        | (have hf := fin_num (b := b) (at_ := at_) (long := long) (kind := kind) (n := n) (by omega); exact QS.fin (.inl rfl) rfl (.agg ag_59 rfl L6 H0 (.tmp L7 .nil)) (none, 0) (by rw [hf]; rfl) (.dr (.dr .nil)) (fun w _ _ => by rw [hf]; exact Rd.nil))
        | (have hf := fin_para (b := b) (at_ := at_) (long := long) (kind := kind) (n := n) (by omega); exact QS.fin (.inl rfl) rfl (.agg ag_59 rfl L6 H0 (.tmp L7 .nil)) (none, 0) (by rw [hf]; rfl) (.dr (.dr .nil)) (fun w _ _ => by rw [hf]; exact Rd.nil))
        | (have hf := fin_n0 (b := b) (at_ := at_) (long := long) (kind := kind) (n := n) (by omega) (by omega); exact QS.fin (.inl rfl) rfl (.agg ag_59 rfl L6 H0 (.tmp L7 .nil)) (none, 0) (by rw [hf]; rfl) (.dr (.dr .nil)) (fun w _ _ => by rw [hf]; exact Rd.nil))
     ·
      refine W.del (.dr .rf) (W.seq (W.region ?_))
      refine WL.st (R.eqi (.t L0) .c) rfl ?_
      refine WL.st (R.as (.t L0)) rfl ?_
      refine WL.nil (QS.next (W.del (.kp (.dr .rf)) ?_))
      refine W.cd (.t L0) (fun h6 => ?_) (fun h6 => ?_)
      ·
       refine W.del (.dr (.dr .rf)) (W.region ?_)
       refine WL.st (R.mv (.t L2)) rfl ?_
       refine WL.st (R.sub (.t L0) .c (wi (by omega) (by omega))) rfl ?_
       refine WL.st (R.fa fo_59_3 (.t L6)) rfl ?_
       refine WL.sto sz_3 (.t L0) (.t L1) rfl rfl rfl C1 (by repeat constructor) ?_
       refine WL.nil (QS.blkn (QS.next (W.del (.dr (.dr (.dr .rf))) (W.seq (W.region ?_)))))
       refine WL.st (R.lda ag_59 (.t L4) H1 (by repeat constructor)) rfl ?_
       refine WL.sto sz_59 (.t L7) (.t L0) rfl rfl rfl C0 (by repeat constructor) ?_
       refine WL.as .c U8 rfl ?_
       refine WL.nil (QS.next (W.del (.dr .rf) (W.ret ?_)))
       first
         | (have hf := fin_text (b := b) (at_ := at_) (long := long) (kind := kind) (n := n) (by omega) (by omega); exact QS.fin (.inl rfl) rfl (.agg ag_59 rfl L6 H0 (.tmp L7 .nil)) (none, 0) (by rw [hf]; rfl) (.dr (.dr .nil)) (fun w _ _ => by rw [hf]; exact Rd.nil))
         | (have hf := fin_num (b := b) (at_ := at_) (long := long) (kind := kind) (n := n) (by omega); exact QS.fin (.inl rfl) rfl (.agg ag_59 rfl L6 H0 (.tmp L7 .nil)) (none, 0) (by rw [hf]; rfl) (.dr (.dr .nil)) (fun w _ _ => by rw [hf]; exact Rd.nil))
         | (have hf := fin_para (b := b) (at_ := at_) (long := long) (kind := kind) (n := n) (by omega); exact QS.fin (.inl rfl) rfl (.agg ag_59 rfl L6 H0 (.tmp L7 .nil)) (none, 0) (by rw [hf]; rfl) (.dr (.dr .nil)) (fun w _ _ => by rw [hf]; exact Rd.nil))
         | (have hf := fin_n0 (b := b) (at_ := at_) (long := long) (kind := kind) (n := n) (by omega) (by omega); exact QS.fin (.inl rfl) rfl (.agg ag_59 rfl L6 H0 (.tmp L7 .nil)) (none, 0) (by rw [hf]; rfl) (.dr (.dr .nil)) (fun w _ _ => by rw [hf]; exact Rd.nil))
      ·
       refine W.del (.dr .rf) (W.seq (W.region ?_))
       refine WL.st (R.eqi (.t L0) .c) rfl ?_
       refine WL.st (R.as (.t L0)) rfl ?_
       refine WL.nil (QS.next (W.del (.kp (.dr (.dr .rf))) ?_))
       refine W.cd (.t L0) (fun h7 => ?_) (fun h7 => ?_)
       ·
        refine W.del (.dr .rf) (W.seq (W.seq (W.region ?_)))
        refine WL.st (R.mv (.t L2)) rfl ?_
        refine WL.st (R.geq (.t L0) .c) rfl ?_
        refine WL.nil (QS.next (W.del (.kp (.dr .rf)) ?_))
        refine W.cd (.t L0) (fun h8 => ?_) (fun h8 => ?_)
        ·
         refine W.del (.dr .rf) (W.seq (W.region ?_))
         refine WL.st (R.bld (z := [.int .i64 0, .int .i64 0, .int .i64 0, .int .i64 0, .slice none 0 0]) Tryd.underlying59 (by kernel_rfl) z_59 .nil) rfl ?_
         refine WL.sto sz_59 (.t L7) (.t L0) rfl rfl rfl C0 (by repeat constructor) ?_
         refine WL.as .c U8 rfl ?_
         refine WL.nil (QS.next (W.del (.dr .rf) (W.ret (QS.thenr (QS.blkr (QS.thenr ?_))))))
         have hf := fin_tabE (b := b) (at_ := at_) (long := long) (kind := kind) (n := n) (by omega) (by omega)
         exact QS.fin (.inl rfl) rfl (.agg ag_59 rfl L6 H0 (.tmp L7 .nil)) (none, 0) (by rw [hf]; rfl) (.dr (.dr .nil)) (fun w _ _ => by rw [hf]; exact Rd.nil)
        ·
         refine W.del (.dr .rf) (W.skip (QS.next (W.seq (W.region ?_))))
         refine WL.st (R.fa fo_59_0 (.t L4)) rfl ?_
         refine WL.st (R.ld sc_3 (.t L0) H1 rfl) rfl ?_
         refine WL.st (R.fa fo_59_1 (.t L6)) rfl ?_
         refine WL.st (R.ld sc_3 (.t L0) H1 rfl) rfl ?_
         refine WL.st (R.add (.t L2) (.t L0) (wi (by omega) (by omega))) rfl ?_
         refine WL.as (.t L0) (E1 U3) rfl ?_
         refine WL.nil (QS.next (W.del (.dr (.dr (.dr (.dr (.dr .rf))))) (W.seq (W.seq (W.region ?_)))))
         refine WL.st (R.mv (.t L0)) rfl ?_
         refine WL.st (R.lenl sl_22 (.t L0)) rfl ?_
         refine WL.st (R.mv (.t (D1 L0))) rfl ?_
         refine WL.st (R.sub (.t L1) (.t L0) (wi (by omega) (by omega))) rfl ?_
         refine WL.st (R.mv (.t L6)) rfl ?_
         refine WL.st (R.add (.t L0) .c (wi (by omega) (by omega))) rfl ?_
         refine WL.st (R.lss (.t L2) (.t L0)) rfl ?_
         refine WL.nil (QS.next (W.del (.kp (.dr (.dr (.dr (.dr (.dr (.dr .rf))))))) ?_))
         refine W.cd (.t L0) (fun h9 => ?_) (fun h9 => ?_)
         ·
          refine W.del (.dr .rf) (W.seq (W.region ?_))
          refine WL.st (R.bld (z := [.int .i64 0, .int .i64 0, .int .i64 0, .int .i64 0, .slice none 0 0]) Tryd.underlying59 (by kernel_rfl) z_59 .nil) rfl ?_
          refine WL.sto sz_59 (.t L7) (.t L0) rfl rfl rfl C0 (by repeat constructor) ?_
          refine WL.as .c U8 rfl ?_
          refine WL.nil (QS.next (W.del (.dr .rf) (W.ret (QS.thenr (QS.blkr (QS.thenr ?_))))))
          have hf := fin_tabT (b := b) (at_ := at_) (long := long) (kind := kind) (n := n) (by omega) (by omega) (by omega)
          exact QS.fin (.inl rfl) rfl (.agg ag_59 rfl L6 H0 (.tmp L7 .nil)) (none, 0) (by rw [hf]; rfl) (.dr (.dr .nil)) (fun w _ _ => by rw [hf]; exact Rd.nil)
         ·
          refine W.del (.dr .rf) (W.skip (QS.next (W.seq (W.seq (W.region ?_)))))
          refine WL.st (R.mv (.t L0)) rfl ?_
          refine WL.st (R.mv (.t L9)) rfl ?_
          refine WL.st (R.mv (.t (D1 L0))) rfl ?_
          refine WL.st (R.mv (.t L5)) rfl ?_
          refine WL.st (R.add (.t L1) (.t L0) (wi (by omega) (by omega))) rfl ?_
          refine WL.st (R.add (.t L0) .c (wi (by omega) (by omega))) rfl ?_
          obtain ⟨fr, hfr⟩ : ∃ fr : Nat, at_ + long = (fr : Int) := ⟨(at_ + long).toNat, by omega⟩
          obtain ⟨m, hm⟩ : ∃ m : Nat, n + 1 = (m : Int) := ⟨(n + 1).toNat, by omega⟩
          refine WL.st (R.sll sl_22 (.t L5) (.yes (.t L4) (n := fr) (by omega)) (.yes (.t L0) (n := fr + m) (by omega)) (by omega) (by omega)) rfl ?_
          refine WL.st (R.lenl sl_22 (.t L0)) rfl ?_
          refine WL.st (R.mv .c) rfl ?_
          refine WL.nil (QS.next (W.del (.kp (.kp (.kp (.dr (.dr (.dr (.dr (.dr (.dr .rf))))))))) (W.block ?_)))
          refine W.nilrow 3 1 ?_
          refine W.loop (ι := {p : Nat × Option Addr × Nat // p.1 ≤ m}) (fun x => [(62, .int .i64 x.1.1), (61, .int .i64 ((fr + m - fr : Nat) : Int)), (60, .slice (cutA A c fr 1) (fr + m - fr) (c - fr)), (0, .slice A b.length c), (2, .int .i64 n), (4, .pointer (some ⟨g4, 0, none⟩)), (6, .pointer (some ⟨g6, 0, none⟩)), (7, .int .i64 0), (8, .int .i64 (at_ + long))]) (fun x => [.row (.slice x.1.2.1 x.1.1 x.1.2.2) 3 1 x.1.1 (icells (ints (((b.drop fr).take (fr + m - fr)).take x.1.1))), blk g6 59 [.int .i64 0, .int .i64 0, .int .i64 0, .int .i64 0, .slice none 0 0], blk g4 59 [.int .i64 at_, .int .i64 long, .int .i64 kind, .int .i64 0, .slice x.1.2.1 x.1.1 x.1.2.2]]) (fun x w => RdB w A b) (fun x => m - x.1.1) ⟨(0, none, 0), Nat.zero_le _⟩ (.kp rfl (.kp rfl (.kp rfl (.kp rfl (.dr (.kp rfl (.dr (.kp rfl (.dr (.kp rfl (.kp rfl (.kp rfl (.dr (.dr .nil)))))))))))))) (.kp rfl (.kp rfl (.kp rfl .nil))) (fun _ h _ => h) ?_
          intro x
          obtain ⟨⟨k, A5, c5⟩, hk⟩ := x
          dsimp only at hk
          show W _ _ _ _ _ [(62, .int .i64 k), (61, .int .i64 ((fr + m - fr : Nat) : Int)), (60, .slice (cutA A c fr 1) (fr + m - fr) (c - fr)), (0, .slice A b.length c), (2, .int .i64 n), (4, .pointer (some ⟨g4, 0, none⟩)), (6, .pointer (some ⟨g6, 0, none⟩)), (7, .int .i64 0), (8, .int .i64 (at_ + long))] [.row (.slice A5 k c5) 3 1 k (icells (ints (((b.drop fr).take (fr + m - fr)).take k))), blk g6 59 [.int .i64 0, .int .i64 0, .int .i64 0, .int .i64 0, .slice none 0 0], blk g4 59 [.int .i64 at_, .int .i64 long, .int .i64 kind, .int .i64 0, .slice A5 k c5]] (fun w => RdB w A b)
          refine W.seq (W.region ?_)
          refine WL.st (R.lss (.t L0) (.t L1)) rfl ?_
          refine WL.nil (QS.next (W.seq ?_))
          refine W.cd (.t L0) (fun h10 => ?_) (fun h10 => ?_)
          ·
           refine W.del (.dr .rf) (W.skip (QS.next (W.seq (W.block (W.seq ?_)))))
           have hbl : ((b.drop fr).take (fr + m - fr)).length = m := by simp; omega
           obtain ⟨x, hx⟩ : ∃ x, ((b.drop fr).take (fr + m - fr))[k]? = some x := ⟨_, List.getElem?_eq_getElem (by omega)⟩
           have hxb : x.toNat < 256 := x.toNat_lt
           have hcut : ∀ w, RdB w A b → RdB w (cutA A c fr 1) ((b.drop fr).take (fr + m - fr)) := fun w h => h.cut hc (by omega) (by omega)
           refine W.region ?_
           refine WL.st (R.ixB sl_22 (.t L2) (by omega) (.t L0) (j := k) rfl (by omega) (fun w hb => hcut w hb.get)) rfl ?_
           refine WL.st (R.ldp sc_5 (.t L0) (fun w hb => (hcut w hb.get).cell hx)) rfl ?_
           refine WL.st (R.as (.t L0)) rfl ?_
           refine WL.nil (QS.next (W.del (.kp (.dr (.dr .rf))) (W.region ?_)))
           refine WL.st (R.fa fo_59_4 (.t L6)) rfl ?_
           refine WL.st (R.ld sc_37 (.t L0) H2 rfl) rfl ?_
           refine WL.st (R.mv (.t L2)) rfl ?_
           refine WL.st (R.cvi Tryd.underlying5 ti_3 (.t L0) (wi (by omega) (by omega))) rfl ?_
           refine WL.bs1 sl_37 z_3 rfl (by decide) (by decide) (.t L0) rfl rfl rfl (fun g70 => ?_)
           refine WL.app' ap_37 (.t L3) (.t L0) (fun _ _ => C1) (fun w hb => Rd.of_blk (hb.has H0) rfl) rfl (by unfold maxLen; omega) (by omega) rfl (fun A71 c71 => ?_)
           refine WL.st (R.fa fo_59_4 (.t (D1 L2))) rfl ?_
           refine WL.sto sz_37 (.t L0) (.t L1) rfl rfl rfl C3 (by repeat constructor) ?_
           refine WL.nil (QS.blkn (QS.next (W.del (.dr (.dr (.dr (.dr (.dr (.dr (.dr .rf))))))) (W.region ?_))))
           refine WL.st (R.add (.t L1) .c (wi (by omega) (by omega))) rfl ?_
           refine WL.up (R.mv (.t L0)) U2 rfl ?_
           refine WL.nil ?_
           exact QS.at ⟨(k + 1, A71, c71), by dsimp only; omega⟩ (by dsimp only; omega) (.dr (.dr (.kp rfl (.kp rfl (.kp rfl (.kp rfl (.kp rfl (.kp rfl (.kp rfl (.kp rfl (.kp rfl .nil))))))))))) (.dr (.kp (by rw [← ints_snoc hx]) (.kp rfl (.kp rfl .nil)))) (fun _ h _ => h)
          ·
           refine W.del (.dr .rf) (W.exit (QS.thenx (QS.thenx (QS.blkx (QS.next (W.del (.dr (.dr (.dr .rf))) ?_))))))
           have hmk : k = m := by omega
           have e1 : (n + 1).toNat = m := by omega
           have e2 : (at_ + long).toNat = fr := by omega
           have hz : ((b.drop fr).take m).length = m := by simp; omega
           refine W.region ?_
           refine WL.st (R.fa fo_59_1 (.t L2)) rfl ?_
           refine WL.st (R.ld sc_3 (.t L0) H2 rfl) rfl ?_
           refine WL.st (R.mv (.t L3)) rfl ?_
           refine WL.st (R.add (.t L0) .c (wi (by omega) (by omega))) rfl ?_
           refine WL.st (R.add (.t L2) (.t L0) (wi (by omega) (by omega))) rfl ?_
           refine WL.st (R.fa fo_59_1 (.t L7)) rfl ?_
           refine WL.sto sz_3 (.t L0) (.t L1) rfl rfl rfl C2 (by repeat constructor) ?_
           refine WL.nil (QS.blkn (QS.next (W.del (.dr (.dr (.dr (.dr (.dr (.dr .rf)))))) (W.seq (W.region ?_)))))
           refine WL.st (R.lda ag_59 (.t L2) H2 (by repeat constructor)) rfl ?_
           refine WL.sto sz_59 (.t L4) (.t L0) rfl rfl rfl C1 (by repeat constructor) ?_
           refine WL.as .c U5 rfl ?_
           refine WL.nil (QS.next (W.del (.dr .rf) (W.ret ?_)))
           have hf := fin_tab (b := b) (at_ := at_) (long := long) (kind := kind) (n := n) (by omega) (by omega) (by omega)
           exact QS.fin (.inl rfl) rfl (.agg ag_59 rfl L3 H1 (.tmp L4 .nil)) (A5, c5) (by rw [hf]; simp [resVal, ints_length]; omega) (.dr (.dr (.dr .nil))) (fun w _ hd => by rw [hf]; have h1 := Rd.of_row hd.1; subst hmk; simp only [e1, e2]; unfold RdI; rw [ints_length, hz]; simpa [List.take_take] using h1)
       ·
        refine W.del (.dr .rf) (W.seq (W.region ?_))
        refine WL.st (R.mv (.t L2)) rfl ?_
        refine WL.st (R.nei (.t L0) .c) rfl ?_
        refine WL.nil (QS.next (W.del (.kp (.dr .rf)) ?_))
        refine W.cd (.t L0) (fun h11 => ?_) (fun h11 => ?_)
        ·
         refine W.del (.dr .rf) (W.seq (W.region ?_))
         refine WL.st (R.bld (z := [.int .i64 0, .int .i64 0, .int .i64 0, .int .i64 0, .slice none 0 0]) Tryd.underlying59 (by kernel_rfl) z_59 .nil) rfl ?_
         refine WL.sto sz_59 (.t L7) (.t L0) rfl rfl rfl C0 (by repeat constructor) ?_
         refine WL.as .c U8 rfl ?_
         refine WL.nil (QS.next (W.del (.dr .rf) (W.ret (QS.blkr (QS.thenr ?_)))))
         have hf := fin_nE (b := b) (at_ := at_) (long := long) (kind := kind) (n := n) (by omega) (by omega)
         exact QS.fin (.inl rfl) rfl (.agg ag_59 rfl L6 H0 (.tmp L7 .nil)) (none, 0) (by rw [hf]; rfl) (.dr (.dr .nil)) (fun w _ _ => by rw [hf]; exact Rd.nil)
        ·
         refine W.del (.dr .rf) (W.skip (QS.blkn (QS.next (W.seq (W.region ?_)))))
         refine WL.st (R.lda ag_59 (.t L4) H1 (by repeat constructor)) rfl ?_
         refine WL.sto sz_59 (.t L7) (.t L0) rfl rfl rfl C0 (by repeat constructor) ?_
         refine WL.as .c U8 rfl ?_
         refine WL.nil (QS.next (W.del (.dr .rf) (W.ret ?_)))
         first
           | (have hf := fin_text (b := b) (at_ := at_) (long := long) (kind := kind) (n := n) (by omega) (by omega); exact QS.fin (.inl rfl) rfl (.agg ag_59 rfl L6 H0 (.tmp L7 .nil)) (none, 0) (by rw [hf]; rfl) (.dr (.dr .nil)) (fun w _ _ => by rw [hf]; exact Rd.nil))
           | (have hf := fin_num (b := b) (at_ := at_) (long := long) (kind := kind) (n := n) (by omega); exact QS.fin (.inl rfl) rfl (.agg ag_59 rfl L6 H0 (.tmp L7 .nil)) (none, 0) (by rw [hf]; rfl) (.dr (.dr .nil)) (fun w _ _ => by rw [hf]; exact Rd.nil))
           | (have hf := fin_para (b := b) (at_ := at_) (long := long) (kind := kind) (n := n) (by omega); exact QS.fin (.inl rfl) rfl (.agg ag_59 rfl L6 H0 (.tmp L7 .nil)) (none, 0) (by rw [hf]; rfl) (.dr (.dr .nil)) (fun w _ _ => by rw [hf]; exact Rd.nil))
           | (have hf := fin_n0 (b := b) (at_ := at_) (long := long) (kind := kind) (n := n) (by omega) (by omega); exact QS.fin (.inl rfl) rfl (.agg ag_59 rfl L6 H0 (.tmp L7 .nil)) (none, 0) (by rw [hf]; rfl) (.dr (.dr .nil)) (fun w _ _ => by rw [hf]; exact Rd.nil))

set_option maxHeartbeats 1000000 in
theorem code_Next {A : Option Addr} {b : List UInt8} {c : Nat} {at_ : Int} (hc : b.length ≤ c) (hl : b.length ≤ 140737488355328) {C : Cx} (hb : Hb C C.w0 [] (fun w => RdB w A b)) :
    Sp Tryd.prog 30 [.slice A b.length c, .int .i64 at_] C (ι := Option Addr × Nat) (fun x => .tuple #[instrV (nextS b at_).1 x.1 x.2, .int .i64 (nextS b at_).2]) (fun _ => []) (fun x w => RdI w x.1 (nextS b at_).1.widths) := by
 refine Sp.enter (N := 72) (e := entryEnv [.slice A b.length c, .int .i64 at_] 0 12) Tryd.func30 rfl rfl (Nat.le_of_ble_eq_true rfl) (entry_ok (Nat.le_of_ble_eq_true rfl) (Nat.le_of_ble_eq_true rfl)) (entry_nd _ _) hb ?_
 show W _ _ _ _ _ [(0, .slice A b.length c), (1, .int .i64 at_), (2, undef), (3, undef), (4, undef), (5, undef), (6, undef), (7, undef), (8, undef), (9, undef), (10, undef), (11, undef)] _ _
 refine W.seq (W.region ?_)
 refine WL.allocu z_59 (fun _ => U4) rfl (fun g4 => ?_)
 refine WL.as .c U5 rfl ?_
 refine WL.nil (QS.next (W.seq (W.seq (W.region ?_))))
 refine WL.st (R.mv (.t L1)) rfl ?_
 refine WL.st (R.lss (.t L0) .c) rfl ?_
 refine WL.st (R.mv (.t L0)) rfl ?_
 refine WL.cd L0 U0 U0 (fun hg14 => ?_) (fun hg14 => ?_)
 ·
  refine WL.gn rfl L0 rfl ?_
  refine WL.gn rfl L1 rfl ?_
  refine WL.gn rfl L2 rfl ?_
  refine WL.gn rfl L3 rfl ?_
  refine WL.st (R.pkt (.t L4) .c) rfl ?_
  refine WL.nil (QS.next (W.del (.kp (.dr (.dr (.dr (.dr (.dr (.dr (.dr .rf)))))))) (W.ct (.t L0) (W.del (.dr .rf) (W.seq (W.region ?_))))))
  refine WL.st (R.bld (z := [.int .i64 0, .int .i64 0, .int .i64 0, .int .i64 0, .slice none 0 0]) Tryd.underlying59 (by kernel_rfl) z_59 .nil) rfl ?_
  refine WL.sto sz_59 (.t L5) (.t L0) rfl rfl rfl C0 (by repeat constructor) ?_
  refine WL.as .c U6 rfl ?_
  refine WL.nil (QS.next (W.del (.dr .rf) (W.ret (QS.thenr ?_))))
  first
    | (have hf := next_rng (b := b) (at_ := at_) (by omega); exact QS.fin (.inl rfl) rfl (.agg ag_59 rfl L4 H0 (.tmp L5 .nil)) (none, 0) (by rw [hf]; rfl) (.dr .nil) (fun w _ _ => by rw [hf]; exact Rd.nil))
 ·
  refine WL.gy rfl L0 (R.mv (.t L4)) rfl ?_
  refine WL.gy rfl L1 (R.mv (.t L4)) rfl ?_
  refine WL.gy rfl L2 (R.lenl sl_22 (.t L0)) rfl ?_
  refine WL.gy rfl L3 (R.geq (.t L2) (.t L0)) rfl ?_
  refine WL.st (R.pkf (.t L4) (.t L0)) rfl ?_
  refine WL.nil (QS.next (W.del (.kp (.dr (.dr (.dr (.dr (.dr (.dr (.dr .rf)))))))) ?_))
  refine W.cd (.t L0) (fun h0 => ?_) (fun h0 => ?_)
  ·
   refine W.del (.dr .rf) (W.seq (W.region ?_))
   refine WL.st (R.bld (z := [.int .i64 0, .int .i64 0, .int .i64 0, .int .i64 0, .slice none 0 0]) Tryd.underlying59 (by kernel_rfl) z_59 .nil) rfl ?_
   refine WL.sto sz_59 (.t L5) (.t L0) rfl rfl rfl C0 (by repeat constructor) ?_
   refine WL.as .c U6 rfl ?_
   refine WL.nil (QS.next (W.del (.dr .rf) (W.ret (QS.thenr ?_))))
   first
     | (have hf := next_rng (b := b) (at_ := at_) (by omega); exact QS.fin (.inl rfl) rfl (.agg ag_59 rfl L4 H0 (.tmp L5 .nil)) (none, 0) (by rw [hf]; rfl) (.dr .nil) (fun w _ _ => by rw [hf]; exact Rd.nil))
  ·
   refine W.del (.dr .rf) (W.skip (QS.next (W.seq ?_)))
   obtain ⟨k, rfl⟩ : ∃ k : Nat, at_ = (k : Int) := ⟨at_.toNat, by omega⟩
   obtain ⟨x, hx⟩ : ∃ x, b[k]? = some x := ⟨_, List.getElem?_eq_getElem (by omega)⟩
   have hxb : x.toNat < 256 := x.toNat_lt
   have hnb := numL_bd (b.drop (k + 1))
   rw [List.length_drop] at hnb
   refine W.draw 14 mixed (by kernel_rfl) ?_
   refine HD.st (R.mv (.t L0)) rfl ?_
   refine HD.st (R.mv (.t L2)) rfl ?_
   refine HD.st (R.ixB sl_22 (.t L1) rfl (.t L0) (j := k) rfl (by omega) (fun w hb => hb.get)) rfl ?_
   refine HD.st (R.ldp sc_5 (.t L0) (fun w hb => hb.get.cell hx)) rfl ?_
   refine HD.st (R.shr (.t L0) .c (by omega) (shr4 _)) rfl ?_
   refine HD.st (R.cvi Tryd.underlying5 ti_57 (.t L0) (wi (by omega) (by omega))) rfl ?_
   refine HD.st (R.mv (.t L6)) rfl ?_
   refine HD.st (R.mv (.t L8)) rfl ?_
   refine HD.st (R.ixB sl_22 (.t L1) rfl (.t L0) (j := k) rfl (by omega) (fun w hb => hb.get)) rfl ?_
   refine HD.st (R.ldp sc_5 (.t L0) (fun w hb => hb.get.cell hx)) rfl ?_
   refine HD.st (R.bits (.inl rfl) (.t L0) .c (eu8_and15 hxb)) rfl ?_
   refine HD.st (R.cvi Tryd.underlying5 ti_3 (.t L0) (wi (by omega) (by omega))) rfl ?_
   refine HD.up (R.as (.t L6)) (E1 U8) rfl ?_
   refine HD.up (R.as (.t L0)) (E1 U9) rfl ?_
   refine HD.nil (WL.nil (QS.next (W.del (.dr (.dr (.dr (.dr (.dr (.dr (.dr (.dr (.dr (.dr (.dr (.dr .rf)))))))))))) (W.seq (W.seq (W.region ?_))))))
   refine WL.st (R.mv (.t L6)) rfl ?_
   refine WL.st (R.eqi (.t L0) .c) rfl ?_
   refine WL.nil (QS.next (W.del (.kp (.dr .rf)) ?_))
   refine W.cd (.t L0) (fun h1 => ?_) (fun h1 => ?_)
   ·
    refine W.del (.dr .rf) (W.seq (W.region ?_))
    refine WL.st (R.bld (z := [.int .i64 0, .int .i64 0, .int .i64 0, .int .i64 0, .slice none 0 0]) Tryd.underlying59 (by kernel_rfl) z_59 .nil) rfl ?_
    refine WL.sto sz_59 (.t L5) (.t L0) rfl rfl rfl C0 (by repeat constructor) ?_
    refine WL.as .c U6 rfl ?_
    refine WL.nil (QS.next (W.del (.dr .rf) (W.ret (QS.thenr ?_))))
    have hf := next_op0 hx (by omega)
    exact QS.fin (.inl rfl) rfl (.agg ag_59 rfl L4 H0 (.tmp L5 .nil)) (none, 0) (by rw [hf]; rfl) (.dr .nil) (fun w _ _ => by rw [hf]; exact Rd.nil)
   ·
    refine W.del (.dr .rf) (W.skip (QS.next (W.seq (W.region ?_))))
    refine WL.st (R.mv (.t L1)) rfl ?_
    refine WL.st (R.mv (.t L7)) rfl ?_
    refine WL.st (R.bld (z := [.int .i64 0, .int .i64 0, .int .i64 0, .int .i64 0, .slice none 0 0]) Tryd.underlying59 (by kernel_rfl) z_59 (.cons fo_59_0 fz_59_0 rfl (.t L1) rfl (by repeat constructor) (.cons fo_59_1 fz_59_1 rfl .c rfl (by repeat constructor) (.cons fo_59_2 fz_59_2 rfl (.t L0) rfl (by repeat constructor) .nil)))) rfl ?_
    refine WL.allocu z_59 (fun _ => (E1 U1)) rfl (fun g8 => ?_)
    refine WL.sto sz_59 (.t (D1 L1)) (.t L0) rfl rfl rfl C0 (by repeat constructor) ?_
    refine WL.nil (QS.next (W.del (.dr (.dr (.dr .rf))) (W.seq (W.seq (W.region ?_)))))
    refine WL.st (R.mv (.t L7)) rfl ?_
    refine WL.st (R.eqi (.t L0) .c) rfl ?_
    refine WL.nil (QS.next (W.del (.kp (.dr .rf)) ?_))
    refine W.cd (.t L0) (fun h2 => ?_) (fun h2 => ?_)
    ·
     refine W.del (.dr .rf) (W.seq (W.region ?_))
     refine WL.st (R.mv (.t L0)) rfl ?_
     refine WL.st (R.mv (.t L2)) rfl ?_
     refine WL.st (R.add (.t L0) .c (wi (by omega) (by omega))) rfl ?_
     refine WL.st (R.vq (R.sll sl_22 (.t L2) (.yes (.t L0) (n := k + 1) (by omega)) .no (by omega) hc) (show _ = Value.slice (cutA A c (k + 1) 1) (b.drop (k + 1)).length (c - (k + 1)) by rw [List.length_drop])) rfl ?_
     refine WL.call gf_55 .f (.cons (.t L0) .nil) (.dr (.dr .nil)) (fun w hb => (octet_New (l := b.drop (k + 1)) (by simp; omega) (hb.imp fun w h => RdB.tail h hc (by omega)))) rfl (fun x45 => ?_)
     refine WL.as (.t L0) (E1 U4) rfl ?_
     refine WL.nil (QS.next (W.del (.dr (.dr (.dr (.dr (.dr .rf))))) (W.seq (W.region ?_))))
     refine WL.st (R.mv (.t L9)) rfl ?_
     refine WL.call1r gf_56 .f (.cons (.t L0) .nil) I0 (fun w ds hb => (cur_Uint (l := b.drop (k + 1)) (by simp; omega) (hb.imp fun w h => h.2))) rfl ?_
     refine WL.as (.t L0) (E1 U2) rfl ?_
     refine WL.nil (QS.next (W.del (.dr (.dr .rf)) (W.seq (W.seq (W.region ?_)))))
     refine WL.st (R.mv (.t L9)) rfl ?_
     refine WL.call1r gf_57 .f (.cons (.t L0) .nil) I0 (fun w ds hb => (cur_Err (hb.imp fun _ _ => trivial))) rfl ?_
     refine WL.as (.t L0) (E1 U3) rfl ?_
     refine WL.nil (QS.next (W.del (.dr (.dr .rf)) (W.seq (W.region ?_))))
     refine WL.st (R.mv (.t (D1 L1))) rfl ?_
     refine WL.st (R.nei (.t L0) .c) rfl ?_
     refine WL.nil (QS.next (W.del (.kp (.dr .rf)) ?_))
     refine W.cd (.t L0) (fun h3 => ?_) (fun h3 => ?_)
     ·
      refine W.del (.dr .rf) (W.seq (W.region ?_))
      refine WL.st (R.bld (z := [.int .i64 0, .int .i64 0, .int .i64 0, .int .i64 0, .slice none 0 0]) Tryd.underlying59 (by kernel_rfl) z_59 .nil) rfl ?_
      refine WL.st (R.mv (.t (D1 L2))) rfl ?_
      refine WL.sto sz_59 (.t L6) (.t L1) rfl rfl rfl C2 (by repeat constructor) ?_
      refine WL.as (.t L0) U7 rfl ?_
      refine WL.nil (QS.next (W.del (.dr (.dr .rf)) (W.ret (QS.thenr (QS.thenr ?_)))))
      have hf := next_err hx (by omega) (by omega) h3
      exact QS.fin (.inl rfl) rfl (.agg ag_59 rfl L4 H2 (.tmp L5 .nil)) (none, 0) (by rw [hf]; rfl) (.dr (.dr (.dr .nil))) (fun w _ _ => by rw [hf]; exact Rd.nil)
     ·
      refine W.del (.dr .rf) (W.skip (QS.next (W.seq (W.seq (W.region ?_)))))
      refine WL.st (R.mv (.t (D1 L0))) rfl ?_
      refine WL.st (R.gtr (.t L0) .c) rfl ?_
      refine WL.nil (QS.next (W.del (.kp (.dr .rf)) ?_))
      refine W.cd (.t L0) (fun h4 => ?_) (fun h4 => ?_)
      ·
       refine W.del (.dr .rf) (W.seq (W.region ?_))
       refine WL.st (R.bld (z := [.int .i64 0, .int .i64 0, .int .i64 0, .int .i64 0, .slice none 0 0]) Tryd.underlying59 (by kernel_rfl) z_59 .nil) rfl ?_
       refine WL.sto sz_59 (.t L5) (.t L0) rfl rfl rfl C2 (by repeat constructor) ?_
       refine WL.as .c U6 rfl ?_
       refine WL.nil (QS.next (W.del (.dr .rf) (W.ret (QS.thenr (QS.thenr ?_)))))
       have hf := next_big hx (by omega) (by omega) h3 h4
       exact QS.fin (.inl rfl) rfl (.agg ag_59 rfl L4 H2 (.tmp L5 .nil)) (none, 0) (by rw [hf]; rfl) (.dr (.dr (.dr .nil))) (fun w _ _ => by rw [hf]; exact Rd.nil)
      ·
       refine W.del (.dr .rf) (W.skip (QS.next (W.seq (W.region ?_))))
       refine WL.st (R.mv (.t (D1 L0))) rfl ?_
       refine WL.st (R.cvi Tryd.underlying113 ti_3 (.t L0) (wi (by omega) (by omega))) rfl ?_
       refine WL.st (R.add (.t L0) .c (wi (by omega) (by omega))) rfl ?_
       refine WL.as (.t L0) (E1 U0) rfl ?_
       refine WL.nil (QS.next (W.del (.dr (.dr (.dr .rf))) ?_))
       refine W.draw 6 mixed (by kernel_rfl) ?_
       refine HD.st (R.fa fo_59_1 (.t L8)) rfl ?_
       refine HD.st (R.ld sc_3 (.t L0) H1 rfl) rfl ?_
       refine HD.st (R.mv (.t (D1 L1))) rfl ?_
       refine HD.call1r gf_58 .f (.cons (.t L0) .nil) I0 (fun w ds hb => (cur_At (hb.imp fun _ _ => trivial))) rfl ?_
       refine HD.st (R.add (.t L2) (.t L0) (wi (by omega) (by omega))) rfl ?_
       refine HD.st (R.fa fo_59_1 (.t (D1 L3))) rfl ?_
       refine HD.nil ?_
       refine WL.sto sz_3 (.t L0) (.t L1) rfl rfl rfl C1 (by repeat constructor) ?_
       refine WL.nil (QS.next (W.del (.dr (.dr (.dr (.dr (.dr (.dr .rf)))))) (W.seq (W.region ?_))))
       refine WL.st (R.mv (.t L0)) rfl ?_
       refine WL.st (R.lda ag_59 (.t L9) H1 (by repeat constructor)) rfl ?_
       refine WL.st (R.mv (.t L9)) rfl ?_
       refine WL.call gf_59 .f (.cons (.t L2) (.cons (.t L1) (.cons (.t L0) .nil))) (.dr (.dr (.dr .nil))) (fun w hb => (code_finish hc hl (by omega) (by omega) (by omega) (by omega) (by omega) (hb.imp fun w h => by first | exact h | exact h.1))) rfl (fun x69 => ?_)
       refine WL.st (R.ex (.t L0) .here) rfl ?_
       refine WL.st (R.ex (.t L1) (.skip .here)) rfl ?_
       refine WL.sto sz_59 (.t (D1 L0)) (.t L1) rfl rfl rfl C2 (by repeat constructor) ?_
       refine WL.as (.t L0) (E1 U1) rfl ?_
       refine WL.nil (QS.next (W.del (.dr (.dr (.dr (.dr (.dr (.dr .rf)))))) (W.ret ?_)))
       first
         | (have hf := next_long hx (by omega) (by omega) h3 h4; exact QS.fin (.inl rfl) rfl (.agg ag_59 rfl L4 H2 (.tmp L5 .nil)) x69 (by rw [hf]; rfl) (.dr (.dr (.dr .nil))) (fun w h _ => by rw [hf]; exact h.2))
         | (have hf := next_short hx (by omega) (by omega); exact QS.fin (.inl rfl) rfl (.agg ag_59 rfl L4 H2 (.tmp L5 .nil)) x69 (by rw [hf]; rfl) (.dr (.dr (.dr .nil))) (fun w h _ => by rw [hf]; exact h.2))
    ·
     refine W.del (.dr .rf) (W.skip (QS.next (W.seq (W.region ?_))))
     refine WL.st (R.mv (.t L0)) rfl ?_
     refine WL.st (R.lda ag_59 (.t L9) H0 (by repeat constructor)) rfl ?_
     refine WL.st (R.mv (.t L9)) rfl ?_
     refine WL.call gf_59 .f (.cons (.t L2) (.cons (.t L1) (.cons (.t L0) .nil))) (.dr (.dr .nil)) (fun w hb => (code_finish hc hl (by omega) (by omega) (by omega) (by omega) (by omega) (hb.imp fun w h => by first | exact h | exact h.1))) rfl (fun x69 => ?_)
     refine WL.st (R.ex (.t L0) .here) rfl ?_
     refine WL.st (R.ex (.t L1) (.skip .here)) rfl ?_
     refine WL.sto sz_59 (.t (D1 L0)) (.t L1) rfl rfl rfl C1 (by repeat constructor) ?_
     refine WL.as (.t L0) (E1 U1) rfl ?_
     refine WL.nil (QS.next (W.del (.dr (.dr (.dr (.dr (.dr (.dr .rf)))))) (W.ret ?_)))
     first
       | (have hf := next_long hx (by omega) (by omega) h3 h4; exact QS.fin (.inl rfl) rfl (.agg ag_59 rfl L4 H1 (.tmp L5 .nil)) x69 (by rw [hf]; rfl) (.dr (.dr .nil)) (fun w h _ => by rw [hf]; exact h.2))
       | (have hf := next_short hx (by omega) (by omega); exact QS.fin (.inl rfl) rfl (.agg ag_59 rfl L4 H1 (.tmp L5 .nil)) x69 (by rw [hf]; rfl) (.dr (.dr .nil)) (fun w h _ => by rw [hf]; exact h.2))

set_option maxHeartbeats 1000000 in
theorem code_Instrs {A : Option Addr} {b : List UInt8} {c : Nat} (hc : b.length ≤ c) (hl : b.length ≤ 140737488355328) {C : Cx} (hb : Hb C C.w0 [] (fun w => RdB w A b)) :
    Sp Tryd.prog 34 [.slice A b.length c] C (ι := {x : (Option Addr × Nat) × List (InstrS × Option Addr × Nat) // x.2.map (·.1) = (instrsS b).1}) (fun x => .tuple #[.slice x.1.1.1 (instrsS b).1.length x.1.1.2, .int .i64 (instrsS b).2.1, .int .i64 (instrsS b).2.2]) (fun _ => []) (fun x w => RdM w x.1.1.1 x.1.2) := by
 refine Sp.enter (N := 45) (e := entryEnv [.slice A b.length c] 0 9) Tryd.func34 rfl rfl (Nat.le_of_ble_eq_true rfl) (entry_ok (Nat.le_of_ble_eq_true rfl) (Nat.le_of_ble_eq_true rfl)) (entry_nd _ _) hb ?_
 show W _ _ _ _ _ [(0, .slice A b.length c), (1, undef), (2, undef), (3, undef), (4, undef), (5, undef), (6, undef), (7, undef), (8, undef)] _ _
 refine W.seq (W.region ?_)
 refine WL.as .c U2 rfl ?_
 refine WL.as .c U3 rfl ?_
 refine WL.as .c U4 rfl ?_
 refine WL.nil (QS.next (W.seq (W.seq (W.region ?_))))
 refine WL.st (R.mv (.t L0)) rfl ?_
 refine WL.st (R.lenl sl_22 (.t L0)) rfl ?_
 refine WL.st (R.gtr (.t L0) .c) rfl ?_
 refine WL.nil (QS.next (W.del (.kp (.dr (.dr .rf))) ?_))
 refine W.cd (.t L0) (fun h0 => ?_) (fun h0 => ?_)
 ·
  refine W.del (.dr .rf) (W.seq (W.region ?_))
  refine WL.as .c U2 rfl ?_
  refine WL.as .c U3 rfl ?_
  refine WL.as .c U4 rfl ?_
  refine WL.nil (QS.next (W.ret (QS.thenr ?_)))
  have hr : instrsS b = ([], 0, 2) := if_pos (by omega)
  exact QS.fin (.inl rfl) rfl (.tmp L2 (.tmp L3 (.tmp L4 .nil))) ⟨((none, 0), []), by rw [hr]; rfl⟩ (by dsimp only; rw [hr]; rfl) .nil (fun w _ _ => RdM.nil)
 ·
  refine W.del (.dr .rf) (W.skip (QS.next (W.seq (W.region ?_))))
  refine WL.as .c U5 rfl ?_
  refine WL.nil (QS.next (W.seq (W.seq (W.region ?_))))
  refine WL.as .c U6 rfl ?_
  refine WL.nil (QS.next (W.block ?_))
  have h0 : instrsS b = instrsF b.length b 0 := if_neg (by omega)
  refine W.nilrow 59 5 ?_
  refine W.loop (ι := {p : (List (InstrS × Option Addr × Nat) × Nat × Nat) × Option Addr × Nat // behind (p.1.1.map (·.1)) (instrsF p.1.2.2 b p.1.2.1) = instrsS b ∧ b.length ≤ p.1.2.1 + p.1.2.2 ∧ p.1.2.1 ≤ b.length ∧ p.1.1.length ≤ p.1.2.1}) (fun x => [(0, .slice A b.length c), (2, .slice none 0 0), (3, .int .i64 0), (4, .int .i64 0), (5, .slice x.1.2.1 x.1.1.1.length x.1.2.2), (6, .int .i64 x.1.1.2.1)]) (fun x => [.row (.slice x.1.2.1 x.1.1.1.length x.1.2.2) 59 5 x.1.1.1.length (mcells x.1.1.1)]) (fun x w => RdB w A b ∧ ∀ q ∈ x.1.1.1, RdI w q.2.1 q.1.widths) (fun x => b.length - x.1.1.2.1) ⟨(([], 0, b.length), none, 0), by rw [h0]; simp [behind], by simp, by simp, by simp⟩ (.kp rfl (.dr (.kp rfl (.kp rfl (.kp rfl (.kp rfl (.kp rfl (.dr (.dr .nil))))))))) (.kp rfl .nil) (fun _ h _ => ⟨h, fun q hq => absurd hq (by simp)⟩) ?_
  intro x
  obtain ⟨⟨⟨M, k, f⟩, Al, cl⟩, hi1, hi2, hi3, hi4⟩ := x
  dsimp only at hi1 hi2 hi3 hi4
  show W _ _ _ _ _ [(0, .slice A b.length c), (2, .slice none 0 0), (3, .int .i64 0), (4, .int .i64 0), (5, .slice Al M.length cl), (6, .int .i64 k)] [.row (.slice Al M.length cl) 59 5 M.length (mcells M)] (fun w => RdB w A b ∧ ∀ q ∈ M, RdI w q.2.1 q.1.widths)
  refine W.seq (W.seq (W.region ?_))
  refine WL.st (R.mv (.t L5)) rfl ?_
  refine WL.st (R.mv (.t L1)) rfl ?_
  refine WL.st (R.lenl sl_22 (.t L0)) rfl ?_
  refine WL.st (R.lss (.t L2) (.t L0)) rfl ?_
  refine WL.nil (QS.next (W.del (.kp (.dr (.dr (.dr .rf)))) ?_))
  refine W.cd (.t L0) (fun h1 => ?_) (fun h1 => ?_)
  ·
   refine W.del (.dr .rf) (W.skip (QS.next (W.block (W.seq (W.region ?_)))))
   refine WL.st (R.mv (.t L0)) rfl ?_
   refine WL.st (R.mv (.t L6)) rfl ?_
   refine WL.call gf_30 .f (.cons (.t L1) (.cons (.t L0) .nil)) (.dr .nil) (fun w hb => (code_Next hc hl (hb.imp fun w h => h.1))) rfl (fun x19 => ?_)
   have hno := next_ok (b := b) (k := k)
   refine WL.st (R.mv (.t L0)) rfl ?_
   refine WL.st (R.ex (.t L0) .here) rfl ?_
   refine WL.st (R.ex (.t L1) (.skip .here)) rfl ?_
   refine WL.alloc z_59 rfl (fun g7 => ?_)
   refine WL.sto sz_59 (.t L0) (.t L2) rfl rfl rfl C0 (by repeat constructor) ?_
   refine WL.st (R.as (.t L1)) rfl ?_
   refine WL.nil (QS.next (W.del (.kp (.kp (.dr (.dr (.dr (.dr (.dr (.dr .rf)))))))) (W.seq (W.seq (W.region ?_)))))
   refine WL.st (R.mv (.t L0)) rfl ?_
   refine WL.st (R.nei (.t L0) .c) rfl ?_
   refine WL.nil (QS.next (W.del (.kp (.dr .rf)) ?_))
   refine W.cd (.t L0) (fun h2 => ?_) (fun h2 => ?_)
   ·
    refine W.del (.dr .rf) (W.seq (W.region ?_))
    refine WL.st (R.mv (.t L7)) rfl ?_
    refine WL.st (R.mv (.t L1)) rfl ?_
    refine WL.as .c U5 rfl ?_
    refine WL.as (.t L1) U6 rfl ?_
    refine WL.as (.t L0) U7 rfl ?_
    refine WL.nil (QS.next (W.del (.dr (.dr .rf)) (W.ret (QS.thenr (QS.blkr (QS.thenr (QS.blkr (QS.thenr ?_))))))))
    have hr := (ins_err hi1 hi2 (by omega) h2).symm.symm
    exact QS.fin (.inl rfl) rfl (.tmp L3 (.tmp L4 (.tmp L5 .nil))) ⟨((none, 0), []), by rw [hr]; rfl⟩ (by dsimp only; rw [hr]; rfl) (.dr (.dr .nil)) (fun w _ _ => RdM.nil)
   ·
    refine W.del (.dr .rf) (W.skip (QS.next (W.seq ?_)))
    have hno := hno (by omega)
    cases f with
    | zero => exfalso; omega
    | succ f => ?_
    refine W.region ?_
    refine WL.st (R.mv (.t L6)) rfl ?_
    refine WL.st (R.lda ag_59 (.t L2) H0 (by repeat constructor)) rfl ?_
    refine WL.bs1 sl_65 z_59 rfl (by decide) (by decide) (.t L0) rfl rfl rfl (fun g28 => ?_)
    refine WL.app' ap_65 (.t L2) (.t L0) (fun _ _ => C2) (fun w hb => Rd.of_blk (hb.has H0) rfl) rfl (by unfold maxLen; omega) (by omega) rfl (fun A29 c29 => ?_)
    refine WL.as (.t L0) (E1 U0) rfl ?_
    refine WL.nil (QS.next (W.del (.dr (.dr (.dr (.dr .rf)))) (W.seq (W.region ?_))))
    refine WL.st (R.mv (.t L7)) rfl ?_
    refine WL.st (R.fa fo_59_1 (.t L2)) rfl ?_
    refine WL.st (R.ld sc_3 (.t L0) H1 rfl) rfl ?_
    refine WL.st (R.add (.t L2) (.t L0) (wi (by omega) (by omega))) rfl ?_
    refine WL.as (.t L0) (E1 U1) rfl ?_
    refine WL.nil (QS.next (W.del (.dr (.dr (.dr (.dr .rf)))) (W.seq (W.region ?_))))
    refine WL.st (R.fa fo_59_2 (.t L1)) rfl ?_
    refine WL.st (R.ld sc_57 (.t L0) H1 rfl) rfl ?_
    refine WL.st (R.eqi (.t L0) .c) rfl ?_
    refine WL.nil (QS.next (W.del (.kp (.dr (.dr .rf))) ?_))
    refine W.cd (.t L0) (fun h3 => ?_) (fun h3 => ?_)
    ·
     refine W.del (.dr .rf) (W.seq (W.seq (W.region ?_)))
     refine WL.st (R.mv (.t L7)) rfl ?_
     refine WL.st (R.mv (.t L3)) rfl ?_
     refine WL.st (R.lenl sl_22 (.t L0)) rfl ?_
     refine WL.st (R.lss (.t L2) (.t L0)) rfl ?_
     refine WL.nil (QS.next (W.del (.kp (.dr (.dr (.dr .rf)))) ?_))
     refine W.cd (.t L0) (fun h4 => ?_) (fun h4 => ?_)
     ·
      refine W.del (.dr .rf) (W.seq (W.region ?_))
      refine WL.st (R.mv (.t L7)) rfl ?_
      refine WL.as .c U4 rfl ?_
      refine WL.as (.t L0) U5 rfl ?_
      refine WL.as .c U6 rfl ?_
      refine WL.nil (QS.next (W.del (.dr .rf) (W.ret (QS.thenr (QS.blkr (QS.thenr (QS.blkr (QS.thenr ?_))))))))
      have hr := ins_more hi1 hi2 (by omega) h2 h3 h4
      exact QS.fin (.inl rfl) rfl (.tmp L3 (.tmp L4 (.tmp L5 .nil))) ⟨((none, 0), []), by rw [hr]; rfl⟩ (by dsimp only; rw [hr]; rfl) (.dr (.dr (.dr .nil))) (fun w _ _ => RdM.nil)
     ·
      refine W.del (.dr .rf) (W.skip (QS.next (W.seq (W.region ?_))))
      refine WL.st (R.mv (.t L6)) rfl ?_
      refine WL.as (.t L0) U4 rfl ?_
      refine WL.as .c U5 rfl ?_
      refine WL.as .c U6 rfl ?_
      refine WL.nil (QS.next (W.del (.dr .rf) (W.ret (QS.blkr (QS.thenr (QS.blkr (QS.thenr ?_)))))))
      have hr := ins_halt hi1 hi2 (by omega) h2 h3 h4
      exact QS.fin (.inl rfl) rfl (.tmp L3 (.tmp L4 (.tmp L5 .nil))) ⟨((A29, c29), M ++ [((nextS b k).1, x19)]), by rw [hr]; simp⟩ (by dsimp only; rw [hr]; simp [resVal]) (.dr (.dr (.dr .nil))) (fun w h hd => ⟨by have := Rd.of_row hd.2.2.1; rw [← mcells_snoc]; simpa using this, fun q hq => by rcases List.mem_append.1 hq with hq | hq; exact h.1.2 q hq; rw [List.mem_singleton.1 hq]; exact h.2⟩)
    ·
     refine W.del (.dr .rf) (W.skip (QS.blkn ?_))
     exact QS.at ⟨((M ++ [((nextS b k).1, x19)], k + (nextS b k).1.long.toNat, f), A29, c29), by rw [List.map_append]; exact ins_next hi1 (by omega) h2 h3, by dsimp only; omega, by dsimp only; omega, by dsimp only; rw [List.length_append]; simp; omega⟩ (show b.length - (k + (nextS b k).1.long.toNat) < b.length - k by omega) (.dr (.dr (.kp rfl (.kp rfl (.kp rfl (.kp rfl (.kp (by simp) (.kp (congrArg (Value.int .i64) (show (k : Int) + (nextS b k).1.long = ((k + (nextS b k).1.long.toNat : Nat) : Int) by omega)) .nil)))))))) (.dr (.dr (.kp (by rw [← mcells_snoc]; simp) .nil))) (fun w h _ => ⟨h.1.1, fun q hq => by rcases List.mem_append.1 hq with hq | hq; exact h.1.2 q hq; rw [List.mem_singleton.1 hq]; exact h.2⟩)
  ·
   refine W.del (.dr .rf) (W.exit (QS.thenx (QS.thenx (QS.blkx (QS.next (W.seq (W.region ?_)))))))
   refine WL.st (R.mv (.t L0)) rfl ?_
   refine WL.st (R.lenl sl_22 (.t L0)) rfl ?_
   refine WL.as .c U3 rfl ?_
   refine WL.as (.t L0) U4 rfl ?_
   refine WL.as .c U5 rfl ?_
   refine WL.nil (QS.next (W.del (.dr (.dr .rf)) (W.ret ?_)))
   have hr := ins_end hi1 hi2 (by omega)
   exact QS.fin (.inl rfl) rfl (.tmp L1 (.tmp L2 (.tmp L3 .nil))) ⟨((none, 0), []), by rw [hr]; rfl⟩ (by dsimp only; rw [hr]; rfl) (.dr .nil) (fun w _ _ => RdM.nil)

end Go.Proofs.YtpaecijilnfkhaaDoor
