/- Contracts: check.Links. -/
import Derived.Test.YtpaecijilnfkhaaDoorA7

namespace Go.Proofs.YtpaecijilnfkhaaDoor
open Go Go.Eng Go.RowKit
theorem check_Links {A : Option Addr} {b : List UInt8} {c : Nat} (hc : b.length ≤ c) (hl : b.length ≤ 140737488355) {C : Cx} (hb : Hb C C.w0 [] (fun w => RdB w A b)) :
    Sp Tryd.prog 22 [.slice A b.length c] C (ι := Option Addr × Nat) (fun x => .slice x.1 (linksS b).length x.2) (fun _ => []) (fun x w => Rd w x.1 2 (linksS b).length (tcells (linksS b))) := by
 refine Sp.enter (N := 41) (e := entryEnv [.slice A b.length c] 0 7) Tryd.func22 rfl rfl (Nat.le_of_ble_eq_true rfl) (entry_ok (Nat.le_of_ble_eq_true rfl) (Nat.le_of_ble_eq_true rfl)) (entry_nd _ _) hb ?_
 show W _ _ _ _ _ [(0, .slice A b.length c), (1, undef), (2, undef), (3, undef), (4, undef), (5, undef), (6, undef)] _ _
 refine W.seq (W.region ?_)
 refine WL.as .c U2 rfl ?_
 refine WL.nil (QS.next (W.seq (W.region ?_)))
 refine WL.as .c U3 rfl ?_
 refine WL.nil (QS.next (W.seq (W.region ?_)))
 refine WL.as .c U4 rfl ?_
 refine WL.nil (QS.next (W.block ?_))
 refine W.nilrow 93 2 ?_
 refine W.loop (ι := {p : (List (Int × Int) × Nat × Nat) × Option Addr × Nat // p.1.1 ++ linksF p.1.2.2 b p.1.2.1 = linksS b ∧ b.length + 1 ≤ p.1.2.1 + p.1.2.2 ∧ p.1.2.1 ≤ b.length ∧ p.1.1.length ≤ p.1.2.1}) (fun x => [(0, .slice A b.length c), (2, .slice none 0 0), (3, .slice x.1.2.1 x.1.1.1.length x.1.2.2), (4, .int .i64 x.1.1.2.1)]) (fun x => [.row (.slice x.1.2.1 x.1.1.1.length x.1.2.2) 93 2 x.1.1.1.length (tcells x.1.1.1)]) (fun x w => RdB w A b) (fun x => b.length - x.1.1.2.1) ⟨(([], 0, b.length + 1), none, 0), rfl, by dsimp only; omega, Nat.zero_le _, Nat.le_refl _⟩ (.kp rfl (.dr (.kp rfl (.kp rfl (.kp rfl (.dr (.dr .nil))))))) (.kp rfl .nil) (fun _ h _ => h) ?_
 intro x
 obtain ⟨⟨⟨o, k, f⟩, Al, cl⟩, hi1, hi2, hi3, hi4⟩ := x
 dsimp only at hi1 hi2 hi3 hi4
 cases f with
 | zero => exfalso; omega
 | succ f => ?_
 show W _ _ _ _ _ [(0, .slice A b.length c), (2, .slice none 0 0), (3, .slice Al o.length cl), (4, .int .i64 k)] [.row (.slice Al o.length cl) 93 2 o.length (tcells o)] (fun w => RdB w A b)
 refine W.block (W.seq (W.region ?_))
 refine WL.st (R.mv (.t L0)) rfl ?_
 refine WL.st (R.mv (.t L4)) rfl ?_
 refine WL.call gf_30 .f (.cons (.t L1) (.cons (.t L0) .nil)) (.dr .nil) (fun w hb => (code_Next hc (by omega) (hb.imp fun w h => h))) rfl (fun x10 => ?_)
 have hno := next_ok (b := b) (k := k)
 refine WL.st (R.mv (.t L0)) rfl ?_
 refine WL.st (R.ex (.t L0) .here) rfl ?_
 refine WL.st (R.ex (.t L1) (.skip .here)) rfl ?_
 refine WL.alloc z_59 rfl (fun g5 => ?_)
 refine WL.sto sz_59 (.t L0) (.t L2) rfl rfl rfl C0 (by repeat constructor) ?_
 refine WL.st (R.as (.t L1)) rfl ?_
 refine WL.nil (QS.next (W.del (.kp (.kp (.dr (.dr (.dr (.dr (.dr (.dr .rf)))))))) (W.seq (W.seq (W.region ?_)))))
 refine WL.st (R.mv (.t L0)) rfl ?_
 refine WL.st (R.nei (.t L0) .c) rfl ?_
 refine WL.nil (QS.next (W.del (.kp (.dr .rf)) ?_))
 refine W.cd (.t L0) (fun h0 => ?_) (fun h0 => ?_)
 ·
  refine W.del (.dr .rf) (W.seq (W.region ?_))
  refine WL.st (R.mv (.t L4)) rfl ?_
  refine WL.as (.t L0) U4 rfl ?_
  refine WL.nil (QS.next (W.del (.dr .rf) (W.ret (QS.thenr (QS.blkr (QS.thenr (QS.blkr ?_)))))))
  have hr := links_stop hi1 (by omega)
  exact QS.fin (.inl rfl) rfl (.tmp L3 .nil) (Al, cl) (by rw [hr]; rfl) (.dr (.dr .nil)) (fun w h hd => by rw [hr]; exact Rd.of_row hd.2.1)
 ·
  refine W.del (.dr .rf) (W.skip (QS.next (W.seq (W.seq ?_))))
  have hno := hno (by omega)
  refine W.region ?_
  refine WL.st (R.fa fo_59_2 (.t L1)) rfl ?_
  refine WL.st (R.ld sc_57 (.t L0) H0 rfl) rfl ?_
  refine WL.nil (QS.next (W.del (.kp (.dr .rf)) (W.block (W.seq (W.region ?_)))))
  refine WL.st (R.eqi (.t L0) .c) rfl ?_
  refine WL.st (R.as (.t L0)) rfl ?_
  refine WL.nil (QS.next (W.del (.kp (.dr .rf)) ?_))
  refine W.cd (.t L0) (fun h1 => ?_) (fun h1 => ?_)
  ·
   refine W.del (.dr (.dr .rf)) (W.region ?_)
   refine WL.st (R.mv (.t L4)) rfl ?_
   refine WL.st (R.fa fo_59_3 (.t L2)) rfl ?_
   refine WL.st (R.ld sc_3 (.t L0) H0 rfl) rfl ?_
   refine WL.st (R.bld (z := [.int .i64 0, .int .i64 0]) Tryd.underlying93 (by kernel_rfl) z_93 (.cons fo_93_0 fz_93_0 rfl .c rfl (by repeat constructor) (.cons fo_93_1 fz_93_1 rfl (.t L0) rfl (by repeat constructor) .nil))) rfl ?_
   refine WL.bs1 sl_44 z_93 rfl (by decide) (by decide) (.t L0) rfl rfl rfl (fun g24 => ?_)
   refine WL.app' ap_44 (.t L4) (.t L0) (fun _ _ => C2) (fun w hb => Rd.of_blk (hb.has H0) rfl) rfl (by unfold maxLen; omega) (by omega) rfl (fun A25 c25 => ?_)
   refine WL.as (.t L0) (E1 U0) rfl ?_
   refine WL.nil (QS.blkn (QS.next (W.del (.dr (.dr (.dr (.dr (.dr (.dr .rf)))))) (W.region ?_))))
   refine WL.st (R.mv (.t L5)) rfl ?_
   refine WL.st (R.fa fo_59_1 (.t L2)) rfl ?_
   refine WL.st (R.ld sc_3 (.t L0) H1 rfl) rfl ?_
   refine WL.st (R.add (.t L2) (.t L0) (wi (by omega) (by omega))) rfl ?_
   refine WL.as (.t L0) U9 rfl ?_
   refine WL.nil (QS.blkn ?_)
   exact QS.at ⟨((o ++ [(0, (nextS b k).1.n)], k + (nextS b k).1.long.toNat, f), A25, c25), links_3 hi1 (by omega) (by omega), by dsimp only; omega, by dsimp only; omega, by dsimp only; first | omega | (simp; omega)⟩ (show b.length - (k + (nextS b k).1.long.toNat) < b.length - k by omega) (.dr (.dr (.dr (.dr (.dr (.dr (.kp rfl (.kp rfl (.kp (by simp) (.kp (congrArg (Value.int .i64) (show (k : Int) + (nextS b k).1.long = ((k + (nextS b k).1.long.toNat : Nat) : Int) by omega)) .nil)))))))))) (.dr (.dr (.kp (by rw [← tcells_snoc]; simp) .nil))) (fun w h _ => h.1)
  ·
   refine W.del (.dr .rf) (W.seq (W.region ?_))
   refine WL.st (R.eqi (.t L0) .c) rfl ?_
   refine WL.st (R.as (.t L0)) rfl ?_
   refine WL.nil (QS.next (W.del (.kp (.dr .rf)) ?_))
   refine W.cd (.t L0) (fun h2 => ?_) (fun h2 => ?_)
   ·
    refine W.del (.dr (.dr .rf)) (W.region ?_)
    refine WL.st (R.mv (.t L4)) rfl ?_
    refine WL.st (R.fa fo_59_3 (.t L2)) rfl ?_
    refine WL.st (R.ld sc_3 (.t L0) H0 rfl) rfl ?_
    refine WL.st (R.bld (z := [.int .i64 0, .int .i64 0]) Tryd.underlying93 (by kernel_rfl) z_93 (.cons fo_93_0 fz_93_0 rfl .c rfl (by repeat constructor) (.cons fo_93_1 fz_93_1 rfl (.t L0) rfl (by repeat constructor) .nil))) rfl ?_
    refine WL.bs1 sl_44 z_93 rfl (by decide) (by decide) (.t L0) rfl rfl rfl (fun g32 => ?_)
    refine WL.app' ap_44 (.t L4) (.t L0) (fun _ _ => C2) (fun w hb => Rd.of_blk (hb.has H0) rfl) rfl (by unfold maxLen; omega) (by omega) rfl (fun A33 c33 => ?_)
    refine WL.as (.t L0) (E1 U0) rfl ?_
    refine WL.nil (QS.blkn (QS.next (W.del (.dr (.dr (.dr (.dr (.dr (.dr .rf)))))) (W.region ?_))))
    refine WL.st (R.mv (.t L5)) rfl ?_
    refine WL.st (R.fa fo_59_1 (.t L2)) rfl ?_
    refine WL.st (R.ld sc_3 (.t L0) H1 rfl) rfl ?_
    refine WL.st (R.add (.t L2) (.t L0) (wi (by omega) (by omega))) rfl ?_
    refine WL.as (.t L0) U9 rfl ?_
    refine WL.nil (QS.blkn ?_)
    exact QS.at ⟨((o ++ [(1, (nextS b k).1.n)], k + (nextS b k).1.long.toNat, f), A33, c33), links_4 hi1 (by omega) (by omega), by dsimp only; omega, by dsimp only; omega, by dsimp only; first | omega | (simp; omega)⟩ (show b.length - (k + (nextS b k).1.long.toNat) < b.length - k by omega) (.dr (.dr (.dr (.dr (.dr (.dr (.kp rfl (.kp rfl (.kp (by simp) (.kp (congrArg (Value.int .i64) (show (k : Int) + (nextS b k).1.long = ((k + (nextS b k).1.long.toNat : Nat) : Int) by omega)) .nil)))))))))) (.dr (.dr (.kp (by rw [← tcells_snoc]; simp) .nil))) (fun w h _ => h.1)
   ·
    refine W.del (.dr .rf) (W.seq (W.region ?_))
    refine WL.st (R.eqi (.t L0) .c) rfl ?_
    refine WL.st (R.as (.t L0)) rfl ?_
    refine WL.nil (QS.next (W.del (.kp (.dr (.dr .rf))) ?_))
    refine W.cd (.t L0) (fun h3 => ?_) (fun h3 => ?_)
    ·
     refine W.del (.dr .rf) (W.seq (W.region ?_))
     refine WL.st (R.mv (.t L4)) rfl ?_
     refine WL.as (.t L0) U4 rfl ?_
     refine WL.nil (QS.next (W.del (.dr .rf) (W.ret (QS.blkr (QS.thenr (QS.blkr (QS.thenr (QS.blkr ?_))))))))
     have hr := links_stop hi1 (by omega)
     exact QS.fin (.inl rfl) rfl (.tmp L3 .nil) (Al, cl) (by rw [hr]; rfl) (.dr (.dr .nil)) (fun w h hd => by rw [hr]; exact Rd.of_row hd.2.1)
    ·
     refine W.del (.dr .rf) (W.skip (QS.blkn (QS.next (W.region ?_))))
     refine WL.st (R.mv (.t L5)) rfl ?_
     refine WL.st (R.fa fo_59_1 (.t L2)) rfl ?_
     refine WL.st (R.ld sc_3 (.t L0) H0 rfl) rfl ?_
     refine WL.st (R.add (.t L2) (.t L0) (wi (by omega) (by omega))) rfl ?_
     refine WL.as (.t L0) U9 rfl ?_
     refine WL.nil (QS.blkn ?_)
     exact QS.at ⟨((o, k + (nextS b k).1.long.toNat, f), Al, cl), links_next hi1 (by omega) (by omega) (by omega) (by omega), by dsimp only; omega, by dsimp only; omega, by dsimp only; first | omega | (simp; omega)⟩ (show b.length - (k + (nextS b k).1.long.toNat) < b.length - k by omega) (.dr (.dr (.dr (.dr (.dr (.dr (.kp rfl (.kp rfl (.kp rfl (.kp (congrArg (Value.int .i64) (show (k : Int) + (nextS b k).1.long = ((k + (nextS b k).1.long.toNat : Nat) : Int) by omega)) .nil)))))))))) (.dr (.kp rfl .nil)) (fun w h _ => h.1)

end Go.Proofs.YtpaecijilnfkhaaDoor
