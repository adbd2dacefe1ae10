/- Contracts: text. -/
import Derived.Test.YtpaecijilnfkhaaDoorA2
import Derived.Test.YtpaecijilnfkhaaDoorLib

namespace Go.Proofs.YtpaecijilnfkhaaDoor
open Go Go.Eng Go.RowKit
theorem text_control {r : Int} (h0 : -2147483648 ≤ r) (h1 : r ≤ 2147483647) {C : Cx} (hb : Hb C C.w0 [] (fun _ => True)) :
    Ret Tryd.prog 103 [.int .i32 r] C (.bool (ctrlS r)) := by
 refine Sp.enter (N := 13) (e := entryEnv [.int .i32 r] 0 3) Tryd.func103 rfl rfl (Nat.le_of_ble_eq_true rfl) (entry_ok (Nat.le_of_ble_eq_true rfl) (Nat.le_of_ble_eq_true rfl)) (entry_nd _ _) hb ?_
 show W _ _ _ _ _ [(0, .int .i32 r), (1, undef), (2, undef)] _ _
 refine W.seq (W.region ?_)
 refine WL.as .c U2 rfl ?_
 refine WL.nil (QS.next (W.seq (W.region ?_)))
 refine WL.st (R.mv (.t L0)) rfl ?_
 refine WL.st (R.lss (.t L0) .c) rfl ?_
 refine WL.st (R.mv (.t L0)) rfl ?_
 refine WL.cd L0 U0 U0 (fun hg5 => ?_) (fun hg5 => ?_)
 ·
  refine WL.gn rfl L0 rfl ?_
  refine WL.gn rfl L1 rfl ?_
  refine WL.gn rfl L2 rfl ?_
  refine WL.gu rfl L0 rfl ?_
  refine WL.gu rfl L1 rfl ?_
  refine WL.gn rfl L5 rfl ?_
  refine WL.st (R.pkt (.t L6) .c) rfl ?_
  refine WL.as (.t L0) (E1 U2) rfl ?_
  refine WL.nil (QS.next (W.del (.dr (.dr (.dr (.dr (.dr (.dr (.dr (.dr (.dr (.dr .rf)))))))))) (W.ret ?_)))
  exact QS.fin (.inl rfl) rfl (.tmp L2 .nil) () (by unfold ctrlS; exact congrArg Value.bool (by first | exact decide_eq_decide.2 (by omega) | exact (decide_eq_false (by omega)).symm | exact (decide_eq_true (by omega)).symm)) .nil (fun _ _ _ => trivial)
 ·
  refine WL.gy rfl L0 (R.mv (.t L3)) rfl ?_
  refine WL.gy rfl L1 (R.geq (.t L0) .c) rfl ?_
  refine WL.gy rfl L2 (R.mv (.t L0)) rfl ?_
  refine WL.cd L0 U0 U0 (fun hg8 => ?_) (fun hg8 => ?_)
  ·
   refine WL.gy rfl L0 (R.mv (.t L6)) rfl ?_
   refine WL.gy rfl L1 (R.leq (.t L0) .c) rfl ?_
   refine WL.gy rfl L5 (R.pkt (.t L2) (.t L0)) rfl ?_
   refine WL.st (R.pkf (.t L6) (.t L0)) rfl ?_
   refine WL.as (.t L0) (E1 U2) rfl ?_
   refine WL.nil (QS.next (W.del (.dr (.dr (.dr (.dr (.dr (.dr (.dr (.dr (.dr (.dr .rf)))))))))) (W.ret ?_)))
   exact QS.fin (.inl rfl) rfl (.tmp L2 .nil) () (by unfold ctrlS; exact congrArg Value.bool (by first | exact decide_eq_decide.2 (by omega) | exact (decide_eq_false (by omega)).symm | exact (decide_eq_true (by omega)).symm)) .nil (fun _ _ _ => trivial)
  ·
   refine WL.gn rfl L0 rfl ?_
   refine WL.gn rfl L1 rfl ?_
   refine WL.gy rfl L5 (R.pkf (.t L2) .c) rfl ?_
   refine WL.st (R.pkf (.t L6) (.t L0)) rfl ?_
   refine WL.as (.t L0) (E1 U2) rfl ?_
   refine WL.nil (QS.next (W.del (.dr (.dr (.dr (.dr (.dr (.dr (.dr (.dr (.dr (.dr .rf)))))))))) (W.ret ?_)))
   exact QS.fin (.inl rfl) rfl (.tmp L2 .nil) () (by unfold ctrlS; exact congrArg Value.bool (by first | exact decide_eq_decide.2 (by omega) | exact (decide_eq_false (by omega)).symm | exact (decide_eq_true (by omega)).symm)) .nil (fun _ _ _ => trivial)

theorem text_decode {l : List UInt8} {C : Cx} (hb : Hb C C.w0 [] (fun w => Lib.Utf8Tabs 4 5 w)) : Ret Tryd.prog 111 [str l] C (.tuple #[.int .i32 ((Lib.decodeGo ⟨l.toArray⟩).1 : Int), .int .i64 ((Lib.decodeGo ⟨l.toArray⟩).2 : Int)]) :=
  Ret.of_calls hb (Tryd.utf8_DecodeRuneInString _ _ hb.get)

theorem text_bad {l : List UInt8} {p : Nat} (hp : p ≤ l.length) {C : Cx} (hb : Hb C C.w0 [] (fun w => Lib.Utf8Tabs 4 5 w)) :
    Ret Tryd.prog 104 [str l, .int .i64 p] C (.bool (badS l p)) := by
 refine Sp.enter (N := 20) (e := entryEnv [str l, .int .i64 p] 0 7) Tryd.func104 rfl rfl (Nat.le_of_ble_eq_true rfl) (entry_ok (Nat.le_of_ble_eq_true rfl) (Nat.le_of_ble_eq_true rfl)) (entry_nd _ _) hb ?_
 show W _ _ _ _ _ [(0, str l), (1, .int .i64 p), (2, undef), (3, undef), (4, undef), (5, undef), (6, undef)] _ _
 refine W.seq (W.region ?_)
 refine WL.as .c U4 rfl ?_
 refine WL.nil (QS.next (W.seq (W.region ?_)))
 refine WL.st (R.mv (.t L0)) rfl ?_
 refine WL.st (R.mv (.t L2)) rfl ?_
 refine WL.st (R.sls st_9 (.t L1) (.yes (.t L0) rfl) .no (by omega) (by omega) (List.take_of_length_le (by rw [List.length_drop]; exact Nat.le_refl _))) rfl ?_
 refine WL.callr gf_111 .f (.cons (.t L0) .nil) (fun w hb => (text_decode hb)) rfl ?_
 refine WL.st (R.mv (.t L0)) rfl ?_
 refine WL.st (R.ex (.t L0) .here) rfl ?_
 refine WL.st (R.ex (.t L1) (.skip .here)) rfl ?_
 refine WL.as (.t L1) (E1 U2) rfl ?_
 refine WL.as (.t L0) (E1 U3) rfl ?_
 refine WL.nil (QS.next (W.del (.dr (.dr (.dr (.dr (.dr (.dr (.dr .rf))))))) (W.seq (W.region ?_))))
 refine WL.st (R.mv (.t L5)) rfl ?_
 refine WL.st (R.eqi (.t L0) .c) rfl ?_
 refine WL.st (R.mv (.t L0)) rfl ?_
 refine WL.cd L0 U0 U0 (fun hg16 => ?_) (fun hg16 => ?_)
 ·
  refine WL.gy rfl L0 (R.mv (.t L9)) rfl ?_
  refine WL.gy rfl L1 (R.eqi (.t L0) .c) rfl ?_
  refine WL.st (R.pkt (.t L2) (.t L0)) rfl ?_
  refine WL.as (.t L0) (E1 U0) rfl ?_
  refine WL.nil (QS.next (W.del (.dr (.dr (.dr (.dr (.dr (.dr .rf)))))) (W.ret ?_)))
  exact QS.fin (.inl rfl) rfl (.tmp L4 .nil) () (by unfold badS; exact congrArg Value.bool (by first | exact decide_eq_decide.2 (by omega) | simp [*])) .nil (fun _ _ _ => trivial)
 ·
  refine WL.gn rfl L0 rfl ?_
  refine WL.gn rfl L1 rfl ?_
  refine WL.st (R.pkf (.t L2) .c) rfl ?_
  refine WL.as (.t L0) (E1 U0) rfl ?_
  refine WL.nil (QS.next (W.del (.dr (.dr (.dr (.dr (.dr (.dr .rf)))))) (W.ret ?_)))
  exact QS.fin (.inl rfl) rfl (.tmp L4 .nil) () (by unfold badS; exact congrArg Value.bool (by first | exact decide_eq_decide.2 (by omega) | simp [*])) .nil (fun _ _ _ => trivial)

theorem text_Plain {l : List UInt8} (hl : l.length ≤ 140737488355328) {C : Cx} (hb : Hb C C.w0 [] (fun w => Lib.Utf8Tabs 4 5 w)) :
    Ret Tryd.prog 92 [str l] C (.tuple #[.int .i64 (plainS l).1, .bool (plainS l).2]) := by
 refine Sp.enter (N := 24) (e := entryEnv [str l] 0 6) Tryd.func92 rfl rfl (Nat.le_of_ble_eq_true rfl) (entry_ok (Nat.le_of_ble_eq_true rfl) (Nat.le_of_ble_eq_true rfl)) (entry_nd _ _) hb ?_
 show W _ _ _ _ _ [(0, str l), (1, undef), (2, undef), (3, undef), (4, undef), (5, undef)] _ _
 refine W.seq (W.region ?_)
 refine WL.as .c U2 rfl ?_
 refine WL.as .c U3 rfl ?_
 refine WL.nil (QS.next (W.seq (W.seq (W.region ?_))))
 refine WL.st (R.mv (.t L0)) rfl ?_
 refine WL.rangeS st_9 (.t L0) rfl (fun g7 => ?_)
 refine WL.nil (QS.next (W.del (.kp (.dr .rf)) (W.block ?_)))
 refine W.loop (ι := {p : Nat × Nat // plainF p.2 l p.1 = plainS l ∧ l.length ≤ p.1 + p.2}) (fun x => [(7, .pointer (some ⟨g7, 0, none⟩)), (0, str l), (2, .int .i64 0), (3, .bool false)]) (fun x => [.obj g7 (.stringIter (bytesOf l) x.1.1)]) (fun x w => Lib.Utf8Tabs 4 5 w) (fun x => l.length - x.1.1) ⟨(0, l.length), rfl, by dsimp only; omega⟩ (.kp rfl (.kp rfl (.dr (.kp rfl (.kp rfl (.dr (.dr .nil))))))) (.kp rfl .nil) (fun _ h _ => h) ?_
 intro x
 obtain ⟨⟨p, f⟩, hi1, hi2⟩ := x
 dsimp only at hi1 hi2
 show W _ _ _ _ _ [(7, .pointer (some ⟨g7, 0, none⟩)), (0, str l), (2, .int .i64 0), (3, .bool false)] [.obj g7 (.stringIter (bytesOf l) p)] (fun w => Lib.Utf8Tabs 4 5 w)
 refine W.seq (W.region ?_)
 refine WL.nextS (.t L0) (fun _ => C0) (by simp) rfl (fun hp => ?_) (fun hp => ?_)
 ·
  replace hp : p < l.length := hp
  have hd1 := dec_pos l p hp
  have hd2 := dec_le l p
  obtain ⟨f, rfl⟩ : ∃ f2, f = f2 + 1 := ⟨f - 1, by omega⟩
  refine WL.st (R.ex (.t L0) .here) rfl ?_
  refine WL.nil (QS.next (W.seq (W.ct (.t L0) (W.del (.dr .rf) (W.skip (QS.next (W.block (W.seq (W.region ?_)))))))))
  refine WL.st (R.ex (.t L0) (.skip .here)) rfl ?_
  refine WL.st (R.ex (.t L1) (.skip (.skip .here))) rfl ?_
  refine WL.st (R.as (.t L1)) rfl ?_
  refine WL.st (R.as (.t L1)) rfl ?_
  refine WL.nil (QS.next (W.del (.kp (.kp (.dr (.dr (.dr .rf))))) (W.seq (W.region ?_))))
  refine WL.st (R.mv (.t L0)) rfl ?_
  refine WL.callr gf_103 .f (.cons (.t L0) .nil) (fun w hb => (text_control (by omega) (by omega) (hb.imp fun _ _ => trivial))) rfl ?_
  refine WL.st (R.mv (.t L0)) rfl ?_
  refine WL.cb L0 U0 U0 (fun hg14 => ?_) (fun hg14 => ?_)
  ·
   refine WL.gn rfl L0 rfl ?_
   refine WL.gn rfl L1 rfl ?_
   refine WL.gn rfl L2 rfl ?_
   refine WL.gu rfl L0 rfl ?_
   refine WL.gu rfl L1 rfl ?_
   refine WL.gu rfl L2 rfl ?_
   refine WL.gn rfl L6 rfl ?_
   refine WL.st (R.pkt (.t L7) .c) rfl ?_
   refine WL.nil (QS.next (W.del (.kp (.dr (.dr (.dr (.dr (.dr (.dr (.dr (.dr (.dr (.dr .rf))))))))))) (W.ct (.t L0) (W.del (.dr .rf) (W.seq (W.region ?_))))))
   refine WL.st (R.mv (.t L1)) rfl ?_
   refine WL.as (.t L0) U5 rfl ?_
   refine WL.as .c U6 rfl ?_
   refine WL.nil (QS.next (W.del (.dr .rf) (W.ret (QS.blkr (QS.thenr (QS.blkr (QS.thenr ?_)))))))
   have hr : plainS l = ((p : Int), false) := by rw [← hi1]; exact plain_hit hp (by simp_all)
   exact QS.fin (.inl rfl) rfl (.tmp L4 (.tmp L5 .nil)) () (by rw [hr]; rfl) (.dr .nil) (fun _ _ _ => trivial)
  ·
   refine WL.gy rfl L0 (R.mv (.t L3)) rfl ?_
   refine WL.gy rfl L1 (R.eqi (.t L0) .c) rfl ?_
   refine WL.gy rfl L2 (R.mv (.t L0)) rfl ?_
   refine WL.cd L0 U0 U0 (fun hg17 => ?_) (fun hg17 => ?_)
   ·
    refine WL.gy rfl L0 (R.mv (.t L9)) rfl ?_
    refine WL.gy rfl L1 (R.mv (.t L8)) rfl ?_
    refine WL.gyw rfl L2 ?_
    refine WL.callr gf_104 .f (.cons (.t L1) (.cons (.t L0) .nil)) (fun w hb => (text_bad (l := l) (p := p) (by omega) (hb.imp fun _ h => h))) rfl ?_
    refine WL.gy rfl L6 (R.pkt (.t L3) (.t L0)) rfl ?_
    refine WL.st (R.pkf (.t L7) (.t L0)) rfl ?_
    refine WL.nil (QS.next (W.del (.kp (.dr (.dr (.dr (.dr (.dr (.dr (.dr (.dr (.dr (.dr .rf))))))))))) ?_))
    refine W.cb (.t L0) (fun h1 => ?_) (fun h1 => ?_)
    ·
     refine W.del (.dr .rf) (W.seq (W.region ?_))
     refine WL.st (R.mv (.t L1)) rfl ?_
     refine WL.as (.t L0) U5 rfl ?_
     refine WL.as .c U6 rfl ?_
     refine WL.nil (QS.next (W.del (.dr .rf) (W.ret (QS.blkr (QS.thenr (QS.blkr (QS.thenr ?_)))))))
     have hr : plainS l = ((p : Int), false) := by rw [← hi1]; exact plain_hit hp (by simp_all)
     exact QS.fin (.inl rfl) rfl (.tmp L4 (.tmp L5 .nil)) () (by rw [hr]; rfl) (.dr .nil) (fun _ _ _ => trivial)
    ·
     refine W.del (.dr .rf) (W.skip (QS.blkn ?_))
     exact QS.at ⟨(p + (Utf8.decode (bytesOf l) p).2, f), by dsimp only; rw [← plain_pass hp (by first | assumption | simp_all) (by first | (intro h; exact absurd h (by assumption)) | (intro _; simp_all))]; exact hi1, by dsimp only; omega⟩ (show l.length - (p + (Utf8.decode (bytesOf l) p).2) < l.length - p by omega) (.dr (.dr (.kp rfl (.kp rfl (.kp rfl (.kp rfl .nil)))))) (.kp rfl .nil) (fun _ h _ => h)
   ·
    refine WL.gn rfl L0 rfl ?_
    refine WL.gn rfl L1 rfl ?_
    refine WL.gn rfl L2 rfl ?_
    refine WL.gy rfl L6 (R.pkf (.t L3) .c) rfl ?_
    refine WL.st (R.pkf (.t L7) (.t L0)) rfl ?_
    refine WL.nil (QS.next (W.del (.kp (.dr (.dr (.dr (.dr (.dr (.dr (.dr (.dr (.dr (.dr .rf))))))))))) (W.cf (.t L0) (W.del (.dr .rf) (W.skip (QS.blkn ?_))))))
    exact QS.at ⟨(p + (Utf8.decode (bytesOf l) p).2, f), by dsimp only; rw [← plain_pass hp (by first | assumption | simp_all) (by first | (intro h; exact absurd h (by assumption)) | (intro _; simp_all))]; exact hi1, by dsimp only; omega⟩ (show l.length - (p + (Utf8.decode (bytesOf l) p).2) < l.length - p by omega) (.dr (.dr (.kp rfl (.kp rfl (.kp rfl (.kp rfl .nil)))))) (.kp rfl .nil) (fun _ h _ => h)
 ·
  replace hp : ¬ p < l.length := hp
  refine WL.st (R.ex (.t L0) .here) rfl ?_
  refine WL.nil (QS.next (W.seq (W.cf (.t L0) (W.del (.dr .rf) (W.exit (QS.thenx (QS.thenx (QS.blkx (QS.next (W.del (.dr (.dr .rf)) (W.seq (W.region ?_))))))))))))
  refine WL.as .c U1 rfl ?_
  refine WL.as .c U2 rfl ?_
  refine WL.nil (QS.next (W.ret ?_))
  have hr : plainS l = (0, true) := by rw [← hi1]; exact plain_end hp
  exact QS.fin (.inl rfl) rfl (.tmp L1 (.tmp L2 .nil)) () (by rw [hr]; rfl) (.dr .nil) (fun _ _ _ => trivial)

end Go.Proofs.YtpaecijilnfkhaaDoor
