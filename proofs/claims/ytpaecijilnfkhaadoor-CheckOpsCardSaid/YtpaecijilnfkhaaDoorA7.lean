/- Contracts: the laws of chapter 17. -/
import Derived.Test.YtpaecijilnfkhaaDoorA6

namespace Go.Proofs.YtpaecijilnfkhaaDoor
open Go Go.Eng Go.RowKit
theorem law_twin {A : Option Addr} {b : List UInt8} {c : Nat} (hl : b.length ≤ 140737488355328) {C : Cx} (hb : Hb C C.w0 [] (fun w => RdB w A b)) :
    Sp Tryd.prog 13 [.slice A b.length c] C (ι := {x : Option Addr × Nat // b.length ≤ x.2}) (fun x => .slice x.1.1 b.length x.1.2) (fun _ => []) (fun x w => RdB w x.1.1 b) := by
 refine Sp.enter (N := 5) (e := entryEnv [.slice A b.length c] 0 3) Tryd.func13 rfl rfl (Nat.le_of_ble_eq_true rfl) (entry_ok (Nat.le_of_ble_eq_true rfl) (Nat.le_of_ble_eq_true rfl)) (entry_nd _ _) hb ?_
 show W _ _ _ _ _ [(0, .slice A b.length c), (1, undef), (2, undef)] _ _
 refine W.seq (W.region ?_)
 refine WL.as .c U2 rfl ?_
 refine WL.nil (QS.next (W.seq (W.region ?_)))
 refine WL.st (R.mv (.t L0)) rfl ?_
 refine WL.nilrow 5 1 ?_
 refine WL.app' ap_22 .c (.t L0) (fun _ _ => C0) (fun w hb => hb.get) (bcells_one b) (by unfold maxLen; omega) (by omega) rfl (fun A4 c4 => ?_)
 refine WL.know (p := b.length ≤ c4) (fun w hb => by have := row_cap (hb.hp.hold _ (List.mem_cons_self ..)); omega) (fun hc4 => ?_)
 refine WL.as (.t L0) U4 rfl ?_
 refine WL.nil (QS.next (W.del (.dr (.dr .rf)) (W.ret ?_)))
 exact QS.fin (.inl rfl) rfl (.tmp L2 .nil) ⟨(A4, c4), hc4⟩ (by simp [resVal]) (.dr .nil) (fun w h hd => by have := Rd.of_row hd.1; simpa [RdB] using this)

theorem ref01_Ints {A B : Option Addr} {l m : List Int} {c1 c2 : Nat} (hl : l.length ≤ 140737488355328) {C : Cx} (hb : Hb C C.w0 [] (fun w => RdI w A l ∧ RdI w B m)) :
    Ret Tryd.prog 46 [.slice A l.length c1, .slice B m.length c2] C (.bool (decide (l = m))) := by
 refine Sp.enter (N := 26) (e := entryEnv [.slice A l.length c1, .slice B m.length c2] 0 6) Tryd.func46 rfl rfl (Nat.le_of_ble_eq_true rfl) (entry_ok (Nat.le_of_ble_eq_true rfl) (Nat.le_of_ble_eq_true rfl)) (entry_nd _ _) hb ?_
 show W _ _ _ _ _ [(0, .slice A l.length c1), (1, .slice B m.length c2), (2, undef), (3, undef), (4, undef), (5, undef)] _ _
 refine W.seq (W.region ?_)
 refine WL.as .c U4 rfl ?_
 refine WL.nil (QS.next (W.seq (W.seq (W.region ?_))))
 refine WL.st (R.mv (.t L0)) rfl ?_
 refine WL.st (R.lenl sl_37 (.t L0)) rfl ?_
 refine WL.st (R.mv (.t L3)) rfl ?_
 refine WL.st (R.lenl sl_37 (.t L0)) rfl ?_
 refine WL.st (R.nei (.t L2) (.t L0)) rfl ?_
 refine WL.nil (QS.next (W.del (.kp (.dr (.dr (.dr (.dr .rf))))) ?_))
 refine W.cd (.t L0) (fun h0 => ?_) (fun h0 => ?_)
 ·
  refine W.del (.dr .rf) (W.seq (W.region ?_))
  refine WL.as .c U4 rfl ?_
  refine WL.nil (QS.next (W.ret (QS.thenr ?_)))
  exact QS.fin (.inl rfl) rfl (.tmp L4 .nil) () (congrArg Value.bool (ints_len (by omega)).symm) .nil (fun _ _ _ => trivial)
 ·
  refine W.del (.dr .rf) (W.skip (QS.next (W.seq (W.seq (W.region ?_)))))
  refine WL.st (R.mv (.t L0)) rfl ?_
  refine WL.st (R.lenl sl_37 (.t L0)) rfl ?_
  refine WL.st (R.mv .c) rfl ?_
  refine WL.nil (QS.next (W.del (.kp (.kp (.dr .rf))) (W.block ?_)))
  refine W.loop (ι := {j : Nat // j ≤ l.length ∧ l.take j = m.take j}) (fun x => [(13, .int .i64 x.1), (12, .int .i64 l.length), (0, .slice A l.length c1), (1, .slice B m.length c2), (4, .bool false)]) (fun x => []) (fun x w => RdI w A l ∧ RdI w B m) (fun x => l.length - x.1) ⟨0, Nat.zero_le _, rfl⟩ (.kp rfl (.kp rfl (.kp rfl (.kp rfl (.dr (.dr (.kp rfl (.dr .nil)))))))) .nil (fun _ h _ => h) ?_
  intro x
  obtain ⟨j, hj1, hj2⟩ := x
  show W _ _ _ _ _ [(13, .int .i64 j), (12, .int .i64 l.length), (0, .slice A l.length c1), (1, .slice B m.length c2), (4, .bool false)] [] (fun w => RdI w A l ∧ RdI w B m)
  refine W.seq (W.region ?_)
  refine WL.st (R.lss (.t L0) (.t L1)) rfl ?_
  refine WL.nil (QS.next (W.seq ?_))
  refine W.cd (.t L0) (fun h1 => ?_) (fun h1 => ?_)
  ·
   refine W.del (.dr .rf) (W.skip (QS.next (W.seq (W.block (W.seq (W.region ?_))))))
   refine WL.st (R.mv (.t L0)) rfl ?_
   refine WL.st (R.as (.t L0)) rfl ?_
   refine WL.nil (QS.next (W.del (.kp (.dr .rf)) (W.seq ?_)))
   obtain ⟨x, hx⟩ : ∃ x, l[j]? = some x := ⟨_, List.getElem?_eq_getElem (by omega)⟩
   obtain ⟨y, hy⟩ : ∃ y, m[j]? = some y := ⟨_, List.getElem?_eq_getElem (by omega)⟩
   refine W.draw 9 mixed (by kernel_rfl) ?_
   refine HD.st (R.mv (.t L3)) rfl ?_
   refine HD.st (R.mv (.t L1)) rfl ?_
   refine HD.st (R.ixI sl_37 (.t L1) rfl (.t L0) (j := j) rfl (by omega) (fun w hb => hb.get.1)) rfl ?_
   refine HD.st (R.ldp sc_3 (.t L0) (fun w hb => hb.get.1.cell hx)) rfl ?_
   refine HD.st (R.mv (.t L8)) rfl ?_
   refine HD.st (R.mv (.t L5)) rfl ?_
   refine HD.st (R.ixI sl_37 (.t L1) rfl (.t L0) (j := j) rfl (by omega) (fun w hb => hb.get.2)) rfl ?_
   refine HD.st (R.ldp sc_3 (.t L0) (fun w hb => hb.get.2.cell hy)) rfl ?_
   refine HD.st (R.nei (.t L4) (.t L0)) rfl ?_
   refine HD.nil (WL.nil (QS.next (W.del (.kp (.dr (.dr (.dr (.dr (.dr (.dr (.dr (.dr .rf))))))))) ?_)))
   refine W.cd (.t L0) (fun h2 => ?_) (fun h2 => ?_)
   ·
    refine W.del (.dr .rf) (W.seq (W.region ?_))
    refine WL.as .c U5 rfl ?_
    refine WL.nil (QS.next (W.ret (QS.blkr (QS.thenr (QS.thenr (QS.blkr (QS.thenr ?_)))))))
    exact QS.fin (.inl rfl) rfl (.tmp L5 .nil) () (congrArg Value.bool (ints_ne hx hy (by omega)).symm) .nil (fun _ _ _ => trivial)
   ·
    refine W.del (.dr .rf) (W.skip (QS.blkn (QS.next (W.region ?_))))
    refine WL.st (R.add (.t L1) .c (wi (by omega) (by omega))) rfl ?_
    refine WL.up (R.mv (.t L0)) U2 rfl ?_
    refine WL.nil ?_
    exact QS.at ⟨j + 1, by omega, take_snoc hj2 hx hy (by omega)⟩ (by dsimp only; omega) (.dr (.dr (.kp rfl (.kp rfl (.kp rfl (.kp rfl (.kp rfl .nil))))))) .nil (fun _ h _ => h)
  ·
   refine W.del (.dr .rf) (W.exit (QS.thenx (QS.thenx (QS.blkx (QS.next (W.del (.dr (.dr .rf)) (W.seq (W.region ?_))))))))
   refine WL.as .c U2 rfl ?_
   refine WL.nil (QS.next (W.ret ?_))
   exact QS.fin (.inl rfl) rfl (.tmp L2 .nil) () (congrArg Value.bool (ints_eq hj2 (by omega) (by omega)).symm) .nil (fun _ _ _ => trivial)

theorem ref09_Ints {A B : Option Addr} {l m : List Int} {c1 c2 : Nat} (hl : l.length ≤ 140737488355328) {C : Cx} (hb : Hb C C.w0 [] (fun w => RdI w A l ∧ RdI w B m)) :
    Ret Tryd.prog 20 [.slice A l.length c1, .slice B m.length c2] C (.bool (decide (l = m))) := by
 refine Sp.enter (N := 8) (e := entryEnv [.slice A l.length c1, .slice B m.length c2] 0 5) Tryd.func20 rfl rfl (Nat.le_of_ble_eq_true rfl) (entry_ok (Nat.le_of_ble_eq_true rfl) (Nat.le_of_ble_eq_true rfl)) (entry_nd _ _) hb ?_
 show W _ _ _ _ _ [(0, .slice A l.length c1), (1, .slice B m.length c2), (2, undef), (3, undef), (4, undef)] _ _
 refine W.seq (W.region ?_)
 refine WL.as .c U4 rfl ?_
 refine WL.nil (QS.next (W.seq (W.region ?_)))
 refine WL.st (R.mv (.t L0)) rfl ?_
 refine WL.st (R.mv (.t L2)) rfl ?_
 refine WL.callr gf_46 .f (.cons (.t L1) (.cons (.t L0) .nil)) (fun w hb => (ref01_Ints hl hb)) rfl ?_
 refine WL.as (.t L0) U7 rfl ?_
 refine WL.nil (QS.next (W.del (.dr (.dr (.dr .rf))) (W.ret ?_)))
 exact QS.fin (.inl rfl) rfl (.tmp L4 .nil) () rfl .nil (fun _ _ _ => trivial)

end Go.Proofs.YtpaecijilnfkhaaDoor
