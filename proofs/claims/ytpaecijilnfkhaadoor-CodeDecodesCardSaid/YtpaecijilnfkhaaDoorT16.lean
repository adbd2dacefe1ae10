/- Contracts: what the laws of chapter 16 call. -/
import Derived.Test.YtpaecijilnfkhaaDoorF16
import Derived.Test.YtpaecijilnfkhaaDoorR16
import Derived.Test.YtpaecijilnfkhaaDoorPq

namespace Go.Proofs.YtpaecijilnfkhaaDoor
open Go Go.Eng Go.RowKit
open Go.Proofs
theorem ref16_ints {A B : Option Addr} {l m : List Int} {c1 c2 : Nat} (hl : l.length ≤ 140737488355328) {C : Cx} (hb : Hb C C.w0 [] (fun w => RdI w A l ∧ RdI w B m)) :
    Ret Tryd.prog 61 [.slice A l.length c1, .slice B m.length c2] C (.bool (decide (l = m))) := by
  refine Sp.enter (N := 26) (e := entryEnv [.slice A l.length c1, .slice B m.length c2] 0 6) Tryd.func61 rfl rfl (Nat.le_of_ble_eq_true rfl) (entry_ok (Nat.le_of_ble_eq_true rfl) (Nat.le_of_ble_eq_true rfl)) (entry_nd _ _) hb ?_
  show W _ _ _ _ _ [(0, .slice A l.length c1), (1, .slice B m.length c2), (2, undef), (3, undef), (4, undef), (5, undef)] _ _
  refine W.seq ?_
  refine W.region ?_
  refine WL.as .c U4 rfl ?_
  refine WL.nil ?_
  refine QS.next ?_
  refine W.seq ?_
  refine W.seq ?_
  refine W.region ?_
  refine WL.st (R.mv (.t L0)) rfl ?_
  refine WL.st (R.lenl sl_37 (.t L0)) rfl ?_
  refine WL.st (R.mv (.t L3)) rfl ?_
  refine WL.st (R.lenl sl_37 (.t L0)) rfl ?_
  refine WL.st (R.nei (.t L2) (.t L0)) rfl ?_
  refine WL.nil ?_
  refine QS.next ?_
  refine W.del (.kp (.dr (.dr (.dr (.dr .rf))))) ?_
  refine W.cd (.t L0) (fun h0 => ?_) (fun h0 => ?_)
  ·
    refine W.del (.dr .rf) ?_
    refine W.seq ?_
    refine W.region ?_
    refine WL.as .c U4 rfl ?_
    refine WL.nil ?_
    refine QS.next ?_
    refine W.ret ?_
    refine QS.thenr ?_
    exact QS.fin (.inl rfl) rfl (.tmp L4 .nil) () (congrArg Value.bool (lst_len (by omega)).symm) .nil (fun _ _ _ => trivial)
  ·
    refine W.del (.dr .rf) ?_
    refine W.skip ?_
    refine QS.next ?_
    refine W.seq ?_
    refine W.seq ?_
    refine W.region ?_
    refine WL.as .c U5 rfl ?_
    refine WL.nil ?_
    refine QS.next ?_
    refine W.block ?_
    refine W.loop (ι := {j : Nat // j ≤ l.length ∧ l.take j = m.take j}) (fun x => [(0, .slice A l.length c1), (1, .slice B m.length c2), (4, .bool false), (5, .int .i64 x.1)]) (fun x => []) (fun x w => RdI w A l ∧ RdI w B m) (fun x => l.length - x.1) ⟨0, Nat.zero_le _, rfl⟩ (.kp rfl (.kp rfl (.dr (.dr (.kp rfl (.kp rfl .nil)))))) .nil (fun w h hd => ⟨h.1, h.2⟩) ?_
    intro x
    obtain ⟨j, hj1, hj2⟩ := x
    show W _ _ _ _ _ [(0, .slice A l.length c1), (1, .slice B m.length c2), (4, .bool false), (5, .int .i64 j)] [] (fun w => RdI w A l ∧ RdI w B m)
    refine W.seq ?_
    refine W.seq ?_
    refine W.region ?_
    refine WL.st (R.mv (.t L3)) rfl ?_
    refine WL.st (R.mv (.t L1)) rfl ?_
    refine WL.st (R.lenl sl_37 (.t L0)) rfl ?_
    refine WL.st (R.lss (.t L2) (.t L0)) rfl ?_
    refine WL.nil ?_
    refine QS.next ?_
    refine W.del (.kp (.dr (.dr (.dr .rf)))) ?_
    refine W.cd (.t L0) (fun h1 => ?_) (fun h1 => ?_)
    ·
      refine W.del (.dr .rf) ?_
      refine W.skip ?_
      refine QS.next ?_
      refine W.seq ?_
      refine W.block ?_
      refine W.seq ?_
      refine W.draw 9 mixed (by kernel_rfl) ?_
      refine HD.st (R.mv (.t L0)) rfl ?_
      refine HD.st (R.mv (.t L4)) rfl ?_
      obtain ⟨x19, hx19⟩ : ∃ x, (l)[j]? = some x := ⟨_, List.getElem?_eq_getElem (by omega)⟩
      refine HD.st (R.ixI sl_37 (.t L1) rfl (.t L0) (l := l) (j := j) rfl (List.getElem?_eq_some_iff.1 hx19).1 (fun w hb => hb.get.1)) rfl ?_
      refine HD.st (R.ldp sc_3 (.t L0) (fun w hb => RdI.cell (hb.get.1) hx19)) rfl ?_
      refine HD.st (R.mv (.t L5)) rfl ?_
      refine HD.st (R.mv (.t L8)) rfl ?_
      obtain ⟨x23, hx23⟩ : ∃ x, (m)[j]? = some x := ⟨_, List.getElem?_eq_getElem (by omega)⟩
      refine HD.st (R.ixI sl_37 (.t L1) rfl (.t L0) (l := m) (j := j) rfl (List.getElem?_eq_some_iff.1 hx23).1 (fun w hb => hb.get.2)) rfl ?_
      refine HD.st (R.ldp sc_3 (.t L0) (fun w hb => RdI.cell (hb.get.2) hx23)) rfl ?_
      refine HD.st (R.nei (.t L4) (.t L0)) rfl ?_
      refine HD.nil ?_
      refine WL.nil ?_
      refine QS.next ?_
      refine W.del (.kp (.dr (.dr (.dr (.dr (.dr (.dr (.dr (.dr .rf))))))))) ?_
      refine W.cd (.t L0) (fun h2 => ?_) (fun h2 => ?_)
      ·
        refine W.del (.dr .rf) ?_
        refine W.seq ?_
        refine W.region ?_
        refine WL.as .c U2 rfl ?_
        refine WL.nil ?_
        refine QS.next ?_
        refine W.ret ?_
        refine QS.blkr ?_
        refine QS.thenr ?_
        refine QS.thenr ?_
        refine QS.blkr ?_
        refine QS.thenr ?_
        exact QS.fin (.inl rfl) rfl (.tmp L2 .nil) () (congrArg Value.bool (lst_ne hx19 hx23 h2).symm) .nil (fun _ _ _ => trivial)
      ·
        refine W.del (.dr .rf) ?_
        refine W.skip ?_
        refine QS.blkn ?_
        refine QS.next ?_
        refine W.region ?_
        refine WL.st (R.mv (.t L3)) rfl ?_
        refine WL.st (R.add (.t L0) .c (wi (by omega) (by omega))) rfl ?_
        refine WL.as (.t L0) U5 rfl ?_
        refine WL.nil ?_
        exact QS.at ⟨j + 1, by omega, lst_snoc hj2 hx19 hx23 (Classical.not_not.1 h2)⟩ (by dsimp only; omega) (.dr (.dr (.kp rfl (.kp rfl (.kp rfl (.kp rfl .nil)))))) .nil (fun w h hd => ⟨h.1, h.2⟩)
    ·
      refine W.del (.dr .rf) ?_
      refine W.exit ?_
      refine QS.thenx ?_
      refine QS.thenx ?_
      refine QS.blkx ?_
      refine QS.next ?_
      refine W.seq ?_
      refine W.region ?_
      refine WL.as .c U2 rfl ?_
      refine WL.nil ?_
      refine QS.next ?_
      refine W.ret ?_
      exact QS.fin (.inl rfl) rfl (.tmp L2 .nil) () (congrArg Value.bool (lst_eq hj2 (by omega) (by omega)).symm) .nil (fun _ _ _ => trivial)

theorem law16_lines {A B : Option Addr} {l m : List (List UInt8)} {c1 c2 : Nat} (hl : l.length ≤ 140737488355328) {C : Cx} (hb : Hb C C.w0 [] (fun w => RdS w A l ∧ RdS w B m)) :
    Ret Tryd.prog 41 [.slice A l.length c1, .slice B m.length c2] C (.bool (decide (l = m))) := by
  refine Sp.enter (N := 26) (e := entryEnv [.slice A l.length c1, .slice B m.length c2] 0 6) Tryd.func41 rfl rfl (Nat.le_of_ble_eq_true rfl) (entry_ok (Nat.le_of_ble_eq_true rfl) (Nat.le_of_ble_eq_true rfl)) (entry_nd _ _) hb ?_
  show W _ _ _ _ _ [(0, .slice A l.length c1), (1, .slice B m.length c2), (2, undef), (3, undef), (4, undef), (5, undef)] _ _
  refine W.seq ?_
  refine W.region ?_
  refine WL.as .c U4 rfl ?_
  refine WL.nil ?_
  refine QS.next ?_
  refine W.seq ?_
  refine W.seq ?_
  refine W.region ?_
  refine WL.st (R.mv (.t L0)) rfl ?_
  refine WL.st (R.lenl sl_76 (.t L0)) rfl ?_
  refine WL.st (R.mv (.t L3)) rfl ?_
  refine WL.st (R.lenl sl_76 (.t L0)) rfl ?_
  refine WL.st (R.nei (.t L2) (.t L0)) rfl ?_
  refine WL.nil ?_
  refine QS.next ?_
  refine W.del (.kp (.dr (.dr (.dr (.dr .rf))))) ?_
  refine W.cd (.t L0) (fun h0 => ?_) (fun h0 => ?_)
  ·
    refine W.del (.dr .rf) ?_
    refine W.seq ?_
    refine W.region ?_
    refine WL.as .c U4 rfl ?_
    refine WL.nil ?_
    refine QS.next ?_
    refine W.ret ?_
    refine QS.thenr ?_
    exact QS.fin (.inl rfl) rfl (.tmp L4 .nil) () (congrArg Value.bool (lst_len (by omega)).symm) .nil (fun _ _ _ => trivial)
  ·
    refine W.del (.dr .rf) ?_
    refine W.skip ?_
    refine QS.next ?_
    refine W.seq ?_
    refine W.seq ?_
    refine W.region ?_
    refine WL.as .c U5 rfl ?_
    refine WL.nil ?_
    refine QS.next ?_
    refine W.block ?_
    refine W.loop (ι := {j : Nat // j ≤ l.length ∧ l.take j = m.take j}) (fun x => [(0, .slice A l.length c1), (1, .slice B m.length c2), (4, .bool false), (5, .int .i64 x.1)]) (fun x => []) (fun x w => RdS w A l ∧ RdS w B m) (fun x => l.length - x.1) ⟨0, Nat.zero_le _, rfl⟩ (.kp rfl (.kp rfl (.dr (.dr (.kp rfl (.kp rfl .nil)))))) .nil (fun w h hd => ⟨h.1, h.2⟩) ?_
    intro x
    obtain ⟨j, hj1, hj2⟩ := x
    show W _ _ _ _ _ [(0, .slice A l.length c1), (1, .slice B m.length c2), (4, .bool false), (5, .int .i64 j)] [] (fun w => RdS w A l ∧ RdS w B m)
    refine W.seq ?_
    refine W.seq ?_
    refine W.region ?_
    refine WL.st (R.mv (.t L3)) rfl ?_
    refine WL.st (R.mv (.t L1)) rfl ?_
    refine WL.st (R.lenl sl_76 (.t L0)) rfl ?_
    refine WL.st (R.lss (.t L2) (.t L0)) rfl ?_
    refine WL.nil ?_
    refine QS.next ?_
    refine W.del (.kp (.dr (.dr (.dr .rf)))) ?_
    refine W.cd (.t L0) (fun h1 => ?_) (fun h1 => ?_)
    ·
      refine W.del (.dr .rf) ?_
      refine W.skip ?_
      refine QS.next ?_
      refine W.seq ?_
      refine W.block ?_
      refine W.seq ?_
      refine W.draw 9 mixed (by kernel_rfl) ?_
      refine HD.st (R.mv (.t L0)) rfl ?_
      refine HD.st (R.mv (.t L4)) rfl ?_
      obtain ⟨x19, hx19⟩ : ∃ x, (l)[j]? = some x := ⟨_, List.getElem?_eq_getElem (by omega)⟩
      refine HD.st (R.ixS sl_76 (.t L1) rfl (.t L0) (l := l) (j := j) rfl (List.getElem?_eq_some_iff.1 hx19).1 (fun w hb => hb.get.1)) rfl ?_
      refine HD.st (R.ldp sc_9 (.t L0) (fun w hb => RdS.cell (hb.get.1) hx19)) rfl ?_
      refine HD.st (R.mv (.t L5)) rfl ?_
      refine HD.st (R.mv (.t L8)) rfl ?_
      obtain ⟨x23, hx23⟩ : ∃ x, (m)[j]? = some x := ⟨_, List.getElem?_eq_getElem (by omega)⟩
      refine HD.st (R.ixS sl_76 (.t L1) rfl (.t L0) (l := m) (j := j) rfl (List.getElem?_eq_some_iff.1 hx23).1 (fun w hb => hb.get.2)) rfl ?_
      refine HD.st (R.ldp sc_9 (.t L0) (fun w hb => RdS.cell (hb.get.2) hx23)) rfl ?_
      refine HD.st (R.nes (.t L4) (.t L0)) rfl ?_
      refine HD.nil ?_
      refine WL.nil ?_
      refine QS.next ?_
      refine W.del (.kp (.dr (.dr (.dr (.dr (.dr (.dr (.dr (.dr .rf))))))))) ?_
      refine W.cd (.t L0) (fun h2 => ?_) (fun h2 => ?_)
      ·
        refine W.del (.dr .rf) ?_
        refine W.seq ?_
        refine W.region ?_
        refine WL.as .c U2 rfl ?_
        refine WL.nil ?_
        refine QS.next ?_
        refine W.ret ?_
        refine QS.blkr ?_
        refine QS.thenr ?_
        refine QS.thenr ?_
        refine QS.blkr ?_
        refine QS.thenr ?_
        exact QS.fin (.inl rfl) rfl (.tmp L2 .nil) () (congrArg Value.bool (lst_ne hx19 hx23 h2).symm) .nil (fun _ _ _ => trivial)
      ·
        refine W.del (.dr .rf) ?_
        refine W.skip ?_
        refine QS.blkn ?_
        refine QS.next ?_
        refine W.region ?_
        refine WL.st (R.mv (.t L3)) rfl ?_
        refine WL.st (R.add (.t L0) .c (wi (by omega) (by omega))) rfl ?_
        refine WL.as (.t L0) U5 rfl ?_
        refine WL.nil ?_
        exact QS.at ⟨j + 1, by omega, lst_snoc hj2 hx19 hx23 (Classical.not_not.1 h2)⟩ (by dsimp only; omega) (.dr (.dr (.kp rfl (.kp rfl (.kp rfl (.kp rfl .nil)))))) .nil (fun w h hd => ⟨h.1, h.2⟩)
    ·
      refine W.del (.dr .rf) ?_
      refine W.exit ?_
      refine QS.thenx ?_
      refine QS.thenx ?_
      refine QS.blkx ?_
      refine QS.next ?_
      refine W.seq ?_
      refine W.region ?_
      refine WL.as .c U2 rfl ?_
      refine WL.nil ?_
      refine QS.next ?_
      refine W.ret ?_
      exact QS.fin (.inl rfl) rfl (.tmp L2 .nil) () (congrArg Value.bool (lst_eq hj2 (by omega) (by omega)).symm) .nil (fun _ _ _ => trivial)

theorem ref16_SameInstr {A B : Option Addr} {l m : List Int} {c1 c2 : Nat} {a1 a2 a3 a4 b1 b2 b3 b4 : Int} (hl : l.length ≤ 140737488355328) {C : Cx} (hb : Hb C C.w0 [] (fun w => RdI w A l ∧ RdI w B m)) :
    Ret Tryd.prog 33 [.agg #[.int .i64 a1, .int .i64 a2, .int .i64 a3, .int .i64 a4, .slice A l.length c1], .agg #[.int .i64 b1, .int .i64 b2, .int .i64 b3, .int .i64 b4, .slice B m.length c2]] C (.bool (decide ((⟨a1, a2, a3, a4, l⟩ : InstrS) = ⟨b1, b2, b3, b4, m⟩))) := by
  refine Sp.enter (N := 38) (e := entryEnv [.agg #[.int .i64 a1, .int .i64 a2, .int .i64 a3, .int .i64 a4, .slice A l.length c1], .agg #[.int .i64 b1, .int .i64 b2, .int .i64 b3, .int .i64 b4, .slice B m.length c2]] 0 5) Tryd.func33 rfl rfl (Nat.le_of_ble_eq_true rfl) (entry_ok (Nat.le_of_ble_eq_true rfl) (Nat.le_of_ble_eq_true rfl)) (entry_nd _ _) hb ?_
  show W _ _ _ _ _ [(0, .agg #[.int .i64 a1, .int .i64 a2, .int .i64 a3, .int .i64 a4, .slice A l.length c1]), (1, .agg #[.int .i64 b1, .int .i64 b2, .int .i64 b3, .int .i64 b4, .slice B m.length c2]), (2, undef), (3, undef), (4, undef)] _ _
  refine W.seq ?_
  refine W.region ?_
  refine WL.boxu (.t L0) rfl (fun _ => U2) rfl (fun g2 => ?_)
  refine WL.boxu (.t L1) rfl (fun _ => U3) rfl (fun g3 => ?_)
  refine WL.as .c U4 rfl ?_
  refine WL.nil ?_
  refine QS.next ?_
  refine W.seq ?_
  refine W.region ?_
  refine WL.st (R.fa fo_59_0 (.t L2)) rfl ?_
  refine WL.st (R.ld sc_3 (.t L0) H1 rfl) rfl ?_
  refine WL.st (R.fa fo_59_0 (.t L5)) rfl ?_
  refine WL.st (R.ld sc_3 (.t L0) H0 rfl) rfl ?_
  refine WL.st (R.eqi (.t L2) (.t L0)) rfl ?_
  refine WL.st (R.mv (.t L0)) rfl ?_
  refine WL.cd L0 U0 U0 (fun hg10 => ?_) (fun hg10 => ?_)
  ·
    refine WL.gy rfl L0 (R.fa fo_59_1 (.t L8)) rfl ?_
    refine WL.gy rfl L1 (R.ld sc_3 (.t L0) H1 rfl) rfl ?_
    refine WL.gy rfl L2 (R.fa fo_59_1 (.t L11)) rfl ?_
    refine WL.gy rfl L3 (R.ld sc_3 (.t L0) H0 rfl) rfl ?_
    refine WL.gy rfl L4 (R.eqi (.t L2) (.t L0)) rfl ?_
    refine WL.st (R.pkt (.t L5) (.t L0)) rfl ?_
    refine WL.st (R.mv (.t L0)) rfl ?_
    refine WL.cd L0 U0 U0 (fun hg17 => ?_) (fun hg17 => ?_)
    ·
      refine WL.gy rfl L0 (R.fa fo_59_2 (.t L15)) rfl ?_
      refine WL.gy rfl L1 (R.ld sc_57 (.t L0) H1 rfl) rfl ?_
      refine WL.gy rfl L2 (R.fa fo_59_2 (.t L18)) rfl ?_
      refine WL.gy rfl L3 (R.ld sc_57 (.t L0) H0 rfl) rfl ?_
      refine WL.gy rfl L4 (R.eqi (.t L2) (.t L0)) rfl ?_
      refine WL.st (R.pkt (.t L5) (.t L0)) rfl ?_
      refine WL.st (R.mv (.t L0)) rfl ?_
      refine WL.cd L0 U0 U0 (fun hg24 => ?_) (fun hg24 => ?_)
      ·
        refine WL.gy rfl L0 (R.fa fo_59_3 (.t L22)) rfl ?_
        refine WL.gy rfl L1 (R.ld sc_3 (.t L0) H1 rfl) rfl ?_
        refine WL.gy rfl L2 (R.fa fo_59_3 (.t L25)) rfl ?_
        refine WL.gy rfl L3 (R.ld sc_3 (.t L0) H0 rfl) rfl ?_
        refine WL.gy rfl L4 (R.eqi (.t L2) (.t L0)) rfl ?_
        refine WL.st (R.pkt (.t L5) (.t L0)) rfl ?_
        refine WL.st (R.mv (.t L0)) rfl ?_
        refine WL.cd L0 U0 U0 (fun hg31 => ?_) (fun hg31 => ?_)
        ·
          refine WL.gy rfl L0 (R.fa fo_59_4 (.t L29)) rfl ?_
          refine WL.gy rfl L1 (R.ld sc_37 (.t L0) H1 rfl) rfl ?_
          refine WL.gy rfl L2 (R.fa fo_59_4 (.t L32)) rfl ?_
          refine WL.gy rfl L3 (R.ld sc_37 (.t L0) H0 rfl) rfl ?_
          refine WL.gyw rfl L4 ?_
          refine WL.callr gf_61 .f (.cons (.t L2) (.cons (.t L0) .nil)) (fun w hb => (ref16_ints hl (hb.imp fun _ h => h))) rfl ?_
          refine WL.st (R.pkt (.t L5) (.t L0)) rfl ?_
          refine WL.as (.t L0) U37 rfl ?_
          refine WL.nil ?_
          refine QS.next ?_
          refine W.del (.dr (.dr (.dr (.dr (.dr (.dr (.dr (.dr (.dr (.dr (.dr (.dr (.dr (.dr (.dr (.dr (.dr (.dr (.dr (.dr (.dr (.dr (.dr (.dr (.dr (.dr (.dr (.dr (.dr (.dr (.dr (.dr (.dr .rf))))))))))))))))))))))))))))))))) ?_
          refine W.ret ?_
          first
            | (exact QS.fin (.inl rfl) rfl (.tmp L4 .nil) () (congrArg Value.bool (decide_eq_false (by intro h; injection h; omega)).symm) (.dr (.dr .nil)) (fun _ _ _ => trivial))
            | (exact QS.fin (.inl rfl) rfl (.tmp L4 .nil) () (congrArg Value.bool (decide_eq_decide.2 ⟨fun h => by rw [InstrS.mk.injEq]; exact ⟨by omega, by omega, by omega, by omega, h⟩, fun h => by injection h⟩)) (.dr (.dr .nil)) (fun _ _ _ => trivial))
        ·
          refine WL.gn rfl L0 rfl ?_
          refine WL.gn rfl L1 rfl ?_
          refine WL.gn rfl L2 rfl ?_
          refine WL.gn rfl L3 rfl ?_
          refine WL.gn rfl L4 rfl ?_
          refine WL.st (R.pkf (.t L5) .c) rfl ?_
          refine WL.as (.t L0) U37 rfl ?_
          refine WL.nil ?_
          refine QS.next ?_
          refine W.del (.dr (.dr (.dr (.dr (.dr (.dr (.dr (.dr (.dr (.dr (.dr (.dr (.dr (.dr (.dr (.dr (.dr (.dr (.dr (.dr (.dr (.dr (.dr (.dr (.dr (.dr (.dr (.dr (.dr (.dr (.dr (.dr (.dr .rf))))))))))))))))))))))))))))))))) ?_
          refine W.ret ?_
          first
            | (exact QS.fin (.inl rfl) rfl (.tmp L4 .nil) () (congrArg Value.bool (decide_eq_false (by intro h; injection h; omega)).symm) (.dr (.dr .nil)) (fun _ _ _ => trivial))
            | (exact QS.fin (.inl rfl) rfl (.tmp L4 .nil) () (congrArg Value.bool (decide_eq_decide.2 ⟨fun h => by rw [InstrS.mk.injEq]; exact ⟨by omega, by omega, by omega, by omega, h⟩, fun h => by injection h⟩)) (.dr (.dr .nil)) (fun _ _ _ => trivial))
      ·
        refine WL.gn rfl L0 rfl ?_
        refine WL.gn rfl L1 rfl ?_
        refine WL.gn rfl L2 rfl ?_
        refine WL.gn rfl L3 rfl ?_
        refine WL.gn rfl L4 rfl ?_
        refine WL.st (R.pkf (.t L5) .c) rfl ?_
        refine WL.st (R.mv (.t L0)) rfl ?_
        refine WL.gn rfl L0 rfl ?_
        refine WL.gn rfl L1 rfl ?_
        refine WL.gn rfl L2 rfl ?_
        refine WL.gn rfl L3 rfl ?_
        refine WL.gn rfl L4 rfl ?_
        refine WL.st (R.pkf (.t L5) .c) rfl ?_
        refine WL.as (.t L0) U37 rfl ?_
        refine WL.nil ?_
        refine QS.next ?_
        refine W.del (.dr (.dr (.dr (.dr (.dr (.dr (.dr (.dr (.dr (.dr (.dr (.dr (.dr (.dr (.dr (.dr (.dr (.dr (.dr (.dr (.dr (.dr (.dr (.dr (.dr (.dr (.dr (.dr (.dr (.dr (.dr (.dr (.dr .rf))))))))))))))))))))))))))))))))) ?_
        refine W.ret ?_
        first
          | (exact QS.fin (.inl rfl) rfl (.tmp L4 .nil) () (congrArg Value.bool (decide_eq_false (by intro h; injection h; omega)).symm) (.dr (.dr .nil)) (fun _ _ _ => trivial))
          | (exact QS.fin (.inl rfl) rfl (.tmp L4 .nil) () (congrArg Value.bool (decide_eq_decide.2 ⟨fun h => by rw [InstrS.mk.injEq]; exact ⟨by omega, by omega, by omega, by omega, h⟩, fun h => by injection h⟩)) (.dr (.dr .nil)) (fun _ _ _ => trivial))
    ·
      refine WL.gn rfl L0 rfl ?_
      refine WL.gn rfl L1 rfl ?_
      refine WL.gn rfl L2 rfl ?_
      refine WL.gn rfl L3 rfl ?_
      refine WL.gn rfl L4 rfl ?_
      refine WL.st (R.pkf (.t L5) .c) rfl ?_
      refine WL.st (R.mv (.t L0)) rfl ?_
      refine WL.gn rfl L0 rfl ?_
      refine WL.gn rfl L1 rfl ?_
      refine WL.gn rfl L2 rfl ?_
      refine WL.gn rfl L3 rfl ?_
      refine WL.gn rfl L4 rfl ?_
      refine WL.st (R.pkf (.t L5) .c) rfl ?_
      refine WL.st (R.mv (.t L0)) rfl ?_
      refine WL.gn rfl L0 rfl ?_
      refine WL.gn rfl L1 rfl ?_
      refine WL.gn rfl L2 rfl ?_
      refine WL.gn rfl L3 rfl ?_
      refine WL.gn rfl L4 rfl ?_
      refine WL.st (R.pkf (.t L5) .c) rfl ?_
      refine WL.as (.t L0) U37 rfl ?_
      refine WL.nil ?_
      refine QS.next ?_
      refine W.del (.dr (.dr (.dr (.dr (.dr (.dr (.dr (.dr (.dr (.dr (.dr (.dr (.dr (.dr (.dr (.dr (.dr (.dr (.dr (.dr (.dr (.dr (.dr (.dr (.dr (.dr (.dr (.dr (.dr (.dr (.dr (.dr (.dr .rf))))))))))))))))))))))))))))))))) ?_
      refine W.ret ?_
      first
        | (exact QS.fin (.inl rfl) rfl (.tmp L4 .nil) () (congrArg Value.bool (decide_eq_false (by intro h; injection h; omega)).symm) (.dr (.dr .nil)) (fun _ _ _ => trivial))
        | (exact QS.fin (.inl rfl) rfl (.tmp L4 .nil) () (congrArg Value.bool (decide_eq_decide.2 ⟨fun h => by rw [InstrS.mk.injEq]; exact ⟨by omega, by omega, by omega, by omega, h⟩, fun h => by injection h⟩)) (.dr (.dr .nil)) (fun _ _ _ => trivial))
  ·
    refine WL.gn rfl L0 rfl ?_
    refine WL.gn rfl L1 rfl ?_
    refine WL.gn rfl L2 rfl ?_
    refine WL.gn rfl L3 rfl ?_
    refine WL.gn rfl L4 rfl ?_
    refine WL.st (R.pkf (.t L5) .c) rfl ?_
    refine WL.st (R.mv (.t L0)) rfl ?_
    refine WL.gn rfl L0 rfl ?_
    refine WL.gn rfl L1 rfl ?_
    refine WL.gn rfl L2 rfl ?_
    refine WL.gn rfl L3 rfl ?_
    refine WL.gn rfl L4 rfl ?_
    refine WL.st (R.pkf (.t L5) .c) rfl ?_
    refine WL.st (R.mv (.t L0)) rfl ?_
    refine WL.gn rfl L0 rfl ?_
    refine WL.gn rfl L1 rfl ?_
    refine WL.gn rfl L2 rfl ?_
    refine WL.gn rfl L3 rfl ?_
    refine WL.gn rfl L4 rfl ?_
    refine WL.st (R.pkf (.t L5) .c) rfl ?_
    refine WL.st (R.mv (.t L0)) rfl ?_
    refine WL.gn rfl L0 rfl ?_
    refine WL.gn rfl L1 rfl ?_
    refine WL.gn rfl L2 rfl ?_
    refine WL.gn rfl L3 rfl ?_
    refine WL.gn rfl L4 rfl ?_
    refine WL.st (R.pkf (.t L5) .c) rfl ?_
    refine WL.as (.t L0) U37 rfl ?_
    refine WL.nil ?_
    refine QS.next ?_
    refine W.del (.dr (.dr (.dr (.dr (.dr (.dr (.dr (.dr (.dr (.dr (.dr (.dr (.dr (.dr (.dr (.dr (.dr (.dr (.dr (.dr (.dr (.dr (.dr (.dr (.dr (.dr (.dr (.dr (.dr (.dr (.dr (.dr (.dr .rf))))))))))))))))))))))))))))))))) ?_
    refine W.ret ?_
    first
      | (exact QS.fin (.inl rfl) rfl (.tmp L4 .nil) () (congrArg Value.bool (decide_eq_false (by intro h; injection h; omega)).symm) (.dr (.dr .nil)) (fun _ _ _ => trivial))
      | (exact QS.fin (.inl rfl) rfl (.tmp L4 .nil) () (congrArg Value.bool (decide_eq_decide.2 ⟨fun h => by rw [InstrS.mk.injEq]; exact ⟨by omega, by omega, by omega, by omega, h⟩, fun h => by injection h⟩)) (.dr (.dr .nil)) (fun _ _ _ => trivial))

theorem law16_instrs {A B : Option Addr} {M K : List (InstrS × Option Addr × Nat)} {c1 c2 : Nat} (hM : M.length ≤ 140737488355328) (hW : ∀ q ∈ M, q.1.widths.length ≤ 140737488355328) {C : Cx} (hb : Hb C C.w0 [] (fun w => RdF icell 5 w A M ∧ (∀ q ∈ M, RdI w q.2.1 q.1.widths) ∧ RdF icell 5 w B K ∧ ∀ q ∈ K, RdI w q.2.1 q.1.widths)) :
    Ret Tryd.prog 36 [.slice A M.length c1, .slice B K.length c2] C (.bool (decide ((M.map (·.1)) = (K.map (·.1))))) := by
  refine Sp.enter (N := 27) (e := entryEnv [.slice A M.length c1, .slice B K.length c2] 0 6) Tryd.func36 rfl rfl (Nat.le_of_ble_eq_true rfl) (entry_ok (Nat.le_of_ble_eq_true rfl) (Nat.le_of_ble_eq_true rfl)) (entry_nd _ _) hb ?_
  show W _ _ _ _ _ [(0, .slice A M.length c1), (1, .slice B K.length c2), (2, undef), (3, undef), (4, undef), (5, undef)] _ _
  refine W.seq ?_
  refine W.region ?_
  refine WL.as .c U4 rfl ?_
  refine WL.nil ?_
  refine QS.next ?_
  refine W.seq ?_
  refine W.seq ?_
  refine W.region ?_
  refine WL.st (R.mv (.t L0)) rfl ?_
  refine WL.st (R.lenl sl_65 (.t L0)) rfl ?_
  refine WL.st (R.mv (.t L3)) rfl ?_
  refine WL.st (R.lenl sl_65 (.t L0)) rfl ?_
  refine WL.st (R.nei (.t L2) (.t L0)) rfl ?_
  refine WL.nil ?_
  refine QS.next ?_
  refine W.del (.kp (.dr (.dr (.dr (.dr .rf))))) ?_
  refine W.cd (.t L0) (fun h0 => ?_) (fun h0 => ?_)
  ·
    refine W.del (.dr .rf) ?_
    refine W.seq ?_
    refine W.region ?_
    refine WL.as .c U4 rfl ?_
    refine WL.nil ?_
    refine QS.next ?_
    refine W.ret ?_
    refine QS.thenr ?_
    exact QS.fin (.inl rfl) rfl (.tmp L4 .nil) () (congrArg Value.bool (lst_len (by simpa using h0)).symm) .nil (fun _ _ _ => trivial)
  ·
    refine W.del (.dr .rf) ?_
    refine W.skip ?_
    refine QS.next ?_
    refine W.seq ?_
    refine W.seq ?_
    refine W.region ?_
    refine WL.as .c U5 rfl ?_
    refine WL.nil ?_
    refine QS.next ?_
    refine W.block ?_
    refine W.loop (ι := {j : Nat // j ≤ M.length ∧ (M.map (·.1)).take j = (K.map (·.1)).take j}) (fun x => [(0, .slice A M.length c1), (1, .slice B K.length c2), (4, .bool false), (5, .int .i64 x.1)]) (fun x => []) (fun x w => RdF icell 5 w A M ∧ ((∀ q ∈ M, RdI w q.2.1 q.1.widths)) ∧ RdF icell 5 w B K ∧ (∀ q ∈ K, RdI w q.2.1 q.1.widths)) (fun x => M.length - x.1) ⟨0, Nat.zero_le _, rfl⟩ (.kp rfl (.kp rfl (.dr (.dr (.kp rfl (.kp rfl .nil)))))) .nil (fun w h hd => ⟨h.1, h.2.1, h.2.2.1, h.2.2.2⟩) ?_
    intro x
    obtain ⟨j, hj1, hj2⟩ := x
    show W _ _ _ _ _ [(0, .slice A M.length c1), (1, .slice B K.length c2), (4, .bool false), (5, .int .i64 j)] [] (fun w => RdF icell 5 w A M ∧ ((∀ q ∈ M, RdI w q.2.1 q.1.widths)) ∧ RdF icell 5 w B K ∧ (∀ q ∈ K, RdI w q.2.1 q.1.widths))
    refine W.seq ?_
    refine W.seq ?_
    refine W.region ?_
    refine WL.st (R.mv (.t L3)) rfl ?_
    refine WL.st (R.mv (.t L1)) rfl ?_
    refine WL.st (R.lenl sl_65 (.t L0)) rfl ?_
    refine WL.st (R.lss (.t L2) (.t L0)) rfl ?_
    refine WL.nil ?_
    refine QS.next ?_
    refine W.del (.kp (.dr (.dr (.dr .rf)))) ?_
    refine W.cd (.t L0) (fun h1 => ?_) (fun h1 => ?_)
    ·
      refine W.del (.dr .rf) ?_
      refine W.skip ?_
      refine QS.next ?_
      refine W.seq ?_
      refine W.block ?_
      refine W.seq ?_
      refine W.draw 10 mixed (by kernel_rfl) ?_
      refine HD.st (R.mv (.t L0)) rfl ?_
      refine HD.st (R.mv (.t L4)) rfl ?_
      obtain ⟨x19, hx19⟩ : ∃ x, (M)[j]? = some x := ⟨_, List.getElem?_eq_getElem (by omega)⟩
      refine HD.st (R.ixF sl_65 (.t L1) rfl (.t L0) (l := M) (j := j) rfl (List.getElem?_eq_some_iff.1 hx19).1 (by decide) (fun w hb => hb.get.1)) rfl ?_
      refine HD.st (R.ldpF ag_59 (.t L0) (j := j) (k := 0) (fun w hb => hb.get.1) hx19 (by repeat constructor) (by decide)) rfl ?_
      refine HD.st (R.mv (.t L5)) rfl ?_
      refine HD.st (R.mv (.t L8)) rfl ?_
      obtain ⟨x23, hx23⟩ : ∃ x, (K)[j]? = some x := ⟨_, List.getElem?_eq_getElem (by omega)⟩
      refine HD.st (R.ixF sl_65 (.t L1) rfl (.t L0) (l := K) (j := j) rfl (List.getElem?_eq_some_iff.1 hx23).1 (by decide) (fun w hb => hb.get.2.2.1)) rfl ?_
      refine HD.st (R.ldpF ag_59 (.t L0) (j := j) (k := 0) (fun w hb => hb.get.2.2.1) hx23 (by repeat constructor) (by decide)) rfl ?_
      refine HD.callr gf_33 .f (.cons (.t L4) (.cons (.t L0) .nil)) (fun w hb => (ref16_SameInstr (hW x19 (List.mem_of_getElem? hx19)) (hb.imp fun _ h => ⟨h.2.1 x19 (List.mem_of_getElem? hx19), h.2.2.2 x23 (List.mem_of_getElem? hx23)⟩))) rfl ?_
      refine HD.st (R.not (.t L0)) rfl ?_
      refine HD.nil ?_
      refine WL.nil ?_
      refine QS.next ?_
      refine W.del (.kp (.dr (.dr (.dr (.dr (.dr (.dr (.dr (.dr (.dr .rf)))))))))) ?_
      refine W.cd (.t L0) (fun h2 => ?_) (fun h2 => ?_)
      ·
        refine W.del (.dr .rf) ?_
        refine W.seq ?_
        refine W.region ?_
        refine WL.as .c U2 rfl ?_
        refine WL.nil ?_
        refine QS.next ?_
        refine W.ret ?_
        refine QS.blkr ?_
        refine QS.thenr ?_
        refine QS.thenr ?_
        refine QS.blkr ?_
        refine QS.thenr ?_
        exact QS.fin (.inl rfl) rfl (.tmp L2 .nil) () (congrArg Value.bool (lst_ne (map_get hx19) (map_get hx23) h2).symm) .nil (fun _ _ _ => trivial)
      ·
        refine W.del (.dr .rf) ?_
        refine W.skip ?_
        refine QS.blkn ?_
        refine QS.next ?_
        refine W.region ?_
        refine WL.st (R.mv (.t L3)) rfl ?_
        refine WL.st (R.add (.t L0) .c (wi (by omega) (by omega))) rfl ?_
        refine WL.as (.t L0) U5 rfl ?_
        refine WL.nil ?_
        exact QS.at ⟨j + 1, by omega, lst_snoc hj2 (map_get hx19) (map_get hx23) (Classical.not_not.1 h2)⟩ (by dsimp only; omega) (.dr (.dr (.kp rfl (.kp rfl (.kp rfl (.kp rfl .nil)))))) .nil (fun w h hd => ⟨h.1, h.2.1, h.2.2.1, h.2.2.2⟩)
    ·
      refine W.del (.dr .rf) ?_
      refine W.exit ?_
      refine QS.thenx ?_
      refine QS.thenx ?_
      refine QS.blkx ?_
      refine QS.next ?_
      refine W.seq ?_
      refine W.region ?_
      refine WL.as .c U2 rfl ?_
      refine WL.nil ?_
      refine QS.next ?_
      refine W.ret ?_
      exact QS.fin (.inl rfl) rfl (.tmp L2 .nil) () (congrArg Value.bool (lst_eq hj2 (by simp; omega) (by simp; omega)).symm) .nil (fun _ _ _ => trivial)

theorem ops_same {a b : OpS} (h1 : ¬ a.kind ≠ b.kind) (h2 : ¬ a.n ≠ b.n) (h3 : ¬ a.text ≠ b.text) (h4 : ¬ ¬ a.widths = b.widths) : a = b := by
  cases a; cases b
  simp at h1 h2 h3 h4
  simp [h1, h2, h3, h4]

theorem ref16_SameOps {A B : Option Addr} {M K : List (OpS × Option Addr × Nat)} {c1 c2 : Nat} (hM : M.length ≤ 140737488355328) (hW : ∀ q ∈ M, q.1.widths.length ≤ 140737488355328) {C : Cx} (hb : Hb C C.w0 [] (fun w => RdF ocell 4 w A M ∧ (∀ q ∈ M, RdI w q.2.1 q.1.widths) ∧ RdF ocell 4 w B K ∧ ∀ q ∈ K, RdI w q.2.1 q.1.widths)) :
    Ret Tryd.prog 38 [.slice A M.length c1, .slice B K.length c2] C (.bool (decide ((M.map (·.1)) = (K.map (·.1))))) := by
  refine Sp.enter (N := 68) (e := entryEnv [.slice A M.length c1, .slice B K.length c2] 0 6) Tryd.func38 rfl rfl (Nat.le_of_ble_eq_true rfl) (entry_ok (Nat.le_of_ble_eq_true rfl) (Nat.le_of_ble_eq_true rfl)) (entry_nd _ _) hb ?_
  show W _ _ _ _ _ [(0, .slice A M.length c1), (1, .slice B K.length c2), (2, undef), (3, undef), (4, undef), (5, undef)] _ _
  refine W.seq ?_
  refine W.region ?_
  refine WL.as .c U4 rfl ?_
  refine WL.nil ?_
  refine QS.next ?_
  refine W.seq ?_
  refine W.seq ?_
  refine W.region ?_
  refine WL.st (R.mv (.t L0)) rfl ?_
  refine WL.st (R.lenl sl_47 (.t L0)) rfl ?_
  refine WL.st (R.mv (.t L3)) rfl ?_
  refine WL.st (R.lenl sl_47 (.t L0)) rfl ?_
  refine WL.st (R.nei (.t L2) (.t L0)) rfl ?_
  refine WL.nil ?_
  refine QS.next ?_
  refine W.del (.kp (.dr (.dr (.dr (.dr .rf))))) ?_
  refine W.cd (.t L0) (fun h0 => ?_) (fun h0 => ?_)
  ·
    refine W.del (.dr .rf) ?_
    refine W.seq ?_
    refine W.region ?_
    refine WL.as .c U4 rfl ?_
    refine WL.nil ?_
    refine QS.next ?_
    refine W.ret ?_
    refine QS.thenr ?_
    exact QS.fin (.inl rfl) rfl (.tmp L4 .nil) () (congrArg Value.bool (lst_len (by simpa using h0)).symm) .nil (fun _ _ _ => trivial)
  ·
    refine W.del (.dr .rf) ?_
    refine W.skip ?_
    refine QS.next ?_
    refine W.seq ?_
    refine W.seq ?_
    refine W.region ?_
    refine WL.as .c U5 rfl ?_
    refine WL.nil ?_
    refine QS.next ?_
    refine W.block ?_
    refine W.loop (ι := {j : Nat // j ≤ M.length ∧ (M.map (·.1)).take j = (K.map (·.1)).take j}) (fun x => [(0, .slice A M.length c1), (1, .slice B K.length c2), (4, .bool false), (5, .int .i64 x.1)]) (fun x => []) (fun x w => RdF ocell 4 w A M ∧ ((∀ q ∈ M, RdI w q.2.1 q.1.widths)) ∧ RdF ocell 4 w B K ∧ (∀ q ∈ K, RdI w q.2.1 q.1.widths)) (fun x => M.length - x.1) ⟨0, Nat.zero_le _, rfl⟩ (.kp rfl (.kp rfl (.dr (.dr (.kp rfl (.kp rfl .nil)))))) .nil (fun w h hd => ⟨h.1, h.2.1, h.2.2.1, h.2.2.2⟩) ?_
    intro x
    obtain ⟨j, hj1, hj2⟩ := x
    show W _ _ _ _ _ [(0, .slice A M.length c1), (1, .slice B K.length c2), (4, .bool false), (5, .int .i64 j)] [] (fun w => RdF ocell 4 w A M ∧ ((∀ q ∈ M, RdI w q.2.1 q.1.widths)) ∧ RdF ocell 4 w B K ∧ (∀ q ∈ K, RdI w q.2.1 q.1.widths))
    refine W.seq ?_
    refine W.seq ?_
    refine W.region ?_
    refine WL.st (R.mv (.t L3)) rfl ?_
    refine WL.st (R.mv (.t L1)) rfl ?_
    refine WL.st (R.lenl sl_47 (.t L0)) rfl ?_
    refine WL.st (R.lss (.t L2) (.t L0)) rfl ?_
    refine WL.nil ?_
    refine QS.next ?_
    refine W.del (.kp (.dr (.dr (.dr .rf)))) ?_
    refine W.cd (.t L0) (fun h1 => ?_) (fun h1 => ?_)
    ·
      refine W.del (.dr .rf) ?_
      refine W.skip ?_
      refine QS.next ?_
      refine W.seq ?_
      refine W.block ?_
      refine W.seq ?_
      refine W.draw 48 mixed (by kernel_rfl) ?_
      refine HD.st (R.mv (.t L0)) rfl ?_
      refine HD.st (R.mv (.t L4)) rfl ?_
      obtain ⟨x19, hx19⟩ : ∃ x, (M)[j]? = some x := ⟨_, List.getElem?_eq_getElem (by omega)⟩
      refine HD.st (R.ixF sl_47 (.t L1) rfl (.t L0) (l := M) (j := j) rfl (List.getElem?_eq_some_iff.1 hx19).1 (by decide) (fun w hb => hb.get.1)) rfl ?_
      refine HD.st (R.fapk fo_95_0 (.t L0) (j := j * 4) (k := 0) (k2 := 0) rfl (fun w hb => RdF.ne (hb.get.1) (List.getElem?_eq_some_iff.1 hx19).1 (by decide))) rfl ?_
      refine HD.st (R.ldp sc_57 (.t L0) (fun w hb => RdF.cell (k := 0) (hb.get.1) hx19 rfl)) rfl ?_
      refine HD.st (R.mv (.t L6)) rfl ?_
      refine HD.st (R.mv (.t L9)) rfl ?_
      obtain ⟨x24, hx24⟩ : ∃ x, (K)[j]? = some x := ⟨_, List.getElem?_eq_getElem (by omega)⟩
      refine HD.st (R.ixF sl_47 (.t L1) rfl (.t L0) (l := K) (j := j) rfl (List.getElem?_eq_some_iff.1 hx24).1 (by decide) (fun w hb => hb.get.2.2.1)) rfl ?_
      refine HD.st (R.fapk fo_95_0 (.t L0) (j := j * 4) (k := 0) (k2 := 0) rfl (fun w hb => RdF.ne (hb.get.2.2.1) (List.getElem?_eq_some_iff.1 hx24).1 (by decide))) rfl ?_
      refine HD.st (R.ldp sc_57 (.t L0) (fun w hb => RdF.cell (k := 0) (hb.get.2.2.1) hx24 rfl)) rfl ?_
      refine HD.st (R.nei (.t L5) (.t L0)) rfl ?_
      refine HD.st (R.mv (.t L0)) rfl ?_
      refine HD.cd L0 U0 U0 (fun hg28 => ?_) (fun hg28 => ?_)
      ·
        refine HD.gn rfl L0 rfl ?_
        refine HD.gn rfl L1 rfl ?_
        refine HD.gn rfl L2 rfl ?_
        refine HD.gn rfl L3 rfl ?_
        refine HD.gn rfl L4 rfl ?_
        refine HD.gn rfl L5 rfl ?_
        refine HD.gn rfl L6 rfl ?_
        refine HD.gn rfl L7 rfl ?_
        refine HD.gn rfl L8 rfl ?_
        refine HD.gn rfl L9 rfl ?_
        refine HD.gn rfl L10 rfl ?_
        refine HD.st (R.pkt (.t L11) .c) rfl ?_
        refine HD.st (R.mv (.t L0)) rfl ?_
        refine HD.gn rfl L0 rfl ?_
        refine HD.gn rfl L1 rfl ?_
        refine HD.gn rfl L2 rfl ?_
        refine HD.gn rfl L3 rfl ?_
        refine HD.gn rfl L4 rfl ?_
        refine HD.gn rfl L5 rfl ?_
        refine HD.gn rfl L6 rfl ?_
        refine HD.gn rfl L7 rfl ?_
        refine HD.gn rfl L8 rfl ?_
        refine HD.gn rfl L9 rfl ?_
        refine HD.gn rfl L10 rfl ?_
        refine HD.st (R.pkt (.t L11) .c) rfl ?_
        refine HD.st (R.mv (.t L0)) rfl ?_
        refine HD.gn rfl L0 rfl ?_
        refine HD.gn rfl L1 rfl ?_
        refine HD.gn rfl L2 rfl ?_
        refine HD.gn rfl L3 rfl ?_
        refine HD.gn rfl L4 rfl ?_
        refine HD.gn rfl L5 rfl ?_
        refine HD.gn rfl L6 rfl ?_
        refine HD.gn rfl L7 rfl ?_
        refine HD.gn rfl L8 rfl ?_
        refine HD.gn rfl L9 rfl ?_
        refine HD.nil ?_
        refine WL.gn rfl L10 rfl ?_
        refine WL.gn rfl L11 rfl ?_
        refine WL.st (R.pkt (.t L12) .c) rfl ?_
        refine WL.nil ?_
        refine QS.next ?_
        refine W.del (.kp (.dr (.dr (.dr (.dr (.dr (.dr (.dr (.dr (.dr (.dr (.dr (.dr (.dr (.dr (.dr (.dr (.dr (.dr (.dr (.dr (.dr (.dr (.dr (.dr (.dr (.dr (.dr (.dr (.dr (.dr (.dr (.dr (.dr (.dr (.dr (.dr (.dr (.dr (.dr (.dr (.dr (.dr (.dr (.dr (.dr (.dr (.dr (.dr (.dr (.dr .rf))))))))))))))))))))))))))))))))))))))))))))))))))) ?_
        refine W.ct (.t L0) ?_
        refine W.del (.dr .rf) ?_
        refine W.seq ?_
        refine W.region ?_
        refine WL.as .c U2 rfl ?_
        refine WL.nil ?_
        refine QS.next ?_
        refine W.ret ?_
        refine QS.blkr ?_
        refine QS.thenr ?_
        refine QS.thenr ?_
        refine QS.blkr ?_
        refine QS.thenr ?_
        first
          | (exact QS.fin (.inl rfl) rfl (.tmp L2 .nil) () (congrArg Value.bool (lst_ne (map_get hx19) (map_get hx24) (fun h => hg28 (congrArg OpS.kind h))).symm) .nil (fun _ _ _ => trivial))
          | (exact QS.fin (.inl rfl) rfl (.tmp L2 .nil) () (congrArg Value.bool (lst_ne (map_get hx19) (map_get hx24) (fun h => hg41 (congrArg OpS.n h))).symm) .nil (fun _ _ _ => trivial))
          | (exact QS.fin (.inl rfl) rfl (.tmp L2 .nil) () (congrArg Value.bool (lst_ne (map_get hx19) (map_get hx24) (fun h => hg54 (congrArg OpS.text h))).symm) .nil (fun _ _ _ => trivial))
          | (exact QS.fin (.inl rfl) rfl (.tmp L2 .nil) () (congrArg Value.bool (lst_ne (map_get hx19) (map_get hx24) (fun h => h2 (congrArg OpS.widths h))).symm) .nil (fun _ _ _ => trivial))
      ·
        refine HD.gy rfl L0 (R.mv (.t L12)) rfl ?_
        refine HD.gy rfl L1 (R.mv (.t L16)) rfl ?_
        obtain ⟨x31, hx31⟩ : ∃ x, (M)[j]? = some x := ⟨_, List.getElem?_eq_getElem (by omega)⟩
        have hxe31 : x19 = x31 := by rw [hx19] at hx31; injection hx31
        subst hxe31
        refine HD.gy rfl L2 (R.ixF sl_47 (.t L1) rfl (.t L0) (l := M) (j := j) rfl (List.getElem?_eq_some_iff.1 hx31).1 (by decide) (fun w hb => hb.get.1)) rfl ?_
        refine HD.gy rfl L3 (R.fapk fo_95_1 (.t L0) (j := j * 4) (k := 0) (k2 := 1) rfl (fun w hb => RdF.ne (hb.get.1) (List.getElem?_eq_some_iff.1 hx31).1 (by decide))) rfl ?_
        refine HD.gy rfl L4 (R.ldp sc_3 (.t L0) (fun w hb => RdF.cell (k := 1) (hb.get.1) hx31 rfl)) rfl ?_
        refine HD.gy rfl L5 (R.mv (.t L18)) rfl ?_
        refine HD.gy rfl L6 (R.mv (.t L21)) rfl ?_
        obtain ⟨x36, hx36⟩ : ∃ x, (K)[j]? = some x := ⟨_, List.getElem?_eq_getElem (by omega)⟩
        have hxe36 : x24 = x36 := by rw [hx24] at hx36; injection hx36
        subst hxe36
        refine HD.gy rfl L7 (R.ixF sl_47 (.t L1) rfl (.t L0) (l := K) (j := j) rfl (List.getElem?_eq_some_iff.1 hx36).1 (by decide) (fun w hb => hb.get.2.2.1)) rfl ?_
        refine HD.gy rfl L8 (R.fapk fo_95_1 (.t L0) (j := j * 4) (k := 0) (k2 := 1) rfl (fun w hb => RdF.ne (hb.get.2.2.1) (List.getElem?_eq_some_iff.1 hx36).1 (by decide))) rfl ?_
        refine HD.gy rfl L9 (R.ldp sc_3 (.t L0) (fun w hb => RdF.cell (k := 1) (hb.get.2.2.1) hx36 rfl)) rfl ?_
        refine HD.gy rfl L10 (R.nei (.t L5) (.t L0)) rfl ?_
        refine HD.st (R.pkf (.t L11) (.t L0)) rfl ?_
        refine HD.st (R.mv (.t L0)) rfl ?_
        refine HD.cd L0 U0 U0 (fun hg41 => ?_) (fun hg41 => ?_)
        ·
          refine HD.gn rfl L0 rfl ?_
          refine HD.gn rfl L1 rfl ?_
          refine HD.gn rfl L2 rfl ?_
          refine HD.gn rfl L3 rfl ?_
          refine HD.gn rfl L4 rfl ?_
          refine HD.gn rfl L5 rfl ?_
          refine HD.gn rfl L6 rfl ?_
          refine HD.gn rfl L7 rfl ?_
          refine HD.gn rfl L8 rfl ?_
          refine HD.gn rfl L9 rfl ?_
          refine HD.gn rfl L10 rfl ?_
          refine HD.st (R.pkt (.t L11) .c) rfl ?_
          refine HD.st (R.mv (.t L0)) rfl ?_
          refine HD.gn rfl L0 rfl ?_
          refine HD.gn rfl L1 rfl ?_
          refine HD.gn rfl L2 rfl ?_
          refine HD.gn rfl L3 rfl ?_
          refine HD.gn rfl L4 rfl ?_
          refine HD.gn rfl L5 rfl ?_
          refine HD.gn rfl L6 rfl ?_
          refine HD.gn rfl L7 rfl ?_
          refine HD.gn rfl L8 rfl ?_
          refine HD.gn rfl L9 rfl ?_
          refine HD.nil ?_
          refine WL.gn rfl L10 rfl ?_
          refine WL.gn rfl L11 rfl ?_
          refine WL.st (R.pkt (.t L12) .c) rfl ?_
          refine WL.nil ?_
          refine QS.next ?_
          refine W.del (.kp (.dr (.dr (.dr (.dr (.dr (.dr (.dr (.dr (.dr (.dr (.dr (.dr (.dr (.dr (.dr (.dr (.dr (.dr (.dr (.dr (.dr (.dr (.dr (.dr (.dr (.dr (.dr (.dr (.dr (.dr (.dr (.dr (.dr (.dr (.dr (.dr (.dr (.dr (.dr (.dr (.dr (.dr (.dr (.dr (.dr (.dr (.dr (.dr (.dr (.dr .rf))))))))))))))))))))))))))))))))))))))))))))))))))) ?_
          refine W.ct (.t L0) ?_
          refine W.del (.dr .rf) ?_
          refine W.seq ?_
          refine W.region ?_
          refine WL.as .c U2 rfl ?_
          refine WL.nil ?_
          refine QS.next ?_
          refine W.ret ?_
          refine QS.blkr ?_
          refine QS.thenr ?_
          refine QS.thenr ?_
          refine QS.blkr ?_
          refine QS.thenr ?_
          first
            | (exact QS.fin (.inl rfl) rfl (.tmp L2 .nil) () (congrArg Value.bool (lst_ne (map_get hx19) (map_get hx24) (fun h => hg28 (congrArg OpS.kind h))).symm) .nil (fun _ _ _ => trivial))
            | (exact QS.fin (.inl rfl) rfl (.tmp L2 .nil) () (congrArg Value.bool (lst_ne (map_get hx19) (map_get hx24) (fun h => hg41 (congrArg OpS.n h))).symm) .nil (fun _ _ _ => trivial))
            | (exact QS.fin (.inl rfl) rfl (.tmp L2 .nil) () (congrArg Value.bool (lst_ne (map_get hx19) (map_get hx24) (fun h => hg54 (congrArg OpS.text h))).symm) .nil (fun _ _ _ => trivial))
            | (exact QS.fin (.inl rfl) rfl (.tmp L2 .nil) () (congrArg Value.bool (lst_ne (map_get hx19) (map_get hx24) (fun h => h2 (congrArg OpS.widths h))).symm) .nil (fun _ _ _ => trivial))
        ·
          refine HD.gy rfl L0 (R.mv (.t L25)) rfl ?_
          refine HD.gy rfl L1 (R.mv (.t L29)) rfl ?_
          obtain ⟨x44, hx44⟩ : ∃ x, (M)[j]? = some x := ⟨_, List.getElem?_eq_getElem (by omega)⟩
          have hxe44 : x19 = x44 := by rw [hx19] at hx44; injection hx44
          subst hxe44
          refine HD.gy rfl L2 (R.ixF sl_47 (.t L1) rfl (.t L0) (l := M) (j := j) rfl (List.getElem?_eq_some_iff.1 hx44).1 (by decide) (fun w hb => hb.get.1)) rfl ?_
          refine HD.gy rfl L3 (R.fapk fo_95_2 (.t L0) (j := j * 4) (k := 0) (k2 := 2) rfl (fun w hb => RdF.ne (hb.get.1) (List.getElem?_eq_some_iff.1 hx44).1 (by decide))) rfl ?_
          refine HD.gy rfl L4 (R.ldp sc_9 (.t L0) (fun w hb => RdF.cell (k := 2) (hb.get.1) hx44 rfl)) rfl ?_
          refine HD.gy rfl L5 (R.mv (.t L31)) rfl ?_
          refine HD.gy rfl L6 (R.mv (.t L34)) rfl ?_
          obtain ⟨x49, hx49⟩ : ∃ x, (K)[j]? = some x := ⟨_, List.getElem?_eq_getElem (by omega)⟩
          have hxe49 : x24 = x49 := by rw [hx24] at hx49; injection hx49
          subst hxe49
          refine HD.gy rfl L7 (R.ixF sl_47 (.t L1) rfl (.t L0) (l := K) (j := j) rfl (List.getElem?_eq_some_iff.1 hx49).1 (by decide) (fun w hb => hb.get.2.2.1)) rfl ?_
          refine HD.gy rfl L8 (R.fapk fo_95_2 (.t L0) (j := j * 4) (k := 0) (k2 := 2) rfl (fun w hb => RdF.ne (hb.get.2.2.1) (List.getElem?_eq_some_iff.1 hx49).1 (by decide))) rfl ?_
          refine HD.gy rfl L9 (R.ldp sc_9 (.t L0) (fun w hb => RdF.cell (k := 2) (hb.get.2.2.1) hx49 rfl)) rfl ?_
          refine HD.gy rfl L10 (R.nes (.t L5) (.t L0)) rfl ?_
          refine HD.st (R.pkf (.t L11) (.t L0)) rfl ?_
          refine HD.st (R.mv (.t L0)) rfl ?_
          refine HD.cd L0 U0 U0 (fun hg54 => ?_) (fun hg54 => ?_)
          ·
            refine HD.gn rfl L0 rfl ?_
            refine HD.gn rfl L1 rfl ?_
            refine HD.gn rfl L2 rfl ?_
            refine HD.gn rfl L3 rfl ?_
            refine HD.gn rfl L4 rfl ?_
            refine HD.gn rfl L5 rfl ?_
            refine HD.gn rfl L6 rfl ?_
            refine HD.gn rfl L7 rfl ?_
            refine HD.gn rfl L8 rfl ?_
            refine HD.gn rfl L9 rfl ?_
            refine HD.nil ?_
            refine WL.gn rfl L10 rfl ?_
            refine WL.gn rfl L11 rfl ?_
            refine WL.st (R.pkt (.t L12) .c) rfl ?_
            refine WL.nil ?_
            refine QS.next ?_
            refine W.del (.kp (.dr (.dr (.dr (.dr (.dr (.dr (.dr (.dr (.dr (.dr (.dr (.dr (.dr (.dr (.dr (.dr (.dr (.dr (.dr (.dr (.dr (.dr (.dr (.dr (.dr (.dr (.dr (.dr (.dr (.dr (.dr (.dr (.dr (.dr (.dr (.dr (.dr (.dr (.dr (.dr (.dr (.dr (.dr (.dr (.dr (.dr (.dr (.dr (.dr (.dr .rf))))))))))))))))))))))))))))))))))))))))))))))))))) ?_
            refine W.ct (.t L0) ?_
            refine W.del (.dr .rf) ?_
            refine W.seq ?_
            refine W.region ?_
            refine WL.as .c U2 rfl ?_
            refine WL.nil ?_
            refine QS.next ?_
            refine W.ret ?_
            refine QS.blkr ?_
            refine QS.thenr ?_
            refine QS.thenr ?_
            refine QS.blkr ?_
            refine QS.thenr ?_
            first
              | (exact QS.fin (.inl rfl) rfl (.tmp L2 .nil) () (congrArg Value.bool (lst_ne (map_get hx19) (map_get hx24) (fun h => hg28 (congrArg OpS.kind h))).symm) .nil (fun _ _ _ => trivial))
              | (exact QS.fin (.inl rfl) rfl (.tmp L2 .nil) () (congrArg Value.bool (lst_ne (map_get hx19) (map_get hx24) (fun h => hg41 (congrArg OpS.n h))).symm) .nil (fun _ _ _ => trivial))
              | (exact QS.fin (.inl rfl) rfl (.tmp L2 .nil) () (congrArg Value.bool (lst_ne (map_get hx19) (map_get hx24) (fun h => hg54 (congrArg OpS.text h))).symm) .nil (fun _ _ _ => trivial))
              | (exact QS.fin (.inl rfl) rfl (.tmp L2 .nil) () (congrArg Value.bool (lst_ne (map_get hx19) (map_get hx24) (fun h => h2 (congrArg OpS.widths h))).symm) .nil (fun _ _ _ => trivial))
          ·
            refine HD.gy rfl L0 (R.mv (.t L38)) rfl ?_
            refine HD.gy rfl L1 (R.mv (.t L42)) rfl ?_
            obtain ⟨x57, hx57⟩ : ∃ x, (M)[j]? = some x := ⟨_, List.getElem?_eq_getElem (by omega)⟩
            have hxe57 : x19 = x57 := by rw [hx19] at hx57; injection hx57
            subst hxe57
            refine HD.gy rfl L2 (R.ixF sl_47 (.t L1) rfl (.t L0) (l := M) (j := j) rfl (List.getElem?_eq_some_iff.1 hx57).1 (by decide) (fun w hb => hb.get.1)) rfl ?_
            refine HD.gy rfl L3 (R.fapk fo_95_3 (.t L0) (j := j * 4) (k := 0) (k2 := 3) rfl (fun w hb => RdF.ne (hb.get.1) (List.getElem?_eq_some_iff.1 hx57).1 (by decide))) rfl ?_
            refine HD.gy rfl L4 (R.ldp sc_37 (.t L0) (fun w hb => RdF.cell (k := 3) (hb.get.1) hx57 rfl)) rfl ?_
            refine HD.gy rfl L5 (R.mv (.t L44)) rfl ?_
            refine HD.gy rfl L6 (R.mv (.t L47)) rfl ?_
            obtain ⟨x62, hx62⟩ : ∃ x, (K)[j]? = some x := ⟨_, List.getElem?_eq_getElem (by omega)⟩
            have hxe62 : x24 = x62 := by rw [hx24] at hx62; injection hx62
            subst hxe62
            refine HD.gy rfl L7 (R.ixF sl_47 (.t L1) rfl (.t L0) (l := K) (j := j) rfl (List.getElem?_eq_some_iff.1 hx62).1 (by decide) (fun w hb => hb.get.2.2.1)) rfl ?_
            refine HD.gy rfl L8 (R.fapk fo_95_3 (.t L0) (j := j * 4) (k := 0) (k2 := 3) rfl (fun w hb => RdF.ne (hb.get.2.2.1) (List.getElem?_eq_some_iff.1 hx62).1 (by decide))) rfl ?_
            refine HD.gy rfl L9 (R.ldp sc_37 (.t L0) (fun w hb => RdF.cell (k := 3) (hb.get.2.2.1) hx62 rfl)) rfl ?_
            refine HD.nil ?_
            refine WL.gyw rfl L10 ?_
            refine WL.callr gf_61 .f (.cons (.t L5) (.cons (.t L0) .nil)) (fun w hb => (ref16_ints (hW x19 (List.mem_of_getElem? hx19)) (hb.imp fun _ h => ⟨h.2.1 x19 (List.mem_of_getElem? hx19), h.2.2.2 x24 (List.mem_of_getElem? hx24)⟩))) rfl ?_
            refine WL.gy rfl L11 (R.not (.t L0)) rfl ?_
            refine WL.st (R.pkf (.t L12) (.t L0)) rfl ?_
            refine WL.nil ?_
            refine QS.next ?_
            refine W.del (.kp (.dr (.dr (.dr (.dr (.dr (.dr (.dr (.dr (.dr (.dr (.dr (.dr (.dr (.dr (.dr (.dr (.dr (.dr (.dr (.dr (.dr (.dr (.dr (.dr (.dr (.dr (.dr (.dr (.dr (.dr (.dr (.dr (.dr (.dr (.dr (.dr (.dr (.dr (.dr (.dr (.dr (.dr (.dr (.dr (.dr (.dr (.dr (.dr (.dr (.dr .rf))))))))))))))))))))))))))))))))))))))))))))))))))) ?_
            refine W.cd (.t L0) (fun h2 => ?_) (fun h2 => ?_)
            ·
              refine W.del (.dr .rf) ?_
              refine W.seq ?_
              refine W.region ?_
              refine WL.as .c U2 rfl ?_
              refine WL.nil ?_
              refine QS.next ?_
              refine W.ret ?_
              refine QS.blkr ?_
              refine QS.thenr ?_
              refine QS.thenr ?_
              refine QS.blkr ?_
              refine QS.thenr ?_
              first
                | (exact QS.fin (.inl rfl) rfl (.tmp L2 .nil) () (congrArg Value.bool (lst_ne (map_get hx19) (map_get hx24) (fun h => hg28 (congrArg OpS.kind h))).symm) .nil (fun _ _ _ => trivial))
                | (exact QS.fin (.inl rfl) rfl (.tmp L2 .nil) () (congrArg Value.bool (lst_ne (map_get hx19) (map_get hx24) (fun h => hg41 (congrArg OpS.n h))).symm) .nil (fun _ _ _ => trivial))
                | (exact QS.fin (.inl rfl) rfl (.tmp L2 .nil) () (congrArg Value.bool (lst_ne (map_get hx19) (map_get hx24) (fun h => hg54 (congrArg OpS.text h))).symm) .nil (fun _ _ _ => trivial))
                | (exact QS.fin (.inl rfl) rfl (.tmp L2 .nil) () (congrArg Value.bool (lst_ne (map_get hx19) (map_get hx24) (fun h => h2 (congrArg OpS.widths h))).symm) .nil (fun _ _ _ => trivial))
            ·
              refine W.del (.dr .rf) ?_
              refine W.skip ?_
              refine QS.blkn ?_
              refine QS.next ?_
              refine W.region ?_
              refine WL.st (R.mv (.t L3)) rfl ?_
              refine WL.st (R.add (.t L0) .c (wi (by omega) (by omega))) rfl ?_
              refine WL.as (.t L0) U5 rfl ?_
              refine WL.nil ?_
              exact QS.at ⟨j + 1, by omega, lst_snoc hj2 (map_get hx19) (map_get hx24) (ops_same hg28 hg41 hg54 h2)⟩ (by dsimp only; omega) (.dr (.dr (.kp rfl (.kp rfl (.kp rfl (.kp rfl .nil)))))) .nil (fun w h hd => ⟨h.1, h.2.1, h.2.2.1, h.2.2.2⟩)
    ·
      refine W.del (.dr .rf) ?_
      refine W.exit ?_
      refine QS.thenx ?_
      refine QS.thenx ?_
      refine QS.blkx ?_
      refine QS.next ?_
      refine W.seq ?_
      refine W.region ?_
      refine WL.as .c U2 rfl ?_
      refine WL.nil ?_
      refine QS.next ?_
      refine W.ret ?_
      exact QS.fin (.inl rfl) rfl (.tmp L2 .nil) () (congrArg Value.bool (lst_eq hj2 (by simp; omega) (by simp; omega)).symm) .nil (fun _ _ _ => trivial)

theorem law16_bytes {A : Option Addr} {b : List UInt8} {c : Nat} (hl : b.length ≤ 140737488355328) {C : Cx} (hb : Hb C C.w0 [] (fun w => RdB w A b)) :
    Sp Tryd.prog 31 [.slice A b.length c] C (ι := {x : Option Addr × Nat // b.length ≤ x.2}) (fun x => .slice x.1.1 b.length x.1.2) (fun _ => []) (fun x w => RdB w x.1.1 b) := by
  refine Sp.enter (N := 6) (e := entryEnv [.slice A b.length c] 0 3) Tryd.func31 rfl rfl (Nat.le_of_ble_eq_true rfl) (entry_ok (Nat.le_of_ble_eq_true rfl) (Nat.le_of_ble_eq_true rfl)) (entry_nd _ _) hb ?_
  show W _ _ _ _ _ [(0, .slice A b.length c), (1, undef), (2, undef)] _ _
  refine W.seq ?_
  refine W.region ?_
  refine WL.as .c U2 rfl ?_
  refine WL.nil ?_
  refine QS.next ?_
  refine W.seq ?_
  refine W.region ?_
  refine WL.bs0 sl_22 rfl (fun g3 => ?_)
  refine WL.st (R.mv (.t L1)) rfl ?_
  refine WL.app' ap_22 (.t L1) (.t L0) (fun _ _ => C0) (fun w hb => hb.get) (bcells_one b) (by unfold maxLen; omega) (by omega) rfl (fun A5 c5 => ?_)
  refine WL.know (p := b.length ≤ c5) (fun w hb => by have := row_cap (hb.hp.hold _ (List.mem_cons_self ..)); omega) (fun hc5 => ?_)
  refine WL.as (.t L0) U5 rfl ?_
  refine WL.nil ?_
  refine QS.next ?_
  refine W.del (.dr (.dr (.dr .rf))) ?_
  refine W.ret ?_
  exact QS.fin (.inl rfl) rfl (.tmp L2 .nil) ⟨(A5, c5), hc5⟩ (by simp [resVal]) (.dr .nil) (fun w h hd => rdB_rowN hd.1 (by simp) (by simp))

theorem law16_twin {A : Option Addr} {M : List (OpS × Option Addr × Nat)} {c : Nat} (hM : M.length ≤ 2513169434916) (hW : ∀ q ∈ M, q.1.widths.length ≤ 17592186044416) {C : Cx} (hb : Hb C C.w0 [] (fun w => RdF ocell 4 w A M ∧ ∀ q ∈ M, RdI w q.2.1 q.1.widths)) :
    Sp Tryd.prog 27 [.slice A M.length c] C (ι := {x : (Option Addr × Nat) × List (OpS × Option Addr × Nat) // x.2.map (·.1) = M.map (·.1)}) (fun x => .slice x.1.1.1 x.1.2.length x.1.1.2) (fun _ => []) (fun x w => RdF ocell 4 w x.1.1.1 x.1.2 ∧ ∀ q ∈ x.1.2, RdI w q.2.1 q.1.widths) := by
  refine Sp.enter (N := 26) (e := entryEnv [.slice A M.length c] 0 6) Tryd.func27 rfl rfl (Nat.le_of_ble_eq_true rfl) (entry_ok (Nat.le_of_ble_eq_true rfl) (Nat.le_of_ble_eq_true rfl)) (entry_nd _ _) hb ?_
  show W _ _ _ _ _ [(0, .slice A M.length c), (1, undef), (2, undef), (3, undef), (4, undef), (5, undef)] _ _
  refine W.seq ?_
  refine W.region ?_
  refine WL.as .c U2 rfl ?_
  refine WL.nil ?_
  refine QS.next ?_
  refine W.seq ?_
  refine W.region ?_
  refine WL.as .c U3 rfl ?_
  refine WL.nil ?_
  refine QS.next ?_
  refine W.seq ?_
  refine W.seq ?_
  refine W.region ?_
  refine WL.as .c U4 rfl ?_
  refine WL.nil ?_
  refine QS.next ?_
  refine W.block ?_
  refine W.nilrow 95 4 ?_
  refine W.loop (ι := {p : (Nat × List (OpS × Option Addr × Nat)) × Option Addr × Nat // p.1.1 ≤ M.length ∧ p.1.2.map (·.1) = (M.map (·.1)).take p.1.1 ∧ p.1.2.length = p.1.1}) (fun x => [(0, .slice A M.length c), (2, .slice none 0 0), (3, .slice x.1.2.1 x.1.1.2.length x.1.2.2), (4, .int .i64 (x.1.1.1 : Nat))]) (fun x => [.row (.slice x.1.2.1 x.1.1.2.length x.1.2.2) 95 4 x.1.1.2.length (flat ocell x.1.1.2)]) (fun x w => RdF ocell 4 w A M ∧ (∀ q ∈ M, RdI w q.2.1 q.1.widths) ∧ (∀ q ∈ x.1.1.2, RdI w q.2.1 q.1.widths)) (fun x => M.length - x.1.1.1) ⟨((0, []), none, 0), Nat.zero_le _, rfl, rfl⟩ (.kp rfl (.dr (.kp rfl (.kp rfl (.kp rfl (.dr .nil)))))) (.kp rfl .nil) (fun w h hd => ⟨h.1, h.2, (fun q hq => absurd hq (by simp))⟩) ?_
  intro x
  obtain ⟨⟨⟨j, N⟩, Al, cl⟩, hi1, hi2, hi3⟩ := x
  dsimp only at hi1 hi2 hi3
  show W _ _ _ _ _ [(0, .slice A M.length c), (2, .slice none 0 0), (3, .slice Al N.length cl), (4, .int .i64 (j : Nat))] [.row (.slice Al N.length cl) 95 4 N.length (flat ocell N)] (fun w => RdF ocell 4 w A M ∧ (∀ q ∈ M, RdI w q.2.1 q.1.widths) ∧ (∀ q ∈ N, RdI w q.2.1 q.1.widths))
  refine W.seq ?_
  refine W.seq ?_
  refine W.region ?_
  refine WL.st (R.mv (.t L3)) rfl ?_
  refine WL.st (R.mv (.t L1)) rfl ?_
  refine WL.st (R.lenl sl_47 (.t L0)) rfl ?_
  refine WL.st (R.lss (.t L2) (.t L0)) rfl ?_
  refine WL.nil ?_
  refine QS.next ?_
  refine W.del (.kp (.dr (.dr (.dr .rf)))) ?_
  refine W.cd (.t L0) (fun h0 => ?_) (fun h0 => ?_)
  ·
    refine W.del (.dr .rf) ?_
    refine W.skip ?_
    refine QS.next ?_
    refine W.seq ?_
    refine W.block ?_
    refine W.seq ?_
    refine W.region ?_
    refine WL.st (R.mv (.t L0)) rfl ?_
    refine WL.st (R.mv (.t L4)) rfl ?_
    obtain ⟨x14, hx14⟩ : ∃ x, (M)[j]? = some x := ⟨_, List.getElem?_eq_getElem (by omega)⟩
    have hw14 := hW x14 (List.mem_of_getElem? hx14)
    refine WL.st (R.ixF sl_47 (.t L1) rfl (.t L0) (l := M) (j := j) rfl (List.getElem?_eq_some_iff.1 hx14).1 (by decide) (fun w hb => hb.get.1)) rfl ?_
    refine WL.st (R.ldpF ag_95 (.t L0) (j := j) (k := 0) (fun w hb => hb.get.1) hx14 (by repeat constructor) (by decide)) rfl ?_
    refine WL.alloc z_95 rfl (fun g5 => ?_)
    refine WL.sto sz_95 (.t L0) (.t L1) rfl rfl rfl C0 (by repeat constructor) ?_
    refine WL.nil ?_
    refine QS.next ?_
    refine W.del (.kp (.dr (.dr (.dr (.dr .rf))))) ?_
    refine W.seq ?_
    refine W.region ?_
    refine WL.bs0 sl_37 rfl (fun g16 => ?_)
    refine WL.st (R.fa fo_95_3 (.t L1)) rfl ?_
    refine WL.st (R.ld sc_37 (.t L0) H1 rfl) rfl ?_
    refine WL.app' ap_37 (.t L2) (.t L0) (fun _ _ => C0) (fun w hb => hb.get.2.1 x14 (List.mem_of_getElem? hx14)) (icells_one _) (by unfold maxLen; omega) (by omega) rfl (fun A19 c19 => ?_)
    refine WL.weak (J := fun w => RdF ocell 4 w A M ∧ (∀ q ∈ M, RdI w q.2.1 q.1.widths) ∧ (∀ q ∈ N, RdI w q.2.1 q.1.widths) ∧ RdI w A19 x14.1.widths) (.dr (.kp rfl (.kp rfl .nil))) (fun w h hd => ⟨h.1, h.2.1, h.2.2, rowI hd.1 (by simp) (by simp)⟩) ?_
    refine WL.st (R.fa fo_95_3 (.t L4)) rfl ?_
    refine WL.sto sz_37 (.t L0) (.t L1) rfl rfl rfl C0 (by repeat constructor) ?_
    refine WL.nil ?_
    refine QS.next ?_
    refine W.del (.dr (.dr (.dr (.dr (.dr .rf))))) ?_
    refine W.region ?_
    refine WL.st (R.mv (.t L3)) rfl ?_
    refine WL.st (R.lda ag_95 (.t L1) H0 (by repeat constructor)) rfl ?_
    refine WL.bs1 sl_47 z_95 rfl (by decide) (by decide) (.t L0) rfl rfl rfl (fun g23 => ?_)
    refine WL.app' ap_47 (.t L2) (.t L0) (fun _ _ => C2) (fun w hb => Rd.of_blk (hb.has H0) rfl) rfl (by unfold maxLen; omega) (by omega) rfl (fun A24 c24 => ?_)
    refine WL.as (.t L0) U7 rfl ?_
    refine WL.nil ?_
    refine QS.blkn ?_
    refine QS.next ?_
    refine W.del (.dr (.dr (.dr (.dr .rf)))) ?_
    refine W.region ?_
    refine WL.st (R.mv (.t L4)) rfl ?_
    refine WL.st (R.add (.t L0) .c (wi (by omega) (by omega))) rfl ?_
    refine WL.as (.t L0) U6 rfl ?_
    refine WL.nil ?_
    exact QS.at ⟨((j + 1, N ++ [(x14.1, A19, c19)]), A24, c24), by dsimp only; omega, by rw [List.map_append, hi2, take_push (map_get hx14)]; rfl, by simp [hi3]⟩ (show M.length - (j + 1) < M.length - j by omega) (.dr (.dr (.dr (.kp rfl (.kp rfl (.kp (by simp) (.kp rfl .nil))))))) (.dr (.dr (.kp (chunk_row (by simp) (by rw [← flat_snoc]; simp)) .nil))) (fun w h hd => ⟨h.1, h.2.1, (fun q hq => by rcases List.mem_append.1 hq with hq | hq; exact h.2.2.1 q hq; rw [List.mem_singleton.1 hq]; exact h.2.2.2)⟩)
  ·
    refine W.del (.dr .rf) ?_
    refine W.exit ?_
    refine QS.thenx ?_
    refine QS.thenx ?_
    refine QS.blkx ?_
    refine QS.next ?_
    refine W.seq ?_
    refine W.region ?_
    refine WL.st (R.mv (.t L2)) rfl ?_
    refine WL.as (.t L0) U2 rfl ?_
    refine WL.nil ?_
    refine QS.next ?_
    refine W.del (.dr .rf) ?_
    refine W.ret ?_
    exact QS.fin (.inl rfl) rfl (.tmp L1 .nil) ⟨((Al, cl), N), by rw [hi2, List.take_of_length_le (by simp; omega)]⟩ (by simp [resVal]) (.dr .nil) (fun w h hd => ⟨rowF ocell_length (by decide) hd.1 rfl rfl, h.2.2⟩)

theorem code_name {kd : Int} (hk : 0 ≤ kd ∧ kd < 16) {C : Cx} (hb : Hb C C.w0 [] (fun _ => True)) :
    Ret Tryd.prog 80 [.int .i64 kd] C (str (nameS kd)) := by
  obtain ⟨k, hkn⟩ : ∃ k : Nat, kd = (k : Int) := ⟨kd.toNat, by omega⟩
  refine Sp.enter (N := 8) (e := entryEnv [.int .i64 kd] 0 4) Tryd.func80 rfl rfl (Nat.le_of_ble_eq_true rfl) (entry_ok (Nat.le_of_ble_eq_true rfl) (Nat.le_of_ble_eq_true rfl)) (entry_nd _ _) hb ?_
  show W _ _ _ _ _ [(0, .int .i64 kd), (1, undef), (2, undef), (3, undef)] _ _
  refine W.seq ?_
  refine W.region ?_
  refine WL.as .c U2 rfl ?_
  refine WL.nil ?_
  refine QS.next ?_
  refine W.seq ?_
  refine W.region ?_
  refine WL.st (R.blda ar_164 z_164 (pv := [(0, str []), (1, str [116, 101, 120, 116]), (2, str [115, 116, 121, 108, 101]), (3, str [108, 105, 110, 107]), (4, str [110, 111, 116, 101]), (5, str [99, 108, 111, 115, 101]), (6, str [116, 97, 98]), (7, str [98, 114, 101, 97, 107]), (8, str [112, 97, 114, 97]), (9, str [100, 111, 110, 101]), (10, str [108, 105, 115, 116]), (11, str [105, 116, 101, 109]), (12, str [116, 97, 98, 108, 101]), (13, str [114, 111, 119]), (14, str [101, 110, 100]), (15, str [104, 97, 108, 116])]) (fun a => by simp [Act.eval]) (l := scells namesL) (by kernel_rfl)) rfl ?_
  refine WL.allocu z_164 (fun _ => U4) rfl (fun g3 => ?_)
  refine WL.sto sz_164 (.t L4) (.t L0) rfl rfl rfl C0 (LPut.whole (l' := scells namesL) rfl) ?_
  refine WL.nil ?_
  refine QS.next ?_
  refine W.del (.dr .rf) ?_
  refine W.seq ?_
  refine W.region ?_
  refine WL.st (R.mv (.t L0)) rfl ?_
  refine WL.st (R.ixr ar_164 (.t L4) (.t L0) (j := k) hkn (by omega) (r := k) (by omega)) rfl ?_
  refine WL.st (R.ld sc_9 (.t L0) H0 (show (scells namesL)[k]? = some (str (nameS kd)) by rw [hkn]; exact scells_get (name_get (by omega)))) rfl ?_
  refine WL.as (.t L0) U5 rfl ?_
  refine WL.nil ?_
  refine QS.next ?_
  refine W.del (.dr (.dr (.dr .rf))) ?_
  refine W.ret ?_
  exact QS.fin (.inl rfl) rfl (.tmp L2 .nil) () rfl (.dr .nil) (fun _ _ _ => trivial)

theorem code_numbered {kd : Int} {C : Cx} (hb : Hb C C.w0 [] (fun _ => True)) :
    Ret Tryd.prog 81 [.int .i64 kd] C (.bool (numbS kd)) := by
  refine Sp.enter (N := 11) (e := entryEnv [.int .i64 kd] 0 3) Tryd.func81 rfl rfl (Nat.le_of_ble_eq_true rfl) (entry_ok (Nat.le_of_ble_eq_true rfl) (Nat.le_of_ble_eq_true rfl)) (entry_nd _ _) hb ?_
  show W _ _ _ _ _ [(0, .int .i64 kd), (1, undef), (2, undef)] _ _
  refine W.seq ?_
  refine W.region ?_
  refine WL.as .c U2 rfl ?_
  refine WL.nil ?_
  refine QS.next ?_
  refine W.seq ?_
  refine W.seq ?_
  refine W.region ?_
  refine WL.st (R.mv (.t L0)) rfl ?_
  refine WL.nil ?_
  refine QS.next ?_
  refine W.block ?_
  refine W.seq ?_
  refine W.seq ?_
  refine W.region ?_
  refine WL.st (R.eqi (.t L0) .c) rfl ?_
  refine WL.st (R.as (.t L0)) rfl ?_
  refine WL.nil ?_
  refine QS.next ?_
  refine W.del (.kp (.dr .rf)) ?_
  refine W.cd (.t L0) (fun h0 => ?_) (fun h0 => ?_)
  ·
    refine W.del (.kp (.dr .rf)) ?_
    refine W.skip ?_
    refine QS.next ?_
    refine W.cdt (.t L0) h0 ?_
    refine W.del (.dr .rf) ?_
    refine W.seq ?_
    refine W.region ?_
    refine WL.as .c U2 rfl ?_
    refine WL.nil ?_
    refine QS.next ?_
    refine W.ret ?_
    refine QS.blkr ?_
    refine QS.thenr ?_
    exact QS.fin (.inl rfl) rfl (.tmp L2 .nil) () (congrArg Value.bool (decide_eq_true (by omega)).symm) .nil (fun _ _ _ => trivial)
  ·
    refine W.seq ?_
    refine W.region ?_
    refine WL.st (R.eqi (.t L1) .c) rfl ?_
    refine WL.as (.t L0) U1 rfl ?_
    refine WL.nil ?_
    refine QS.next ?_
    refine W.del (.dr .rf) ?_
    refine W.cd (.t L0) (fun h1 => ?_) (fun h1 => ?_)
    ·
      refine W.del (.kp (.dr .rf)) ?_
      refine W.skip ?_
      refine QS.next ?_
      refine W.cdt (.t L0) h1 ?_
      refine W.del (.dr .rf) ?_
      refine W.seq ?_
      refine W.region ?_
      refine WL.as .c U2 rfl ?_
      refine WL.nil ?_
      refine QS.next ?_
      refine W.ret ?_
      refine QS.blkr ?_
      refine QS.thenr ?_
      exact QS.fin (.inl rfl) rfl (.tmp L2 .nil) () (congrArg Value.bool (decide_eq_true (by omega)).symm) .nil (fun _ _ _ => trivial)
    ·
      refine W.seq ?_
      refine W.region ?_
      refine WL.st (R.eqi (.t L1) .c) rfl ?_
      refine WL.as (.t L0) U1 rfl ?_
      refine WL.nil ?_
      refine QS.next ?_
      refine W.del (.dr .rf) ?_
      refine W.cd (.t L0) (fun h2 => ?_) (fun h2 => ?_)
      ·
        refine W.del (.kp (.dr .rf)) ?_
        refine W.skip ?_
        refine QS.next ?_
        refine W.cdt (.t L0) h2 ?_
        refine W.del (.dr .rf) ?_
        refine W.seq ?_
        refine W.region ?_
        refine WL.as .c U2 rfl ?_
        refine WL.nil ?_
        refine QS.next ?_
        refine W.ret ?_
        refine QS.blkr ?_
        refine QS.thenr ?_
        exact QS.fin (.inl rfl) rfl (.tmp L2 .nil) () (congrArg Value.bool (decide_eq_true (by omega)).symm) .nil (fun _ _ _ => trivial)
      ·
        refine W.seq ?_
        refine W.region ?_
        refine WL.st (R.eqi (.t L1) .c) rfl ?_
        refine WL.as (.t L0) U1 rfl ?_
        refine WL.nil ?_
        refine QS.next ?_
        refine W.del (.dr .rf) ?_
        refine W.cd (.t L0) (fun h3 => ?_) (fun h3 => ?_)
        ·
          refine W.del (.kp (.dr .rf)) ?_
          refine W.skip ?_
          refine QS.next ?_
          refine W.cdt (.t L0) h3 ?_
          refine W.del (.dr .rf) ?_
          refine W.seq ?_
          refine W.region ?_
          refine WL.as .c U2 rfl ?_
          refine WL.nil ?_
          refine QS.next ?_
          refine W.ret ?_
          refine QS.blkr ?_
          refine QS.thenr ?_
          exact QS.fin (.inl rfl) rfl (.tmp L2 .nil) () (congrArg Value.bool (decide_eq_true (by omega)).symm) .nil (fun _ _ _ => trivial)
        ·
          refine W.seq ?_
          refine W.region ?_
          refine WL.st (R.eqi (.t L1) .c) rfl ?_
          refine WL.as (.t L0) U1 rfl ?_
          refine WL.nil ?_
          refine QS.next ?_
          refine W.del (.dr .rf) ?_
          refine W.cd (.t L0) (fun h4 => ?_) (fun h4 => ?_)
          ·
            refine W.del (.kp (.dr .rf)) ?_
            refine W.skip ?_
            refine QS.next ?_
            refine W.cdt (.t L0) h4 ?_
            refine W.del (.dr .rf) ?_
            refine W.seq ?_
            refine W.region ?_
            refine WL.as .c U2 rfl ?_
            refine WL.nil ?_
            refine QS.next ?_
            refine W.ret ?_
            refine QS.blkr ?_
            refine QS.thenr ?_
            exact QS.fin (.inl rfl) rfl (.tmp L2 .nil) () (congrArg Value.bool (decide_eq_true (by omega)).symm) .nil (fun _ _ _ => trivial)
          ·
            refine W.region ?_
            refine WL.st (R.eqi (.t L1) .c) rfl ?_
            refine WL.as (.t L0) U1 rfl ?_
            refine WL.nil ?_
            refine QS.next ?_
            refine W.del (.dr (.kp (.dr .rf))) ?_
            refine W.cd (.t L0) (fun h5 => ?_) (fun h5 => ?_)
            ·
              refine W.del (.dr .rf) ?_
              refine W.seq ?_
              refine W.region ?_
              refine WL.as .c U2 rfl ?_
              refine WL.nil ?_
              refine QS.next ?_
              refine W.ret ?_
              refine QS.blkr ?_
              refine QS.thenr ?_
              exact QS.fin (.inl rfl) rfl (.tmp L2 .nil) () (congrArg Value.bool (decide_eq_true (by omega)).symm) .nil (fun _ _ _ => trivial)
            ·
              refine W.del (.dr .rf) ?_
              refine W.skip ?_
              refine QS.blkn ?_
              refine QS.next ?_
              refine W.seq ?_
              refine W.region ?_
              refine WL.as .c U2 rfl ?_
              refine WL.nil ?_
              refine QS.next ?_
              refine W.ret ?_
              exact QS.fin (.inl rfl) rfl (.tmp L2 .nil) () (congrArg Value.bool (decide_eq_false (by omega)).symm) .nil (fun _ _ _ => trivial)

theorem below_growN {w : World} (k : Nat) (os : Array Obj) : Below w.heap.size w (Go.Sort.grow (w.drewN k) os) :=
  ⟨rfl, rfl, rfl, by show w.heap.size ≤ (w.heap ++ os).size; rw [Array.size_append]; omega, fun j hj => Go.Sort.heap_grow_old (w.drewN k) os hj⟩
theorem strc_Itoa {n : Int} (h0 : -9223372036854775808 ≤ n) (h1 : n ≤ 9223372036854775807) {C : Cx} (hb : Hb C C.w0 [] (fun w => Lib.TabIs Tryd.prog w "internal/strconv.uint64pow10" .u64 Lib.pow10Tab)) : Ret Tryd.prog 79 [.int .i64 n] C (str (Lib.itoa n)) :=
  Ret.of_calls hb ((Tryd.strconv_Itoa n h0 h1 _ hb.get).mono fun e w' h => by
    obtain ⟨h1, k, os, rfl⟩ := h
    exact ⟨h1, below_growN k os⟩)

theorem words_len : ∀ (l : List Int), (∀ x ∈ l, 0 ≤ x ∧ x ≤ 255) → (wordsS l).length ≤ 22 * l.length
  | [], _ => Nat.le_refl _
  | x :: r, h => by
    have h1 := words_len r (fun y hy => h y (List.mem_cons_of_mem _ hy))
    have h2 := h x (List.mem_cons_self ..)
    have h3 := Lib.itoa_length_le x (by omega) (by omega)
    have : wordsS (x :: r) = (32 :: Lib.itoa x) ++ wordsS r := rfl
    rw [this, List.length_append, List.length_cons, List.length_cons]
    omega

theorem code_line {A : Option Addr} {l : List Int} {c1 : Nat} {a1 a2 a3 a4 : Int} (hi : InstrL (⟨a1, a2, a3, a4, l⟩ : InstrS)) {C : Cx} (hb : Hb C C.w0 [] (fun w => RdI w A l ∧ Lib.TabIs Tryd.prog w "internal/strconv.uint64pow10" .u64 Lib.pow10Tab)) :
    Ret Tryd.prog 62 [.agg #[.int .i64 a1, .int .i64 a2, .int .i64 a3, .int .i64 a4, .slice A l.length c1]] C (str (lineS (⟨a1, a2, a3, a4, l⟩ : InstrS))) := by
  have hi1 : 0 ≤ a1 ∧ a1 ≤ 1048576 := hi.at_
  have hi2 : 1 ≤ a3 ∧ a3 ≤ 15 := hi.kind
  have hi3 : -1 ≤ a4 ∧ a4 ≤ 2147483648 := hi.n
  have hi4 : l.length ≤ 16 := hi.wl
  have hi5 : ∀ x ∈ l, 0 ≤ x ∧ x ≤ 255 := hi.w
  have hnl := name_len a3
  have hna1 := Lib.itoa_length_le a1 (by omega) (by omega)
  have hna4 := Lib.itoa_length_le a4 (by omega) (by omega)
  refine Sp.enter (N := 37) (e := entryEnv [.agg #[.int .i64 a1, .int .i64 a2, .int .i64 a3, .int .i64 a4, .slice A l.length c1]] 0 6) Tryd.func62 rfl rfl (Nat.le_of_ble_eq_true rfl) (entry_ok (Nat.le_of_ble_eq_true rfl) (Nat.le_of_ble_eq_true rfl)) (entry_nd _ _) hb ?_
  show W _ _ _ _ _ [(0, .agg #[.int .i64 a1, .int .i64 a2, .int .i64 a3, .int .i64 a4, .slice A l.length c1]), (1, undef), (2, undef), (3, undef), (4, undef), (5, undef)] _ _
  refine W.seq ?_
  refine W.region ?_
  refine WL.boxu (.t L0) rfl (fun _ => U1) rfl (fun g1 => ?_)
  refine WL.as .c U2 rfl ?_
  refine WL.nil ?_
  refine QS.next ?_
  refine W.seq ?_
  refine W.draw 9 mixed (by kernel_rfl) ?_
  refine HD.st (R.fa fo_59_0 (.t L1)) rfl ?_
  refine HD.st (R.ld sc_3 (.t L0) H0 rfl) rfl ?_
  refine HD.callr gf_79 .f (.cons (.t L0) .nil) (fun w hb => (strc_Itoa (by omega) (by omega) (hb.imp fun _ h => h.2))) rfl ?_
  have hlI8 := Lib.itoa_length_le (a1) (by omega) (by omega)
  refine HD.st (R.cat (.t L0) .c (by simp; omega)) rfl ?_
  refine HD.st (R.fa fo_59_2 (.t L5)) rfl ?_
  refine HD.st (R.ld sc_57 (.t L0) H0 rfl) rfl ?_
  refine HD.callr gf_80 .f (.cons (.t L0) .nil) (fun w hb => (code_name (by omega) (hb.imp fun _ _ => trivial))) rfl ?_
  refine HD.st (R.cat (.t L3) (.t L0) (by simp; omega)) rfl ?_
  refine HD.up (R.as (.t L0)) U11 rfl ?_
  refine HD.nil ?_
  refine WL.nil ?_
  refine QS.next ?_
  refine W.del (.dr (.dr (.dr (.dr (.dr (.dr (.dr (.dr .rf)))))))) ?_
  refine W.seq ?_
  refine W.seq ?_
  refine W.region ?_
  refine WL.st (R.fa fo_59_2 (.t L1)) rfl ?_
  refine WL.st (R.ld sc_57 (.t L0) H0 rfl) rfl ?_
  refine WL.callr gf_81 .f (.cons (.t L0) .nil) (fun w hb => (code_numbered (hb.imp fun _ _ => trivial))) rfl ?_
  refine WL.nil ?_
  refine QS.next ?_
  refine W.del (.kp (.dr (.dr .rf))) ?_
  refine W.cb (.t L0) (fun h0 => ?_) (fun h0 => ?_)
  ·
    refine W.del (.dr .rf) ?_
    refine W.region ?_
    refine WL.st (R.mv (.t L3)) rfl ?_
    refine WL.st (R.fa fo_59_3 (.t L2)) rfl ?_
    refine WL.st (R.ld sc_3 (.t L0) H0 rfl) rfl ?_
    refine WL.callr gf_79 .f (.cons (.t L0) .nil) (fun w hb => (strc_Itoa (by omega) (by omega) (hb.imp fun _ h => h.2))) rfl ?_
    have hlI20 := Lib.itoa_length_le (a4) (by omega) (by omega)
    refine WL.st (R.cat .c (.t L0) (by simp; omega)) rfl ?_
    refine WL.st (R.cat (.t L4) (.t L0) (by simp; omega)) rfl ?_
    refine WL.as (.t L0) U9 rfl ?_
    refine WL.nil ?_
    refine QS.next ?_
    refine W.del (.dr (.dr (.dr (.dr (.dr (.dr .rf)))))) ?_
    refine W.seq ?_
    refine W.seq ?_
    refine W.region ?_
    refine WL.st (R.fa fo_59_4 (.t L1)) rfl ?_
    refine WL.st (R.ld sc_37 (.t L0) H0 rfl) rfl ?_
    refine WL.st (R.lenl sl_37 (.t L0)) rfl ?_
    refine WL.st (R.mv .c) rfl ?_
    refine WL.nil ?_
    refine QS.next ?_
    refine W.del (.kp (.kp (.kp (.dr .rf)))) ?_
    refine W.block ?_
    refine W.loop (ι := {j : Nat // j ≤ l.length}) (fun x => [(26, .int .i64 x.1), (25, .int .i64 l.length), (24, .slice A l.length c1), (1, .pointer (some ⟨g1, 0, none⟩)), (2, str []), (3, str (headS (⟨a1, a2, a3, a4, l⟩ : InstrS) ++ wordsS (l.take x.1)))]) (fun x => [blk g1 59 [.int .i64 a1, .int .i64 a2, .int .i64 a3, .int .i64 a4, .slice A l.length c1]]) (fun x w => RdI w A l ∧ Lib.TabIs Tryd.prog w "internal/strconv.uint64pow10" .u64 Lib.pow10Tab) (fun x => l.length - x.1) ⟨0, Nat.zero_le _⟩ (.kp rfl (.kp rfl (.kp rfl (.dr (.kp rfl (.kp rfl (.kp (by first | (rw [head_1 (i := (⟨a1, a2, a3, a4, l⟩ : InstrS)) h0]; simp [wordsS]) | (rw [head_0 (i := (⟨a1, a2, a3, a4, l⟩ : InstrS)) h0]; simp [wordsS])) (.dr (.dr .nil))))))))) (.kp rfl .nil) (fun w h hd => ⟨h.1, h.2⟩) ?_
    intro x
    obtain ⟨j, hj⟩ := x
    show W _ _ _ _ _ [(26, .int .i64 j), (25, .int .i64 l.length), (24, .slice A l.length c1), (1, .pointer (some ⟨g1, 0, none⟩)), (2, str []), (3, str (headS (⟨a1, a2, a3, a4, l⟩ : InstrS) ++ wordsS (l.take j)))] [blk g1 59 [.int .i64 a1, .int .i64 a2, .int .i64 a3, .int .i64 a4, .slice A l.length c1]] (fun w => RdI w A l ∧ Lib.TabIs Tryd.prog w "internal/strconv.uint64pow10" .u64 Lib.pow10Tab)
    refine W.seq ?_
    refine W.region ?_
    refine WL.st (R.lss (.t L0) (.t L1)) rfl ?_
    refine WL.nil ?_
    refine QS.next ?_
    refine W.seq ?_
    refine W.cd (.t L0) (fun h1 => ?_) (fun h1 => ?_)
    ·
      refine W.del (.dr .rf) ?_
      refine W.skip ?_
      refine QS.next ?_
      refine W.seq ?_
      refine W.block ?_
      refine W.seq ?_
      refine W.region ?_
      obtain ⟨x28, hx28⟩ : ∃ x, (l)[j]? = some x := ⟨_, List.getElem?_eq_getElem (by omega)⟩
      have hwx := hi5 x28 (List.mem_of_getElem? hx28)
      have hwl := words_len (l.take j) (fun x hx => hi5 x (List.mem_of_mem_take hx))
      rw [List.length_take] at hwl
      have hhl : (headS (⟨a1, a2, a3, a4, l⟩ : InstrS)).length ≤ 60 := by unfold headS; split <;> simp <;> omega
      refine WL.st (R.ixI sl_37 (.t L2) rfl (.t L0) (l := l) (j := j) rfl (List.getElem?_eq_some_iff.1 hx28).1 (fun w hb => hb.get.1)) rfl ?_
      refine WL.st (R.ldp sc_3 (.t L0) (fun w hb => RdI.cell (hb.get.1) hx28)) rfl ?_
      refine WL.st (R.as (.t L0)) rfl ?_
      refine WL.nil ?_
      refine QS.next ?_
      refine W.del (.kp (.dr (.dr .rf))) ?_
      refine W.region ?_
      refine WL.st (R.mv (.t L6)) rfl ?_
      refine WL.st (R.mv (.t L1)) rfl ?_
      refine WL.callr gf_79 .f (.cons (.t L0) .nil) (fun w hb => (strc_Itoa (by omega) (by omega) (hb.imp fun _ h => h.2))) rfl ?_
      have hlI32 := Lib.itoa_length_le (x28) (by omega) (by omega)
      refine WL.st (R.cat .c (.t L0) (by simp; omega)) rfl ?_
      refine WL.st (R.cat (.t L3) (.t L0) (by simp; omega)) rfl ?_
      refine WL.as (.t L0) U11 rfl ?_
      refine WL.nil ?_
      refine QS.blkn ?_
      refine QS.next ?_
      refine W.del (.dr (.dr (.dr (.dr (.dr .rf))))) ?_
      refine W.region ?_
      refine WL.st (R.add (.t L1) .c (wi (by omega) (by omega))) rfl ?_
      refine WL.up (R.mv (.t L0)) U2 rfl ?_
      refine WL.nil ?_
      exact QS.at ⟨j + 1, by omega⟩ (by dsimp only; omega) (.dr (.dr (.kp rfl (.kp rfl (.kp rfl (.kp rfl (.kp rfl (.kp (congrArg str (by dsimp only; rw [words_snoc hx28]; simp)) .nil)))))))) (.kp rfl .nil) (fun w h hd => ⟨h.1, h.2⟩)
    ·
      refine W.del (.dr .rf) ?_
      refine W.exit ?_
      refine QS.thenx ?_
      refine QS.thenx ?_
      refine QS.blkx ?_
      refine QS.next ?_
      refine W.del (.dr (.dr (.dr .rf))) ?_
      refine W.seq ?_
      refine W.region ?_
      refine WL.st (R.mv (.t L2)) rfl ?_
      refine WL.as (.t L0) U2 rfl ?_
      refine WL.nil ?_
      refine QS.next ?_
      refine W.del (.dr .rf) ?_
      refine W.ret ?_
      exact QS.fin (.inl rfl) rfl (.tmp L1 .nil) () (congrArg str (by rw [words_all (by omega)]; rfl)) (.dr .nil) (fun _ _ _ => trivial)
  ·
    refine W.del (.dr .rf) ?_
    refine W.skip ?_
    refine QS.next ?_
    refine W.seq ?_
    refine W.seq ?_
    refine W.region ?_
    refine WL.st (R.fa fo_59_4 (.t L1)) rfl ?_
    refine WL.st (R.ld sc_37 (.t L0) H0 rfl) rfl ?_
    refine WL.st (R.lenl sl_37 (.t L0)) rfl ?_
    refine WL.st (R.mv .c) rfl ?_
    refine WL.nil ?_
    refine QS.next ?_
    refine W.del (.kp (.kp (.kp (.dr .rf)))) ?_
    refine W.block ?_
    refine W.loop (ι := {j : Nat // j ≤ l.length}) (fun x => [(26, .int .i64 x.1), (25, .int .i64 l.length), (24, .slice A l.length c1), (1, .pointer (some ⟨g1, 0, none⟩)), (2, str []), (3, str (headS (⟨a1, a2, a3, a4, l⟩ : InstrS) ++ wordsS (l.take x.1)))]) (fun x => [blk g1 59 [.int .i64 a1, .int .i64 a2, .int .i64 a3, .int .i64 a4, .slice A l.length c1]]) (fun x w => RdI w A l ∧ Lib.TabIs Tryd.prog w "internal/strconv.uint64pow10" .u64 Lib.pow10Tab) (fun x => l.length - x.1) ⟨0, Nat.zero_le _⟩ (.kp rfl (.kp rfl (.kp rfl (.dr (.kp rfl (.kp rfl (.kp (by first | (rw [head_1 (i := (⟨a1, a2, a3, a4, l⟩ : InstrS)) h0]; simp [wordsS]) | (rw [head_0 (i := (⟨a1, a2, a3, a4, l⟩ : InstrS)) h0]; simp [wordsS])) (.dr (.dr .nil))))))))) (.kp rfl .nil) (fun w h hd => ⟨h.1, h.2⟩) ?_
    intro x
    obtain ⟨j, hj⟩ := x
    show W _ _ _ _ _ [(26, .int .i64 j), (25, .int .i64 l.length), (24, .slice A l.length c1), (1, .pointer (some ⟨g1, 0, none⟩)), (2, str []), (3, str (headS (⟨a1, a2, a3, a4, l⟩ : InstrS) ++ wordsS (l.take j)))] [blk g1 59 [.int .i64 a1, .int .i64 a2, .int .i64 a3, .int .i64 a4, .slice A l.length c1]] (fun w => RdI w A l ∧ Lib.TabIs Tryd.prog w "internal/strconv.uint64pow10" .u64 Lib.pow10Tab)
    refine W.seq ?_
    refine W.region ?_
    refine WL.st (R.lss (.t L0) (.t L1)) rfl ?_
    refine WL.nil ?_
    refine QS.next ?_
    refine W.seq ?_
    refine W.cd (.t L0) (fun h1 => ?_) (fun h1 => ?_)
    ·
      refine W.del (.dr .rf) ?_
      refine W.skip ?_
      refine QS.next ?_
      refine W.seq ?_
      refine W.block ?_
      refine W.seq ?_
      refine W.region ?_
      obtain ⟨x28, hx28⟩ : ∃ x, (l)[j]? = some x := ⟨_, List.getElem?_eq_getElem (by omega)⟩
      have hwx := hi5 x28 (List.mem_of_getElem? hx28)
      have hwl := words_len (l.take j) (fun x hx => hi5 x (List.mem_of_mem_take hx))
      rw [List.length_take] at hwl
      have hhl : (headS (⟨a1, a2, a3, a4, l⟩ : InstrS)).length ≤ 60 := by unfold headS; split <;> simp <;> omega
      refine WL.st (R.ixI sl_37 (.t L2) rfl (.t L0) (l := l) (j := j) rfl (List.getElem?_eq_some_iff.1 hx28).1 (fun w hb => hb.get.1)) rfl ?_
      refine WL.st (R.ldp sc_3 (.t L0) (fun w hb => RdI.cell (hb.get.1) hx28)) rfl ?_
      refine WL.st (R.as (.t L0)) rfl ?_
      refine WL.nil ?_
      refine QS.next ?_
      refine W.del (.kp (.dr (.dr .rf))) ?_
      refine W.region ?_
      refine WL.st (R.mv (.t L6)) rfl ?_
      refine WL.st (R.mv (.t L1)) rfl ?_
      refine WL.callr gf_79 .f (.cons (.t L0) .nil) (fun w hb => (strc_Itoa (by omega) (by omega) (hb.imp fun _ h => h.2))) rfl ?_
      have hlI32 := Lib.itoa_length_le (x28) (by omega) (by omega)
      refine WL.st (R.cat .c (.t L0) (by simp; omega)) rfl ?_
      refine WL.st (R.cat (.t L3) (.t L0) (by simp; omega)) rfl ?_
      refine WL.as (.t L0) U11 rfl ?_
      refine WL.nil ?_
      refine QS.blkn ?_
      refine QS.next ?_
      refine W.del (.dr (.dr (.dr (.dr (.dr .rf))))) ?_
      refine W.region ?_
      refine WL.st (R.add (.t L1) .c (wi (by omega) (by omega))) rfl ?_
      refine WL.up (R.mv (.t L0)) U2 rfl ?_
      refine WL.nil ?_
      exact QS.at ⟨j + 1, by omega⟩ (by dsimp only; omega) (.dr (.dr (.kp rfl (.kp rfl (.kp rfl (.kp rfl (.kp rfl (.kp (congrArg str (by dsimp only; rw [words_snoc hx28]; simp)) .nil)))))))) (.kp rfl .nil) (fun w h hd => ⟨h.1, h.2⟩)
    ·
      refine W.del (.dr .rf) ?_
      refine W.exit ?_
      refine QS.thenx ?_
      refine QS.thenx ?_
      refine QS.blkx ?_
      refine QS.next ?_
      refine W.del (.dr (.dr (.dr .rf))) ?_
      refine W.seq ?_
      refine W.region ?_
      refine WL.st (R.mv (.t L2)) rfl ?_
      refine WL.as (.t L0) U2 rfl ?_
      refine WL.nil ?_
      refine QS.next ?_
      refine W.del (.dr .rf) ?_
      refine W.ret ?_
      exact QS.fin (.inl rfl) rfl (.tmp L1 .nil) () (congrArg str (by rw [words_all (by omega)]; rfl)) (.dr .nil) (fun _ _ _ => trivial)

theorem code_InstrsF {A : Option Addr} {b : List UInt8} {c : Nat} (hc : b.length ≤ c) (hl : b.length ≤ 140737488355328) {C : Cx} (hb : Hb C C.w0 [] (fun w => RdB w A b)) : Sp Tryd.prog 34 [.slice A b.length c] C (ι := {x : (Option Addr × Nat) × List (InstrS × Option Addr × Nat) // x.2.map (·.1) = (instrsS b).1}) (fun x => .tuple #[.slice x.1.1.1 x.1.2.length x.1.1.2, .int .i64 (instrsS b).2.1, .int .i64 (instrsS b).2.2]) (fun _ => []) (fun x w => RdF icell 5 w x.1.1.1 x.1.2 ∧ ∀ q ∈ x.1.2, RdI w q.2.1 q.1.widths) := by
  refine Sp.conv (code_Instrs hc hl hb) id (fun i => ?_) (fun _ => rfl) (fun i w h => ⟨⟨fun _ => rfl, h.1⟩, h.2⟩)
  obtain ⟨⟨⟨A1, c1⟩, M⟩, h⟩ := i
  have h1 := congrArg List.length h
  rw [List.length_map] at h1
  show Value.tuple #[.slice A1 (instrsS b).1.length c1, _, _] = Value.tuple #[.slice A1 M.length c1, _, _]
  rw [h1]

theorem ref16_InstrsF {A : Option Addr} {b : List UInt8} {c : Nat} (hc : b.length ≤ c) (hl : b.length ≤ 140737488355328) {C : Cx} (hb : Hb C C.w0 [] (fun w => RdB w A b)) : Sp Tryd.prog 35 [.slice A b.length c] C (ι := {x : (Option Addr × Nat) × List (InstrS × Option Addr × Nat) // x.2.map (·.1) = (instrsS b).1}) (fun x => .tuple #[.slice x.1.1.1 x.1.2.length x.1.1.2, .int .i64 (instrsS b).2.1, .int .i64 (instrsS b).2.2]) (fun _ => []) (fun x w => RdF icell 5 w x.1.1.1 x.1.2 ∧ ∀ q ∈ x.1.2, RdI w q.2.1 q.1.widths) := by
  refine Sp.conv (ref16_Instrs hc hl hb) id (fun i => ?_) (fun _ => rfl) (fun i w h => ⟨⟨fun _ => rfl, h.1⟩, h.2⟩)
  obtain ⟨⟨⟨A1, c1⟩, M⟩, h⟩ := i
  have h1 := congrArg List.length h
  rw [List.length_map] at h1
  show Value.tuple #[.slice A1 (instrsS b).1.length c1, _, _] = Value.tuple #[.slice A1 M.length c1, _, _]
  rw [h1]

def linesM (M : List (InstrS × Option Addr × Nat)) : List (List UInt8) := M.map fun q => lineS q.1

theorem code_List {A : Option Addr} {b : List UInt8} {c : Nat} (hc : b.length ≤ c) (hl : b.length ≤ 140737488355328) {C : Cx} (hb : Hb C C.w0 [] (fun w => RdB w A b ∧ Lib.TabIs Tryd.prog w "internal/strconv.uint64pow10" .u64 Lib.pow10Tab)) :
    Sp Tryd.prog 39 [.slice A b.length c] C (ι := Option Addr × Nat) (fun x => .tuple #[.slice x.1 (listS b).1.length x.2, .int .i64 (listS b).2.1, .int .i64 (listS b).2.2]) (fun _ => []) (fun x w => RdS w x.1 (listS b).1) := by
  refine Sp.enter (N := 34) (e := entryEnv [.slice A b.length c] 0 11) Tryd.func39 rfl rfl (Nat.le_of_ble_eq_true rfl) (entry_ok (Nat.le_of_ble_eq_true rfl) (Nat.le_of_ble_eq_true rfl)) (entry_nd _ _) hb ?_
  show W _ _ _ _ _ [(0, .slice A b.length c), (1, undef), (2, undef), (3, undef), (4, undef), (5, undef), (6, undef), (7, undef), (8, undef), (9, undef), (10, undef)] _ _
  refine W.seq ?_
  refine W.region ?_
  refine WL.as .c U2 rfl ?_
  refine WL.as .c U3 rfl ?_
  refine WL.as .c U4 rfl ?_
  refine WL.nil ?_
  refine QS.next ?_
  refine W.seq ?_
  refine W.region ?_
  refine WL.st (R.mv (.t L0)) rfl ?_
  refine WL.call gf_34 .f (.cons (.t L0) .nil) .nil (fun w hb => (code_InstrsF hc hl (hb.imp fun _ h => h.1))) rfl (fun x13 => ?_)
  obtain ⟨⟨⟨Al, cl⟩, M⟩, hM⟩ := x13
  have hg := instrs_good b
  have hMl : M.length = (instrsS b).1.length := by rw [← hM, List.length_map]
  replace hg := hg.2.1
  refine WL.st (R.mv (.t L0)) rfl ?_
  refine WL.st (R.ex (.t L0) .here) rfl ?_
  refine WL.st (R.ex (.t L1) (.skip .here)) rfl ?_
  refine WL.st (R.ex (.t L2) (.skip (.skip .here))) rfl ?_
  refine WL.as (.t L2) U11 rfl ?_
  refine WL.as (.t L1) U12 rfl ?_
  refine WL.as (.t L0) U13 rfl ?_
  refine WL.nil ?_
  refine QS.next ?_
  refine W.del (.dr (.dr (.dr (.dr (.dr (.dr .rf)))))) ?_
  refine W.seq ?_
  refine W.seq ?_
  refine W.region ?_
  refine WL.st (R.mv (.t L7)) rfl ?_
  refine WL.st (R.nei (.t L0) .c) rfl ?_
  refine WL.nil ?_
  refine QS.next ?_
  refine W.del (.kp (.dr .rf)) ?_
  refine W.cd (.t L0) (fun h0 => ?_) (fun h0 => ?_)
  ·
    refine W.del (.dr .rf) ?_
    refine W.seq ?_
    refine W.region ?_
    refine WL.st (R.mv (.t L6)) rfl ?_
    refine WL.st (R.mv (.t L8)) rfl ?_
    refine WL.as .c U4 rfl ?_
    refine WL.as (.t L1) U5 rfl ?_
    refine WL.as (.t L0) U6 rfl ?_
    refine WL.nil ?_
    refine QS.next ?_
    refine W.del (.dr (.dr .rf)) ?_
    refine W.ret ?_
    refine QS.thenr ?_
    have hr : listS b = ([], (instrsS b).2) := if_pos h0
    exact QS.fin (.inl rfl) rfl (.tmp L2 (.tmp L3 (.tmp L4 .nil))) (none, 0) (by rw [hr]; rfl) .nil (fun w _ _ => by rw [hr]; exact Rd.nil)
  ·
    refine W.del (.dr .rf) ?_
    refine W.skip ?_
    refine QS.next ?_
    refine W.seq ?_
    refine W.region ?_
    refine WL.as .c U8 rfl ?_
    refine WL.nil ?_
    refine QS.next ?_
    refine W.seq ?_
    refine W.seq ?_
    refine W.region ?_
    refine WL.st (R.mv (.t L5)) rfl ?_
    refine WL.st (R.lenl sl_65 (.t L0)) rfl ?_
    refine WL.st (R.mv .c) rfl ?_
    refine WL.nil ?_
    refine QS.next ?_
    refine W.block ?_
    refine W.nilrow 9 1 ?_
    refine W.loop (ι := {p : Nat × Option Addr × Nat // p.1 ≤ M.length}) (fun x => [(23, .int .i64 (x.1.1 : Nat)), (22, .int .i64 M.length), (21, .slice Al M.length cl), (2, .slice none 0 0), (3, .int .i64 0), (4, .int .i64 0), (8, .slice x.1.2.1 (linesM (M.take x.1.1)).length x.1.2.2)]) (fun x => [.row (.slice x.1.2.1 (linesM (M.take x.1.1)).length x.1.2.2) 9 1 (linesM (M.take x.1.1)).length (scells (linesM (M.take x.1.1)))]) (fun x w => RdB w A b ∧ Lib.TabIs Tryd.prog w "internal/strconv.uint64pow10" .u64 Lib.pow10Tab ∧ RdF icell 5 w Al M ∧ (∀ q ∈ M, RdI w q.2.1 q.1.widths)) (fun x => M.length - x.1.1) ⟨(0, none, 0), Nat.zero_le _⟩ (.kp rfl (.kp rfl (.kp rfl (.dr (.dr (.kp rfl (.kp rfl (.kp rfl (.dr (.dr (.dr (.kp rfl (.dr (.dr .nil)))))))))))))) (.kp rfl .nil) (fun w h hd => ⟨h.1.1, h.1.2, h.2.1, h.2.2⟩) ?_
    intro x
    obtain ⟨⟨j, A8, c8⟩, hj⟩ := x
    dsimp only at hj
    show W _ _ _ _ _ [(23, .int .i64 (j : Nat)), (22, .int .i64 M.length), (21, .slice Al M.length cl), (2, .slice none 0 0), (3, .int .i64 0), (4, .int .i64 0), (8, .slice A8 (linesM (M.take j)).length c8)] [.row (.slice A8 (linesM (M.take j)).length c8) 9 1 (linesM (M.take j)).length (scells (linesM (M.take j)))] (fun w => RdB w A b ∧ Lib.TabIs Tryd.prog w "internal/strconv.uint64pow10" .u64 Lib.pow10Tab ∧ RdF icell 5 w Al M ∧ (∀ q ∈ M, RdI w q.2.1 q.1.widths))
    refine W.seq ?_
    refine W.region ?_
    refine WL.st (R.lss (.t L0) (.t L1)) rfl ?_
    refine WL.nil ?_
    refine QS.next ?_
    refine W.seq ?_
    refine W.cd (.t L0) (fun h1 => ?_) (fun h1 => ?_)
    ·
      refine W.del (.dr .rf) ?_
      refine W.skip ?_
      refine QS.next ?_
      refine W.seq ?_
      refine W.block ?_
      refine W.seq ?_
      refine W.region ?_
      obtain ⟨x25, hx25⟩ : ∃ x, (M)[j]? = some x := ⟨_, List.getElem?_eq_getElem (by omega)⟩
      have hll : (linesM (M.take j)).length = j := by simp [linesM]; omega
      refine WL.st (R.ixF sl_65 (.t L2) rfl (.t L0) (l := M) (j := j) rfl (List.getElem?_eq_some_iff.1 hx25).1 (by decide) (fun w hb => hb.get.2.2.1)) rfl ?_
      refine WL.st (R.ldpF ag_59 (.t L0) (j := j) (k := 0) (fun w hb => hb.get.2.2.1) hx25 (by repeat constructor) (by decide)) rfl ?_
      refine WL.alloc z_59 rfl (fun g10 => ?_)
      refine WL.sto sz_59 (.t L0) (.t L1) rfl rfl rfl C0 (by repeat constructor) ?_
      refine WL.nil ?_
      refine QS.next ?_
      refine W.del (.kp (.dr (.dr .rf))) ?_
      refine W.region ?_
      refine WL.st (R.mv (.t L7)) rfl ?_
      refine WL.st (R.lda ag_59 (.t L1) H0 (by repeat constructor)) rfl ?_
      refine WL.callr gf_62 .f (.cons (.t L0) .nil) (fun w hb => (code_line (of_map hM hx25) (hb.imp fun _ h => ⟨h.2.2.2 x25 (List.mem_of_getElem? hx25), h.2.1⟩))) rfl ?_
      refine WL.bs1 sl_76 z_9 rfl (by decide) (by decide) (.t L0) rfl rfl rfl (fun g30 => ?_)
      refine WL.app' ap_76 (.t L3) (.t L0) (fun _ _ => C2) (fun w hb => Rd.of_blk (hb.has H0) rfl) rfl (by unfold maxLen; omega) (by omega) rfl (fun A31 c31 => ?_)
      refine WL.as (.t L0) U12 rfl ?_
      refine WL.nil ?_
      refine QS.blkn ?_
      refine QS.next ?_
      refine W.del (.dr (.dr (.dr (.dr (.dr .rf))))) ?_
      refine W.region ?_
      refine WL.st (R.add (.t L1) .c (wi (by omega) (by omega))) rfl ?_
      refine WL.up (R.mv (.t L0)) U2 rfl ?_
      refine WL.nil ?_
      exact QS.at ⟨(j + 1, A31, c31), by dsimp only; omega⟩ (show M.length - (j + 1) < M.length - j by omega) (.dr (.dr (.kp rfl (.kp rfl (.kp rfl (.kp rfl (.kp rfl (.kp rfl (.kp (by dsimp only; rw [take_push hx25]; simp [linesM]) .nil))))))))) (.dr (.dr (.kp (chunk_row (by dsimp only; rw [take_push hx25]; simp [linesM]) (by dsimp only; rw [take_push hx25]; simp [linesM, scells])) .nil))) (fun w h hd => ⟨h.1, h.2.1, h.2.2.1, h.2.2.2⟩)
    ·
      refine W.del (.dr .rf) ?_
      refine W.exit ?_
      refine QS.thenx ?_
      refine QS.thenx ?_
      refine QS.blkx ?_
      refine QS.next ?_
      refine W.del (.dr (.dr (.dr .rf))) ?_
      refine W.seq ?_
      refine W.region ?_
      refine WL.st (R.mv (.t L3)) rfl ?_
      refine WL.as (.t L0) U1 rfl ?_
      refine WL.as .c U2 rfl ?_
      refine WL.as .c U3 rfl ?_
      refine WL.nil ?_
      refine QS.next ?_
      refine W.del (.dr .rf) ?_
      refine W.ret ?_
      have hr : listS b = ((instrsS b).1.map lineS, 0, 0) := if_neg h0
      have hL : linesM (M.take j) = (listS b).1 := by rw [hr, List.take_of_length_le (by omega), ← hM]; simp [linesM]
      exact QS.fin (.inl rfl) rfl (.tmp L0 (.tmp L1 (.tmp L2 .nil))) (A8, c8) (by rw [hL, hr]; rfl) (.dr .nil) (fun w h hd => rowS hd.1 (by rw [hL]) (by rw [hL]))

end Go.Proofs.YtpaecijilnfkhaaDoor
