/- Contracts: check. -/
import Derived.Test.YtpaecijilnfkhaaDoorA3P2

namespace Go.Proofs.YtpaecijilnfkhaaDoor
open Go Go.Eng Go.RowKit
set_option maxHeartbeats 1000000 in
theorem walk_operand {g : Nat} {st : List FrameS} {d : Nat} {p m li la : Int} {s : List UInt8} {sy tp : Int} {A : Option Addr} {c : Nat} {at_ long kind n : Int} {wd : List Int} {k : Nat} (ok : WOk ⟨st, d, p, m, li, la, s, sy, tp⟩ k) (hw : wd.length ≤ 1048576) {C : Cx} (hb : Hb C C.w0 [blk g 130 (wcells ⟨st, d, p, m, li, la, s, sy, tp⟩)] (fun w => RdI w A wd)) :
    Ret1 Tryd.prog 66 [.pointer (some ⟨g, 0, none⟩), instrV ⟨at_, long, kind, n, wd⟩ A c] C (.bool (operandS kind n wd sy tp)) (blk g 130 (wcells ⟨st, d, p, m, li, la, s, sy, tp⟩)) := by
  obtain ⟨hk, ho, hi, hl, hfr⟩ := ok
  dsimp only at hk ho hi hl hfr
  refine Sp.enter (N := 50) (e := entryEnv [.pointer (some ⟨g, 0, none⟩), .agg #[.int .i64 at_, .int .i64 long, .int .i64 kind, .int .i64 n, .slice A wd.length c]] 0 7) Tryd.func66 rfl rfl (Nat.le_of_ble_eq_true rfl) (entry_ok (Nat.le_of_ble_eq_true rfl) (Nat.le_of_ble_eq_true rfl)) (entry_nd _ _) hb ?_
  show W _ _ _ _ _ [(0, .pointer (some ⟨g, 0, none⟩)), (1, .agg #[.int .i64 at_, .int .i64 long, .int .i64 kind, .int .i64 n, .slice A wd.length c]), (2, undef), (3, undef), (4, undef), (5, undef), (6, undef)] _ _
  refine W.seq ?_
  refine W.region ?_
  refine WL.boxu (.t L1) rfl (fun _ => U3) rfl (fun g3 => ?_)
  refine WL.as .c U4 rfl ?_
  refine WL.nil ?_
  refine QS.next ?_
  refine W.seq ?_
  refine W.seq ?_
  refine W.region ?_
  refine WL.st (R.fa fo_59_2 (.t L3)) rfl ?_
  refine WL.st (R.ld sc_57 (.t L0) H0 rfl) rfl ?_
  refine WL.nil ?_
  refine QS.next ?_
  refine W.del (.kp (.dr .rf)) ?_
  refine W.block ?_
  refine W.seq ?_
  refine W.seq ?_
  refine W.region ?_
  refine WL.st (R.eqi (.t L0) .c) rfl ?_
  refine WL.st (R.as (.t L0)) rfl ?_
  refine WL.nil ?_
  refine QS.next ?_
  refine W.del (.kp (.dr .rf)) ?_
  refine W.cd (.t L0) (fun h0 => ?_) (fun h0 => ?_)
  ·
    refine W.skip ?_
    refine QS.next ?_
    refine W.cdt (.t L0) h0 ?_
    refine W.del (.dr (.dr .rf)) ?_
    refine W.seq ?_
    refine W.draw 8 mixed (by kernel_rfl) ?_
    refine HD.st (R.fa fo_59_3 (.t L3)) rfl ?_
    refine HD.st (R.ld sc_3 (.t L0) H0 rfl) rfl ?_
    refine HD.st (R.mv (.t L2)) rfl ?_
    refine HD.st (R.nc (.t L0)) rfl ?_
    refine HD.st (R.fa fo_130_7 (.t L0)) rfl ?_
    refine HD.st (R.ld sc_3 (.t L0) H1 (w_styles hk)) rfl ?_
    refine HD.st (R.lss (.t L4) (.t L0)) rfl ?_
    refine HD.up (R.as (.t L0)) U11 rfl ?_
    refine HD.nil ?_
    refine WL.nil ?_
    refine QS.next ?_
    refine W.del (.dr (.dr (.dr (.dr (.dr (.dr (.dr .rf))))))) ?_
    refine W.ret ?_
    refine QS.blkr ?_
    refine QS.thenr ?_
    exact QS.fin (.inl rfl) rfl (.tmp L4 .nil) () (by unfold operandS; (repeat (first | rw [if_pos (by omega)] | rw [if_neg (by omega)])); first | done | rfl) (.dr (.kp rfl .nil)) (fun _ _ _ => trivial)
  ·
    refine W.region ?_
    refine WL.st (R.eqi (.t L1) .c) rfl ?_
    refine WL.as (.t L0) U1 rfl ?_
    refine WL.nil ?_
    refine QS.next ?_
    refine W.del (.dr .rf) ?_
    refine W.cd (.t L0) (fun h1 => ?_) (fun h1 => ?_)
    ·
      refine W.del (.dr (.dr .rf)) ?_
      refine W.seq ?_
      refine W.draw 8 mixed (by kernel_rfl) ?_
      refine HD.st (R.fa fo_59_3 (.t L3)) rfl ?_
      refine HD.st (R.ld sc_3 (.t L0) H0 rfl) rfl ?_
      refine HD.st (R.mv (.t L2)) rfl ?_
      refine HD.st (R.nc (.t L0)) rfl ?_
      refine HD.st (R.fa fo_130_7 (.t L0)) rfl ?_
      refine HD.st (R.ld sc_3 (.t L0) H1 (w_styles hk)) rfl ?_
      refine HD.st (R.lss (.t L4) (.t L0)) rfl ?_
      refine HD.up (R.as (.t L0)) U11 rfl ?_
      refine HD.nil ?_
      refine WL.nil ?_
      refine QS.next ?_
      refine W.del (.dr (.dr (.dr (.dr (.dr (.dr (.dr .rf))))))) ?_
      refine W.ret ?_
      refine QS.blkr ?_
      refine QS.thenr ?_
      exact QS.fin (.inl rfl) rfl (.tmp L4 .nil) () (by unfold operandS; (repeat (first | rw [if_pos (by omega)] | rw [if_neg (by omega)])); first | done | rfl) (.dr (.kp rfl .nil)) (fun _ _ _ => trivial)
    ·
      refine W.del (.dr .rf) ?_
      refine W.seq ?_
      refine W.seq ?_
      refine W.region ?_
      refine WL.st (R.eqi (.t L0) .c) rfl ?_
      refine WL.st (R.as (.t L0)) rfl ?_
      refine WL.nil ?_
      refine QS.next ?_
      refine W.del (.kp (.dr .rf)) ?_
      refine W.cd (.t L0) (fun h2 => ?_) (fun h2 => ?_)
      ·
        refine W.skip ?_
        refine QS.next ?_
        refine W.cdt (.t L0) h2 ?_
        refine W.del (.dr (.dr .rf)) ?_
        refine W.seq ?_
        refine W.draw 8 mixed (by kernel_rfl) ?_
        refine HD.st (R.fa fo_59_3 (.t L3)) rfl ?_
        refine HD.st (R.ld sc_3 (.t L0) H0 rfl) rfl ?_
        refine HD.st (R.mv (.t L2)) rfl ?_
        refine HD.st (R.nc (.t L0)) rfl ?_
        refine HD.st (R.fa fo_130_8 (.t L0)) rfl ?_
        refine HD.st (R.ld sc_3 (.t L0) H1 (w_topics hk)) rfl ?_
        refine HD.st (R.lss (.t L4) (.t L0)) rfl ?_
        refine HD.up (R.as (.t L0)) U11 rfl ?_
        refine HD.nil ?_
        refine WL.nil ?_
        refine QS.next ?_
        refine W.del (.dr (.dr (.dr (.dr (.dr (.dr (.dr .rf))))))) ?_
        refine W.ret ?_
        refine QS.blkr ?_
        refine QS.thenr ?_
        exact QS.fin (.inl rfl) rfl (.tmp L4 .nil) () (by unfold operandS; (repeat (first | rw [if_pos (by omega)] | rw [if_neg (by omega)])); first | done | rfl) (.dr (.kp rfl .nil)) (fun _ _ _ => trivial)
      ·
        refine W.region ?_
        refine WL.st (R.eqi (.t L1) .c) rfl ?_
        refine WL.as (.t L0) U1 rfl ?_
        refine WL.nil ?_
        refine QS.next ?_
        refine W.del (.dr .rf) ?_
        refine W.cd (.t L0) (fun h3 => ?_) (fun h3 => ?_)
        ·
          refine W.del (.dr (.dr .rf)) ?_
          refine W.seq ?_
          refine W.draw 8 mixed (by kernel_rfl) ?_
          refine HD.st (R.fa fo_59_3 (.t L3)) rfl ?_
          refine HD.st (R.ld sc_3 (.t L0) H0 rfl) rfl ?_
          refine HD.st (R.mv (.t L2)) rfl ?_
          refine HD.st (R.nc (.t L0)) rfl ?_
          refine HD.st (R.fa fo_130_8 (.t L0)) rfl ?_
          refine HD.st (R.ld sc_3 (.t L0) H1 (w_topics hk)) rfl ?_
          refine HD.st (R.lss (.t L4) (.t L0)) rfl ?_
          refine HD.up (R.as (.t L0)) U11 rfl ?_
          refine HD.nil ?_
          refine WL.nil ?_
          refine QS.next ?_
          refine W.del (.dr (.dr (.dr (.dr (.dr (.dr (.dr .rf))))))) ?_
          refine W.ret ?_
          refine QS.blkr ?_
          refine QS.thenr ?_
          exact QS.fin (.inl rfl) rfl (.tmp L4 .nil) () (by unfold operandS; (repeat (first | rw [if_pos (by omega)] | rw [if_neg (by omega)])); first | done | rfl) (.dr (.kp rfl .nil)) (fun _ _ _ => trivial)
        ·
          refine W.del (.dr .rf) ?_
          refine W.seq ?_
          refine W.region ?_
          refine WL.st (R.eqi (.t L0) .c) rfl ?_
          refine WL.st (R.as (.t L0)) rfl ?_
          refine WL.nil ?_
          refine QS.next ?_
          refine W.del (.kp (.dr .rf)) ?_
          refine W.cd (.t L0) (fun h4 => ?_) (fun h4 => ?_)
          ·
            refine W.del (.dr (.dr .rf)) ?_
            refine W.seq ?_
            refine W.region ?_
            refine WL.st (R.fa fo_59_3 (.t L3)) rfl ?_
            refine WL.st (R.ld sc_3 (.t L0) H0 rfl) rfl ?_
            refine WL.st (R.leq (.t L0) .c) rfl ?_
            refine WL.as (.t L0) U7 rfl ?_
            refine WL.nil ?_
            refine QS.next ?_
            refine W.del (.dr (.dr (.dr .rf))) ?_
            refine W.ret ?_
            refine QS.blkr ?_
            refine QS.thenr ?_
            exact QS.fin (.inl rfl) rfl (.tmp L4 .nil) () (by unfold operandS; (repeat (first | rw [if_pos (by omega)] | rw [if_neg (by omega)])); first | done | rfl) (.dr (.kp rfl .nil)) (fun _ _ _ => trivial)
          ·
            refine W.del (.dr .rf) ?_
            refine W.seq ?_
            refine W.region ?_
            refine WL.st (R.eqi (.t L0) .c) rfl ?_
            refine WL.st (R.as (.t L0)) rfl ?_
            refine WL.nil ?_
            refine QS.next ?_
            refine W.del (.kp (.dr (.dr .rf))) ?_
            refine W.cd (.t L0) (fun h5 => ?_) (fun h5 => ?_)
            ·
              refine W.del (.dr .rf) ?_
              refine W.seq ?_
              refine W.seq ?_
              refine W.region ?_
              refine WL.st (R.fa fo_59_4 (.t L3)) rfl ?_
              refine WL.st (R.ld sc_37 (.t L0) H0 rfl) rfl ?_
              refine WL.st (R.lenl sl_37 (.t L0)) rfl ?_
              refine WL.st (R.mv .c) rfl ?_
              refine WL.nil ?_
              refine QS.next ?_
              refine W.del (.kp (.kp (.kp (.dr .rf)))) ?_
              refine W.block ?_
              refine W.loop (ι := {j : Nat // j ≤ wd.length ∧ ∀ i y, i < j → wd[i]? = some y → y ≤ 100}) (fun x => [(39, .int .i64 x.1), (38, .int .i64 wd.length), (37, .slice A wd.length c), (0, .pointer (some ⟨g, 0, none⟩)), (3, .pointer (some ⟨g3, 0, none⟩))]) (fun x => [blk g3 59 [.int .i64 at_, .int .i64 long, .int .i64 kind, .int .i64 n, .slice A wd.length c], blk g 130 (wcells ⟨st, d, p, m, li, la, s, sy, tp⟩)]) (fun x w => RdI w A wd) (fun x => wd.length - x.1) ⟨0, by omega, fun i y h => absurd h (by omega)⟩ (.kp rfl (.kp rfl (.kp rfl (.kp rfl (.dr (.dr (.kp rfl (.dr (.dr (.dr .nil)))))))))) (.kp rfl (.kp rfl .nil)) (fun _ h _ => h) ?_
              intro x
              obtain ⟨j, hj1, hj2⟩ := x
              show W _ _ _ _ _ [(39, .int .i64 j), (38, .int .i64 wd.length), (37, .slice A wd.length c), (0, .pointer (some ⟨g, 0, none⟩)), (3, .pointer (some ⟨g3, 0, none⟩))] [blk g3 59 [.int .i64 at_, .int .i64 long, .int .i64 kind, .int .i64 n, .slice A wd.length c], blk g 130 (wcells ⟨st, d, p, m, li, la, s, sy, tp⟩)] (fun w => RdI w A wd)
              refine W.seq ?_
              refine W.region ?_
              refine WL.st (R.lss (.t L0) (.t L1)) rfl ?_
              refine WL.nil ?_
              refine QS.next ?_
              refine W.seq ?_
              refine W.cd (.t L0) (fun h6 => ?_) (fun h6 => ?_)
              ·
                refine W.del (.dr .rf) ?_
                refine W.skip ?_
                refine QS.next ?_
                refine W.seq ?_
                refine W.block ?_
                refine W.seq ?_
                obtain ⟨x, hx⟩ : ∃ x, wd[j]? = some x := ⟨_, List.getElem?_eq_getElem (by omega)⟩
                refine W.region ?_
                refine WL.st (R.ixI sl_37 (.t L2) rfl (.t L0) (j := j) rfl (by omega) (fun w hb => hb.get)) rfl ?_
                refine WL.st (R.ldp sc_3 (.t L0) (fun w hb => hb.get.cell hx)) rfl ?_
                refine WL.st (R.as (.t L0)) rfl ?_
                refine WL.nil ?_
                refine QS.next ?_
                refine W.del (.kp (.dr (.dr .rf))) ?_
                refine W.seq ?_
                refine W.region ?_
                refine WL.st (R.mv (.t L0)) rfl ?_
                refine WL.st (R.gtr (.t L0) .c) rfl ?_
                refine WL.nil ?_
                refine QS.next ?_
                refine W.del (.kp (.dr .rf)) ?_
                refine W.cd (.t L0) (fun h7 => ?_) (fun h7 => ?_)
                ·
                  refine W.del (.dr .rf) ?_
                  refine W.seq ?_
                  refine W.region ?_
                  refine WL.st (R.as .c) rfl ?_
                  refine WL.nil ?_
                  refine QS.next ?_
                  refine W.ret ?_
                  refine QS.blkr ?_
                  refine QS.thenr ?_
                  refine QS.thenr ?_
                  refine QS.blkr ?_
                  refine QS.thenr ?_
                  refine QS.blkr ?_
                  refine QS.thenr ?_
                  have hr : operandS kind n wd sy tp = false := operand_bad (by omega) hx (by omega)
                  exact QS.fin (.inl rfl) rfl (.tmp L0 .nil) () (by rw [hr]; rfl) (.dr (.kp rfl .nil)) (fun _ _ _ => trivial)
                ·
                  refine W.del (.dr .rf) ?_
                  refine W.skip ?_
                  refine QS.blkn ?_
                  refine QS.next ?_
                  refine W.region ?_
                  refine WL.st (R.add (.t L1) .c (wi (by omega) (by omega))) rfl ?_
                  refine WL.up (R.mv (.t L0)) U2 rfl ?_
                  refine WL.nil ?_
                  exact QS.at ⟨j + 1, by omega, below_snoc hj2 hx (by omega)⟩ (by dsimp only; omega) (.dr (.dr (.kp rfl (.kp rfl (.kp rfl (.kp rfl (.kp rfl .nil))))))) (.kp rfl (.kp rfl .nil)) (fun _ h _ => h)
              ·
                refine W.del (.dr .rf) ?_
                refine W.exit ?_
                refine QS.thenx ?_
                refine QS.thenx ?_
                refine QS.blkx ?_
                refine QS.next ?_
                refine W.del (.dr (.dr (.dr .rf))) ?_
                refine W.seq ?_
                refine W.region ?_
                refine WL.st (R.fa fo_59_4 (.t L1)) rfl ?_
                refine WL.st (R.ld sc_37 (.t L0) H0 rfl) rfl ?_
                refine WL.st (R.lenl sl_37 (.t L0)) rfl ?_
                refine WL.st (R.leq (.t L0) .c) rfl ?_
                refine WL.st (R.as (.t L0)) rfl ?_
                refine WL.nil ?_
                refine QS.next ?_
                refine W.del (.kp (.dr (.dr (.dr (.dr .rf))))) ?_
                refine W.ret ?_
                refine QS.blkr ?_
                refine QS.thenr ?_
                have hr := operand_tab (n := n) (sy := sy) (tp := tp) (kind := kind) (by omega) (fun i y h => hj2 i y (by omega))
                exact QS.fin (.inl rfl) rfl (.tmp L0 .nil) () (by rw [hr]; rfl) (.dr (.kp rfl .nil)) (fun _ _ _ => trivial)
            ·
              refine W.del (.dr .rf) ?_
              refine W.skip ?_
              refine QS.blkn ?_
              refine QS.next ?_
              refine W.seq ?_
              refine W.region ?_
              refine WL.as .c U4 rfl ?_
              refine WL.nil ?_
              refine QS.next ?_
              refine W.ret ?_
              exact QS.fin (.inl rfl) rfl (.tmp L4 .nil) () (by unfold operandS; (repeat (first | rw [if_pos (by omega)] | rw [if_neg (by omega)])); first | done | rfl) (.dr (.kp rfl .nil)) (fun _ _ _ => trivial)

set_option maxHeartbeats 1000000 in
theorem walk_texts {g : Nat} {st : List FrameS} {d : Nat} {p m li la : Int} {s : List UInt8} {sy tp : Int} {A : Option Addr} {c : Nat} {at_ long kind n : Int} {wd : List Int}  (hk : st.length = 32) (hn : kind = 1 → 0 ≤ n) (hs : s.length ≤ 16384) {C : Cx} (hb : Hb C C.w0 [blk g 130 (wcells ⟨st, d, p, m, li, la, s, sy, tp⟩)] (fun w => Lib.Utf8Tabs 4 5 w)) :
    Ret1 Tryd.prog 68 [.pointer (some ⟨g, 0, none⟩), instrV ⟨at_, long, kind, n, wd⟩ A c] C (.bool (textsS ⟨st, d, p, m, li, la, s, sy, tp⟩ kind n).1) (blk g 130 (wcells (textsS ⟨st, d, p, m, li, la, s, sy, tp⟩ kind n).2)) := by
  refine Sp.enter (N := 48) (e := entryEnv [.pointer (some ⟨g, 0, none⟩), .agg #[.int .i64 at_, .int .i64 long, .int .i64 kind, .int .i64 n, .slice A wd.length c]] 0 7) Tryd.func68 rfl rfl (Nat.le_of_ble_eq_true rfl) (entry_ok (Nat.le_of_ble_eq_true rfl) (Nat.le_of_ble_eq_true rfl)) (entry_nd _ _) hb ?_
  show W _ _ _ _ _ [(0, .pointer (some ⟨g, 0, none⟩)), (1, .agg #[.int .i64 at_, .int .i64 long, .int .i64 kind, .int .i64 n, .slice A wd.length c]), (2, undef), (3, undef), (4, undef), (5, undef), (6, undef)] _ _
  refine W.seq ?_
  refine W.region ?_
  refine WL.boxu (.t L1) rfl (fun _ => U3) rfl (fun g3 => ?_)
  refine WL.as .c U4 rfl ?_
  refine WL.nil ?_
  refine QS.next ?_
  refine W.seq ?_
  refine W.seq ?_
  refine W.region ?_
  refine WL.st (R.fa fo_59_2 (.t L3)) rfl ?_
  refine WL.st (R.ld sc_57 (.t L0) H0 rfl) rfl ?_
  refine WL.nil ?_
  refine QS.next ?_
  refine W.del (.kp (.dr .rf)) ?_
  refine W.block ?_
  refine W.seq ?_
  refine W.region ?_
  refine WL.st (R.eqi (.t L0) .c) rfl ?_
  refine WL.st (R.as (.t L0)) rfl ?_
  refine WL.nil ?_
  refine QS.next ?_
  refine W.del (.kp (.dr .rf)) ?_
  refine W.cd (.t L0) (fun h0 => ?_) (fun h0 => ?_)
  ·
    refine W.del (.dr (.dr .rf)) ?_
    refine W.seq ?_
    refine W.region ?_
    refine WL.st (R.mv (.t L0)) rfl ?_
    refine WL.st (R.nc (.t L0)) rfl ?_
    refine WL.st (R.fa fo_130_6 (.t L0)) rfl ?_
    refine WL.st (R.ld sc_9 (.t L0) H1 (w_s hk)) rfl ?_
    refine WL.st (R.eqs (.t L0) .c) rfl ?_
    refine WL.as (.t L0) U9 rfl ?_
    refine WL.nil ?_
    refine QS.next ?_
    refine W.del (.dr (.dr (.dr (.dr (.dr .rf))))) ?_
    refine W.ret ?_
    refine QS.blkr ?_
    refine QS.thenr ?_
    exact QS.fin (.inl rfl) rfl (.tmp L4 .nil) () (by unfold textsS; dsimp only; (repeat (first | rw [if_pos (by omega)] | rw [if_neg (by omega)])); first | done | rfl) (.dr (.kp (by unfold textsS; dsimp only; (repeat (first | rw [if_pos (by omega)] | rw [if_neg (by omega)])); first | done | rfl) .nil)) (fun _ _ _ => trivial)
  ·
    refine W.del (.dr .rf) ?_
    refine W.seq ?_
    refine W.region ?_
    refine WL.st (R.eqi (.t L0) .c) rfl ?_
    refine WL.st (R.as (.t L0)) rfl ?_
    refine WL.nil ?_
    refine QS.next ?_
    refine W.del (.kp (.dr (.dr .rf))) ?_
    refine W.cd (.t L0) (fun h1 => ?_) (fun h1 => ?_)
    ·
      refine W.del (.dr .rf) ?_
      refine W.seq ?_
      refine W.seq ?_
      refine W.draw 8 mixed (by kernel_rfl) ?_
      refine HD.st (R.fa fo_59_3 (.t L3)) rfl ?_
      refine HD.st (R.ld sc_3 (.t L0) H0 rfl) rfl ?_
      refine HD.st (R.mv (.t L2)) rfl ?_
      refine HD.st (R.nc (.t L0)) rfl ?_
      refine HD.st (R.fa fo_130_6 (.t L0)) rfl ?_
      refine HD.st (R.ld sc_9 (.t L0) H1 (w_s hk)) rfl ?_
      refine HD.st (R.lens st_9 (.t L0)) rfl ?_
      refine HD.st (R.gtr (.t L5) (.t L0)) rfl ?_
      refine HD.nil ?_
      refine WL.nil ?_
      refine QS.next ?_
      refine W.del (.kp (.dr (.dr (.dr (.dr (.dr (.dr (.dr .rf)))))))) ?_
      refine W.cd (.t L0) (fun h2 => ?_) (fun h2 => ?_)
      ·
        refine W.del (.dr .rf) ?_
        refine W.seq ?_
        refine W.region ?_
        refine WL.as .c U4 rfl ?_
        refine WL.nil ?_
        refine QS.next ?_
        refine W.ret ?_
        refine QS.thenr ?_
        refine QS.blkr ?_
        refine QS.thenr ?_
        exact QS.fin (.inl rfl) rfl (.tmp L4 .nil) () (by unfold textsS; dsimp only; (repeat (first | rw [if_pos (by omega)] | rw [if_neg (by omega)])); first | done | rfl) (.dr (.kp (by unfold textsS; dsimp only; (repeat (first | rw [if_pos (by omega)] | rw [if_neg (by omega)])); first | done | rfl) .nil)) (fun _ _ _ => trivial)
      ·
        refine W.del (.dr .rf) ?_
        refine W.skip ?_
        refine QS.next ?_
        refine W.seq ?_
        refine W.draw 13 mixed (by kernel_rfl) ?_
        refine HD.st (R.mv (.t L0)) rfl ?_
        refine HD.st (R.nc (.t L0)) rfl ?_
        refine HD.st (R.fa fo_130_6 (.t L0)) rfl ?_
        refine HD.st (R.ld sc_9 (.t L0) H1 (w_s hk)) rfl ?_
        refine HD.st (R.fa fo_59_3 (.t L7)) rfl ?_
        refine HD.st (R.ld sc_3 (.t L0) H0 rfl) rfl ?_
        refine HD.st (R.sls st_9 (.t L2) .no (.yes (.t L0) (n := n.toNat) (by omega)) (by omega) (by omega) (show _ = s.take n.toNat by simp)) rfl ?_
        refine HD.callr gf_92 .f (.cons (.t L0) .nil) (fun w hb => (text_Plain (l := s.take n.toNat) (by rw [List.length_take]; omega) (hb.imp fun _ h => h))) rfl ?_
        refine HD.st (R.mv (.t L0)) rfl ?_
        refine HD.st (R.ex (.t L0) .here) rfl ?_
        refine HD.st (R.ex (.t L1) (.skip .here)) rfl ?_
        refine HD.up (R.as (.t L1)) U16 rfl ?_
        refine HD.up (R.as (.t L0)) U17 rfl ?_
        refine HD.nil ?_
        refine WL.nil ?_
        refine QS.next ?_
        refine W.del (.dr (.dr (.dr (.dr (.dr (.dr (.dr (.dr (.dr (.dr (.dr .rf))))))))))) ?_
        refine W.seq ?_
        refine W.draw 10 mixed (by kernel_rfl) ?_
        refine HD.st (R.mv (.t L0)) rfl ?_
        refine HD.st (R.mv (.t L1)) rfl ?_
        refine HD.st (R.nc (.t L0)) rfl ?_
        refine HD.st (R.fa fo_130_6 (.t L0)) rfl ?_
        refine HD.st (R.ld sc_9 (.t L0) H1 (w_s hk)) rfl ?_
        refine HD.st (R.fa fo_59_3 (.t L8)) rfl ?_
        refine HD.st (R.ld sc_3 (.t L0) H0 rfl) rfl ?_
        refine HD.st (R.sls st_9 (.t L2) (.yes (.t L0) (n := n.toNat) (by omega)) .no (by omega) (by omega) (List.take_of_length_le (by rw [List.length_drop]; exact Nat.le_refl _))) rfl ?_
        refine HD.st (R.nc (.t L7)) rfl ?_
        refine HD.st (R.fa fo_130_6 (.t L0)) rfl ?_
        refine HD.nil ?_
        refine WL.sto sz_9 (.t L0) (.t L2) rfl rfl rfl C1 (wp_s hk) ?_
        refine WL.nil ?_
        refine QS.next ?_
        refine W.del (.dr (.dr (.dr (.dr (.dr (.dr (.dr (.dr (.dr (.dr .rf)))))))))) ?_
        refine W.seq ?_
        refine W.region ?_
        refine WL.st (R.mv (.t L6)) rfl ?_
        refine WL.as (.t L0) U5 rfl ?_
        refine WL.nil ?_
        refine QS.next ?_
        refine W.del (.dr .rf) ?_
        refine W.ret ?_
        refine QS.blkr ?_
        refine QS.thenr ?_
        exact QS.fin (.inl rfl) rfl (.tmp L4 .nil) () (by unfold textsS; dsimp only; (repeat (first | rw [if_pos (by omega)] | rw [if_neg (by omega)])); first | done | rfl) (.dr (.kp (by unfold textsS; dsimp only; (repeat (first | rw [if_pos (by omega)] | rw [if_neg (by omega)])); first | done | rfl) .nil)) (fun _ _ _ => trivial)
    ·
      refine W.del (.dr .rf) ?_
      refine W.skip ?_
      refine QS.blkn ?_
      refine QS.next ?_
      refine W.seq ?_
      refine W.region ?_
      refine WL.as .c U4 rfl ?_
      refine WL.nil ?_
      refine QS.next ?_
      refine W.ret ?_
      exact QS.fin (.inl rfl) rfl (.tmp L4 .nil) () (by unfold textsS; dsimp only; (repeat (first | rw [if_pos (by omega)] | rw [if_neg (by omega)])); first | done | rfl) (.dr (.kp (by unfold textsS; dsimp only; (repeat (first | rw [if_pos (by omega)] | rw [if_neg (by omega)])); first | done | rfl) .nil)) (fun _ _ _ => trivial)

end Go.Proofs.YtpaecijilnfkhaaDoor
