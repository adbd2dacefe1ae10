/- The law CheckDepths. -/
import Derived.Test.YtpaecijilnfkhaaDoorA9
import Derived.Test.YtpaecijilnfkhaaDoorPm

namespace Go.Proofs.YtpaecijilnfkhaaDoor
open Go Go.Eng Go.RowKit
theorem law17_CheckDepths {A : Option Addr} {b s : List UInt8} {c : Nat} {sty tp : Int} (hc : b.length ≤ c) (hl : b.length ≤ 140737488355328) (hs : s.length ≤ 140737488355328) {C : Cx} (hb : Hb C C.w0 [] (fun w => RdB w A b ∧ Lib.Utf8Tabs 4 5 w)) :
    Ret Tryd.prog 4 [.slice A b.length c, str s, .int .i64 sty, .int .i64 tp] C (.bool true) := by
  refine Sp.enter (N := 122) (e := entryEnv [.slice A b.length c, str s, .int .i64 sty, .int .i64 tp] 0 14) Tryd.func4 rfl rfl (Nat.le_of_ble_eq_true rfl) (entry_ok (Nat.le_of_ble_eq_true rfl) (Nat.le_of_ble_eq_true rfl)) (entry_nd _ _) hb ?_
  show W _ _ _ _ _ [(0, .slice A b.length c), (1, str s), (2, .int .i64 sty), (3, .int .i64 tp), (4, undef), (5, undef), (6, undef), (7, undef), (8, undef), (9, undef), (10, undef), (11, undef), (12, undef), (13, undef)] _ _
  refine W.seq ?_
  refine W.region ?_
  refine WL.as .c U8 rfl ?_
  refine WL.nil ?_
  refine QS.next ?_
  refine W.seq ?_
  refine W.seq ?_
  refine W.region ?_
  refine WL.callr gf_11 .f .nil (fun w hb => (law17_awake (hb.imp fun _ h => h.2))) rfl ?_
  refine WL.st (R.notb (.t L0)) rfl ?_
  refine WL.nil ?_
  refine QS.next ?_
  refine W.del (.kp (.dr .rf)) ?_
  refine W.cf (.t L0) ?_
  refine W.del (.dr .rf) ?_
  refine W.skip ?_
  refine QS.next ?_
  refine W.seq ?_
  refine W.region ?_
  refine WL.st (R.mv (.t L0)) rfl ?_
  refine WL.call gf_13 .f (.cons (.t L0) .nil) .nil (fun w hb => (law_twin (by omega) (hb.imp fun _ h => h.1))) rfl (fun x18 => ?_)
  obtain ⟨⟨At, ct⟩, hct⟩ := x18
  refine WL.st (R.mv (.t L3)) rfl ?_
  refine WL.st (R.mv (.t L5)) rfl ?_
  refine WL.st (R.mv (.t L7)) rfl ?_
  refine WL.call gf_18 .f (.cons (.t L3) (.cons (.t L2) (.cons (.t L1) (.cons (.t L0) .nil)))) .nil (fun w hb => (check_Depths hct (by omega) hs (hb.imp fun _ h => ⟨h.2, h.1.2⟩))) rfl (fun x22 => ?_)
  obtain ⟨Ad, cd⟩ := x22
  obtain ⟨r, hr⟩ : ∃ r, runS b s sty tp = r := ⟨_, rfl⟩
  refine WL.st (R.mv (.t L0)) rfl ?_
  refine WL.st (R.ex (.t L0) .here) rfl ?_
  refine WL.st (R.ex (.t L1) (.skip .here)) rfl ?_
  refine WL.as (.t L1) U18 rfl ?_
  refine WL.as (.t L0) U19 rfl ?_
  refine WL.nil ?_
  refine QS.next ?_
  refine W.del (.dr (.dr (.dr (.dr (.dr (.dr (.dr (.dr (.dr .rf))))))))) ?_
  refine W.seq ?_
  refine W.seq ?_
  refine W.region ?_
  refine WL.st (R.mv (.t L10)) rfl ?_
  refine WL.st (R.nei (.t L0) .c) rfl ?_
  refine WL.nil ?_
  refine QS.next ?_
  refine W.del (.kp (.dr .rf)) ?_
  refine W.cd (.t L0) (fun h1 => ?_) (fun h1 => ?_)
  ·
    refine W.del (.dr .rf) ?_
    refine W.seq ?_
    refine W.region ?_
    refine WL.as .c U8 rfl ?_
    refine WL.nil ?_
    refine QS.next ?_
    refine W.ret ?_
    refine QS.thenr ?_
    first
      | (exfalso; omega)
      | (skip; exact QS.fin (.inl rfl) rfl (.tmp L8 .nil) () (by first | rfl | exact congrArg Value.bool (decide_eq_true (by rw [List.take_of_length_le (by omega)]; exact mx_top q6))) .nil (fun _ _ _ => trivial))
  ·
    refine W.del (.dr .rf) ?_
    refine W.skip ?_
    refine QS.next ?_
    refine W.seq ?_
    obtain ⟨q1, q2, q3, q4, q5, ⟨dd, q6, q7⟩, q8⟩ := depths_okM rfl (show (measS (runS b s sty tp)).e = 0 by omega)
    subst q7
    refine W.region ?_
    refine WL.st (R.mv (.t L0)) rfl ?_
    refine WL.call gf_13 .f (.cons (.t L0) .nil) .nil (fun w hb => (law_twin (by omega) (hb.imp fun _ h => h.1.1.1))) rfl (fun x29 => ?_)
    obtain ⟨⟨Au, cu⟩, hcu⟩ := x29
    refine WL.st (R.mv (.t L3)) rfl ?_
    refine WL.st (R.mv (.t L5)) rfl ?_
    refine WL.st (R.mv (.t L7)) rfl ?_
    refine WL.callr gf_15 .f (.cons (.t L3) (.cons (.t L2) (.cons (.t L1) (.cons (.t L0) .nil)))) (fun w hb => (check_Measure hcu (by omega) hs (hb.imp fun _ h => ⟨h.2, h.1.1.1.2⟩))) rfl ?_
    refine WL.st (R.mv (.t L0)) rfl ?_
    refine WL.st (R.ex (.t L0) .here) rfl ?_
    refine WL.st (R.ex (.t L1) (.skip .here)) rfl ?_
    refine WL.allocu z_31 (fun _ => U20) rfl (fun g11 => ?_)
    refine WL.sto sz_31 (.t L20) (.t L1) rfl rfl rfl C0 (by repeat constructor) ?_
    refine WL.as (.t L0) U19 rfl ?_
    refine WL.nil ?_
    refine QS.next ?_
    refine W.del (.dr (.dr (.dr (.dr (.dr (.dr (.dr (.dr (.dr .rf))))))))) ?_
    refine W.seq ?_
    refine W.seq ?_
    refine W.region ?_
    refine WL.st (R.mv (.t L10)) rfl ?_
    refine WL.st (R.nei (.t L0) .c) rfl ?_
    refine WL.st (R.mv (.t L0)) rfl ?_
    refine WL.rw L0 (v' := .bool false) (congrArg Value.bool (decide_eq_false (by omega))) U0 ?_
    refine WL.gy rfl L0 (R.mv (.t L12)) rfl ?_
    refine WL.gy rfl L1 (R.lenl sl_37 (.t L0)) rfl ?_
    refine WL.gy rfl L2 (R.eqi (.t L0) .c) rfl ?_
    refine WL.st (R.pkf (.t L3) (.t L0)) rfl ?_
    refine WL.st (R.mv (.t L0)) rfl ?_
    refine WL.rw L0 (v' := .bool false) (congrArg Value.bool (decide_eq_false (by omega))) U0 ?_
    refine WL.gy rfl L0 (R.mv (.t L17)) rfl ?_
    refine WL.gy rfl L1 (R.ixI sl_37 (.t L0) rfl .c (j := 0) rfl (by omega) (fun w hb => hb.get.1.2)) rfl ?_
    refine WL.gy rfl L2 (R.ldp sc_3 (.t L0) (fun w hb => hb.get.1.2.cell q4)) rfl ?_
    refine WL.gy rfl L3 (R.nei (.t L0) .c) rfl ?_
    refine WL.st (R.pkf (.t L4) (.t L0)) rfl ?_
    refine WL.st (R.mv (.t L0)) rfl ?_
    refine WL.rw L0 (v' := .bool false) (congrArg Value.bool (decide_eq_false (by simp))) U0 ?_
    refine WL.gy rfl L0 (R.mv (.t L23)) rfl ?_
    refine WL.gy rfl L1 (R.mv (.t L24)) rfl ?_
    refine WL.gy rfl L2 (R.lenl sl_37 (.t L0)) rfl ?_
    refine WL.gy rfl L3 (R.sub (.t L0) .c (wi (by omega) (by omega))) rfl ?_
    refine WL.gy rfl L4 (R.ixI sl_37 (.t L3) rfl (.t L0) (j := (measS (runS b s sty tp)).ds.length - 1) (by omega) (by omega) (fun w hb => hb.get.1.2)) rfl ?_
    refine WL.gy rfl L5 (R.ldp sc_3 (.t L0) (fun w hb => hb.get.1.2.cell q5)) rfl ?_
    refine WL.gy rfl L6 (R.nei (.t L0) .c) rfl ?_
    refine WL.st (R.pkf (.t L7) (.t L0)) rfl ?_
    refine WL.st (R.mv (.t L0)) rfl ?_
    refine WL.rw L0 (v' := .bool false) (congrArg Value.bool (decide_eq_false (by simp))) U0 ?_
    refine WL.gy rfl L0 (R.fa fo_31_4 (.t L34)) rfl ?_
    refine WL.gy rfl L1 (R.ld sc_3 (.t L0) H0 rfl) rfl ?_
    refine WL.gy rfl L2 (R.gtr (.t L0) .c) rfl ?_
    refine WL.st (R.pkf (.t L3) (.t L0)) rfl ?_
    refine WL.st (R.mv (.t L0)) rfl ?_
    refine WL.rw L0 (v' := .bool false) (congrArg Value.bool (decide_eq_false (by omega))) U0 ?_
    refine WL.gy rfl L0 (R.mv (.t L37)) rfl ?_
    refine WL.gy rfl L1 (R.lenl sl_37 (.t L0)) rfl ?_
    refine WL.gy rfl L2 (R.fa fo_31_0 (.t L41)) rfl ?_
    refine WL.gy rfl L3 (R.ld sc_3 (.t L0) H0 rfl) rfl ?_
    refine WL.gy rfl L4 (R.add (.t L0) .c (wi (by omega) (by omega))) rfl ?_
    refine WL.gy rfl L5 (R.nei (.t L3) (.t L0)) rfl ?_
    refine WL.st (R.pkf (.t L6) (.t L0)) rfl ?_
    refine WL.nil ?_
    refine QS.next ?_
    refine W.del (.kp (.dr (.dr (.dr (.dr (.dr (.dr (.dr (.dr (.dr (.dr (.dr (.dr (.dr (.dr (.dr (.dr (.dr (.dr (.dr (.dr (.dr (.dr (.dr (.dr (.dr (.dr (.dr (.dr (.dr (.dr (.dr (.dr (.dr (.dr .rf))))))))))))))))))))))))))))))))))) ?_
    refine W.cd (.t L0) (fun h2 => ?_) (fun h2 => ?_)
    ·
      refine W.del (.dr .rf) ?_
      refine W.seq ?_
      refine W.region ?_
      refine WL.as .c U8 rfl ?_
      refine WL.nil ?_
      refine QS.next ?_
      refine W.ret ?_
      refine QS.thenr ?_
      first
        | (exfalso; omega)
        | (skip; exact QS.fin (.inl rfl) rfl (.tmp L8 .nil) () (by first | rfl | exact congrArg Value.bool (decide_eq_true (by rw [List.take_of_length_le (by omega)]; exact mx_top q6))) (.dr .nil) (fun _ _ _ => trivial))
    ·
      refine W.del (.dr .rf) ?_
      refine W.skip ?_
      refine QS.next ?_
      refine W.seq ?_
      refine W.region ?_
      refine WL.as .c U12 rfl ?_
      refine WL.nil ?_
      refine QS.next ?_
      refine W.seq ?_
      refine W.seq ?_
      refine W.region ?_
      refine WL.st (R.mv (.t L9)) rfl ?_
      refine WL.st (R.lenl sl_37 (.t L0)) rfl ?_
      refine WL.st (R.mv .c) rfl ?_
      refine WL.nil ?_
      refine QS.next ?_
      refine W.del (.kp (.kp (.dr .rf))) ?_
      refine W.block ?_
      refine W.loop (ι := {j : Nat // j ≤ (measS (runS b s sty tp)).ds.length}) (fun x => [(73, .int .i64 x.1), (72, .int .i64 (measS (runS b s sty tp)).ds.length), (8, .bool false), (9, .slice Ad (measS (runS b s sty tp)).ds.length cd), (11, .pointer (some ⟨g11, 0, none⟩)), (12, .int .i64 (mxS ((measS (runS b s sty tp)).ds.take x.1)))]) (fun x => [blk g11 31 [.int .i64 (measS (runS b s sty tp)).ni, .int .i64 (measS (runS b s sty tp)).nb, .int .i64 (measS (runS b s sty tp)).nl, .int .i64 (measS (runS b s sty tp)).np, .int .i64 (measS (runS b s sty tp)).ns]]) (fun x w => RdI w Ad (measS (runS b s sty tp)).ds) (fun x => (measS (runS b s sty tp)).ds.length - x.1) ⟨0, Nat.zero_le _⟩ (.kp rfl (.kp rfl (.dr (.dr (.dr (.dr (.dr (.dr (.dr (.dr (.kp rfl (.kp rfl (.dr (.kp rfl (.kp rfl (.dr .nil)))))))))))))))) (.kp rfl .nil) (fun w h _ => h.1.2) ?_
      intro x
      obtain ⟨j, hj1⟩ := x
      show W _ _ _ _ _ [(73, .int .i64 j), (72, .int .i64 (measS (runS b s sty tp)).ds.length), (8, .bool false), (9, .slice Ad (measS (runS b s sty tp)).ds.length cd), (11, .pointer (some ⟨g11, 0, none⟩)), (12, .int .i64 (mxS ((measS (runS b s sty tp)).ds.take j)))] [blk g11 31 [.int .i64 (measS (runS b s sty tp)).ni, .int .i64 (measS (runS b s sty tp)).nb, .int .i64 (measS (runS b s sty tp)).nl, .int .i64 (measS (runS b s sty tp)).np, .int .i64 (measS (runS b s sty tp)).ns]] (fun w => RdI w Ad (measS (runS b s sty tp)).ds)
      refine W.seq ?_
      refine W.region ?_
      refine WL.st (R.lss (.t L0) (.t L1)) rfl ?_
      refine WL.nil ?_
      refine QS.next ?_
      refine W.seq ?_
      refine W.cd (.t L0) (fun h3 => ?_) (fun h3 => ?_)
      ·
        refine W.del (.dr .rf) ?_
        refine W.skip ?_
        refine QS.next ?_
        refine W.seq ?_
        refine W.block ?_
        refine W.seq ?_
        refine W.region ?_
        refine WL.st (R.mv (.t L0)) rfl ?_
        refine WL.st (R.as (.t L0)) rfl ?_
        refine WL.nil ?_
        refine QS.next ?_
        refine W.del (.kp (.dr .rf)) ?_
        refine W.seq ?_
        obtain ⟨x, hx⟩ : ∃ x, (measS (runS b s sty tp)).ds[j]? = some x := ⟨_, List.getElem?_eq_getElem (by omega)⟩
        obtain ⟨y, hy⟩ : ∃ y, (measS (runS b s sty tp)).ds[j - 1]? = some y := ⟨_, List.getElem?_eq_getElem (by omega)⟩
        have hxb := q6.nonneg x (List.mem_of_getElem? hx)
        have hyb := q6.nonneg y (List.mem_of_getElem? hy)
        have hadj : 0 < j → x - y ≤ 1 ∧ y - x ≤ 1 := fun h => q6.adj (j - 1) y x hy (by rw [Nat.sub_add_cancel h]; exact hx)
        refine W.region ?_
        refine WL.st (R.mv (.t L6)) rfl ?_
        refine WL.st (R.mv (.t L5)) rfl ?_
        refine WL.st (R.mv (.t L2)) rfl ?_
        refine WL.st (R.ixI sl_37 (.t L1) rfl (.t L0) (j := j) rfl (by omega) (fun w hb => hb.get)) rfl ?_
        refine WL.st (R.ldp sc_3 (.t L0) (fun w hb => hb.get.cell hx)) rfl ?_
        refine WL.st (R.maxi (.t L4) (.t L0) (max_if _ _)) rfl ?_
        refine WL.as (.t L0) U12 rfl ?_
        refine WL.nil ?_
        refine QS.next ?_
        refine W.del (.dr (.dr (.dr (.dr (.dr (.dr .rf)))))) ?_
        refine W.seq ?_
        refine W.draw 35 mixed (by kernel_rfl) ?_
        refine HD.st (R.mv (.t L4)) rfl ?_
        refine HD.st (R.mv (.t L1)) rfl ?_
        refine HD.st (R.ixI sl_37 (.t L1) rfl (.t L0) (j := j) rfl (by omega) (fun w hb => hb.get)) rfl ?_
        refine HD.st (R.ldp sc_3 (.t L0) (fun w hb => hb.get.cell hx)) rfl ?_
        refine HD.st (R.lss (.t L0) .c) rfl ?_
        refine HD.st (R.mv (.t L0)) rfl ?_
        refine HD.rw L0 (v' := .bool false) (congrArg Value.bool (decide_eq_false (by omega))) U0 ?_
        refine HD.gy rfl L0 (R.mv (.t L6)) rfl ?_
        refine HD.gy rfl L1 (R.gtr (.t L0) .c) rfl ?_
        refine HD.gy rfl L2 (R.mv (.t L0)) rfl ?_
        refine HD.cd L0 U0 U0 (fun hg90 => ?_) (fun hg90 => ?_)
        ·
          refine HD.gy rfl L0 (R.mv (.t L13)) rfl ?_
          refine HD.gy rfl L1 (R.mv (.t L10)) rfl ?_
          refine HD.gy rfl L2 (R.ixI sl_37 (.t L1) rfl (.t L0) (j := j) rfl (by omega) (fun w hb => hb.get)) rfl ?_
          refine HD.gy rfl L3 (R.ldp sc_3 (.t L0) (fun w hb => hb.get.cell hx)) rfl ?_
          refine HD.gy rfl L4 (R.mv (.t L17)) rfl ?_
          refine HD.gy rfl L5 (R.mv (.t L14)) rfl ?_
          refine HD.gy rfl L6 (R.sub (.t L0) .c (wi (by omega) (by omega))) rfl ?_
          refine HD.gy rfl L7 (R.ixI sl_37 (.t L2) rfl (.t L0) (j := j - 1) (by omega) (by omega) (fun w hb => hb.get)) rfl ?_
          refine HD.gy rfl L8 (R.ldp sc_3 (.t L0) (fun w hb => hb.get.cell hy)) rfl ?_
          refine HD.gy rfl L9 (R.sub (.t L5) (.t L0) (wi (by omega) (by omega))) rfl ?_
          refine HD.gy rfl L10 (R.gtr (.t L0) .c) rfl ?_
          refine HD.gy rfl L11 (R.mv (.t L0)) rfl ?_
          refine HD.rw L0 (v' := .bool false) (congrArg Value.bool (decide_eq_false (by omega))) U0 ?_
          refine HD.gy rfl L0 (R.mv (.t L25)) rfl ?_
          refine HD.gy rfl L1 (R.mv (.t L22)) rfl ?_
          refine HD.gy rfl L2 (R.sub (.t L0) .c (wi (by omega) (by omega))) rfl ?_
          refine HD.gy rfl L3 (R.ixI sl_37 (.t L2) rfl (.t L0) (j := j - 1) (by omega) (by omega) (fun w hb => hb.get)) rfl ?_
          refine HD.gy rfl L4 (R.ldp sc_3 (.t L0) (fun w hb => hb.get.cell hy)) rfl ?_
          refine HD.gy rfl L5 (R.mv (.t L30)) rfl ?_
          refine HD.gy rfl L6 (R.mv (.t L27)) rfl ?_
          refine HD.gy rfl L7 (R.ixI sl_37 (.t L1) rfl (.t L0) (j := j) rfl (by omega) (fun w hb => hb.get)) rfl ?_
          refine HD.gy rfl L8 (R.ldp sc_3 (.t L0) (fun w hb => hb.get.cell hx)) rfl ?_
          refine HD.gy rfl L9 (R.sub (.t L4) (.t L0) (wi (by omega) (by omega))) rfl ?_
          refine HD.gy rfl L10 (R.gtr (.t L0) .c) rfl ?_
          refine HD.gy rfl L23 (R.pkf (.t L11) (.t L0)) rfl ?_
          refine HD.gy rfl L27 (R.pkt (.t L24) (.t L0)) rfl ?_
          refine HD.st (R.pkf (.t L28) (.t L0)) rfl ?_
          refine HD.nil ?_
          refine WL.nil ?_
          refine QS.next ?_
          refine W.del (.kp (.dr (.dr (.dr (.dr (.dr (.dr (.dr (.dr (.dr (.dr (.dr (.dr (.dr (.dr (.dr (.dr (.dr (.dr (.dr (.dr (.dr (.dr (.dr (.dr (.dr (.dr (.dr (.dr (.dr (.dr (.dr (.dr (.dr (.dr .rf))))))))))))))))))))))))))))))))))) ?_
          refine W.cd (.t L0) (fun h4 => ?_) (fun h4 => ?_)
          ·
            exfalso; omega
          ·
            refine W.del (.dr .rf) ?_
            refine W.skip ?_
            refine QS.blkn ?_
            refine QS.next ?_
            refine W.region ?_
            refine WL.st (R.add (.t L1) .c (wi (by omega) (by omega))) rfl ?_
            refine WL.up (R.mv (.t L0)) U2 rfl ?_
            refine WL.nil ?_
            exact QS.at ⟨j + 1, by omega⟩ (by dsimp only; omega) (.dr (.dr (.kp rfl (.kp rfl (.kp rfl (.kp rfl (.kp rfl (.kp (by rw [mx_snoc hx]) .nil)))))))) (.kp rfl .nil) (fun _ h _ => h)
        ·
          refine HD.gn rfl L0 rfl ?_
          refine HD.gn rfl L1 rfl ?_
          refine HD.gn rfl L2 rfl ?_
          refine HD.gn rfl L3 rfl ?_
          refine HD.gn rfl L4 rfl ?_
          refine HD.gn rfl L5 rfl ?_
          refine HD.gn rfl L6 rfl ?_
          refine HD.gn rfl L7 rfl ?_
          refine HD.gn rfl L8 rfl ?_
          refine HD.gn rfl L9 rfl ?_
          refine HD.gn rfl L10 rfl ?_
          refine HD.gn rfl L11 rfl ?_
          refine HD.gu rfl L0 rfl ?_
          refine HD.gu rfl L1 rfl ?_
          refine HD.gu rfl L2 rfl ?_
          refine HD.gu rfl L3 rfl ?_
          refine HD.gu rfl L4 rfl ?_
          refine HD.gu rfl L5 rfl ?_
          refine HD.gu rfl L6 rfl ?_
          refine HD.gu rfl L7 rfl ?_
          refine HD.gu rfl L8 rfl ?_
          refine HD.gu rfl L9 rfl ?_
          refine HD.gu rfl L10 rfl ?_
          refine HD.gn rfl L23 rfl ?_
          refine HD.gy rfl L27 (R.pkf (.t L24) .c) rfl ?_
          refine HD.st (R.pkf (.t L28) (.t L0)) rfl ?_
          refine HD.nil ?_
          refine WL.nil ?_
          refine QS.next ?_
          refine W.del (.kp (.dr (.dr (.dr (.dr (.dr (.dr (.dr (.dr (.dr (.dr (.dr (.dr (.dr (.dr (.dr (.dr (.dr (.dr (.dr (.dr (.dr (.dr (.dr (.dr (.dr (.dr (.dr (.dr (.dr (.dr (.dr (.dr (.dr (.dr .rf))))))))))))))))))))))))))))))))))) ?_
          refine W.cf (.t L0) ?_
          refine W.del (.dr .rf) ?_
          refine W.skip ?_
          refine QS.blkn ?_
          refine QS.next ?_
          refine W.region ?_
          refine WL.st (R.add (.t L1) .c (wi (by omega) (by omega))) rfl ?_
          refine WL.up (R.mv (.t L0)) U2 rfl ?_
          refine WL.nil ?_
          exact QS.at ⟨j + 1, by omega⟩ (by dsimp only; omega) (.dr (.dr (.kp rfl (.kp rfl (.kp rfl (.kp rfl (.kp rfl (.kp (by rw [mx_snoc hx]) .nil)))))))) (.kp rfl .nil) (fun _ h _ => h)
      ·
        refine W.del (.dr .rf) ?_
        refine W.exit ?_
        refine QS.thenx ?_
        refine QS.thenx ?_
        refine QS.blkx ?_
        refine QS.next ?_
        refine W.del (.dr (.dr .rf)) ?_
        refine W.seq ?_
        refine W.region ?_
        refine WL.st (R.mv (.t L3)) rfl ?_
        refine WL.st (R.fa fo_31_4 (.t L3)) rfl ?_
        refine WL.st (R.ld sc_3 (.t L0) H0 rfl) rfl ?_
        refine WL.st (R.eqi (.t L2) (.t L0)) rfl ?_
        refine WL.as (.t L0) U4 rfl ?_
        refine WL.nil ?_
        refine QS.next ?_
        refine W.del (.dr (.dr (.dr (.dr .rf)))) ?_
        refine W.ret ?_
        first
          | (exfalso; omega)
          | (skip; exact QS.fin (.inl rfl) rfl (.tmp L0 .nil) () (by first | rfl | exact congrArg Value.bool (decide_eq_true (by rw [List.take_of_length_le (by omega)]; exact mx_top q6))) (.dr .nil) (fun _ _ _ => trivial))

end Go.Proofs.YtpaecijilnfkhaaDoor
