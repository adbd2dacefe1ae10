/- The law CheckChecks. -/
import Derived.Test.YtpaecijilnfkhaaDoorD17
import Derived.Test.YtpaecijilnfkhaaDoorA9

namespace Go.Proofs.YtpaecijilnfkhaaDoor
open Go Go.Eng Go.RowKit
theorem law17_targets {A B : Option Addr} {l m : List (Int × Int)} {c1 c2 : Nat} (hl : l.length ≤ 140737488355328) {C : Cx} (hb : Hb C C.w0 [] (fun w => RdF tcell 2 w A l ∧ RdF tcell 2 w B m)) :
    Ret Tryd.prog 21 [.slice A l.length c1, .slice B m.length c2] C (.bool (decide (l = m))) := by
 refine Sp.enter (N := 26) (e := entryEnv [.slice A l.length c1, .slice B m.length c2] 0 6) Tryd.func21 rfl rfl (Nat.le_of_ble_eq_true rfl) (entry_ok (Nat.le_of_ble_eq_true rfl) (Nat.le_of_ble_eq_true rfl)) (entry_nd _ _) hb ?_
 show W _ _ _ _ _ [(0, .slice A l.length c1), (1, .slice B m.length c2), (2, undef), (3, undef), (4, undef), (5, undef)] _ _
 refine W.seq (W.region ?_)
 refine WL.as .c U4 rfl ?_
 refine WL.nil (QS.next (W.seq (W.seq (W.region ?_))))
 refine WL.st (R.mv (.t L0)) rfl ?_
 refine WL.st (R.lenl sl_44 (.t L0)) rfl ?_
 refine WL.st (R.mv (.t L3)) rfl ?_
 refine WL.st (R.lenl sl_44 (.t L0)) rfl ?_
 refine WL.st (R.nei (.t L2) (.t L0)) rfl ?_
 refine WL.nil (QS.next (W.del (.kp (.dr (.dr (.dr (.dr .rf))))) ?_))
 refine W.cd (.t L0) (fun h0 => ?_) (fun h0 => ?_)
 ·
  refine W.del (.dr .rf) (W.seq (W.region ?_))
  refine WL.as .c U4 rfl ?_
  refine WL.nil (QS.next (W.ret (QS.thenr ?_)))
  exact QS.fin (.inl rfl) rfl (.tmp L4 .nil) () (congrArg Value.bool (lst_len (by omega)).symm) .nil (fun _ _ _ => trivial)
 ·
  refine W.del (.dr .rf) (W.skip (QS.next (W.seq (W.seq (W.region ?_)))))
  refine WL.st (R.mv (.t L0)) rfl ?_
  refine WL.st (R.lenl sl_44 (.t L0)) rfl ?_
  refine WL.st (R.mv .c) rfl ?_
  refine WL.nil (QS.next (W.del (.kp (.kp (.dr .rf))) (W.block ?_)))
  refine W.loop (ι := {j : Nat // j ≤ l.length ∧ l.take j = m.take j}) (fun x => [(13, .int .i64 x.1), (12, .int .i64 l.length), (0, .slice A l.length c1), (1, .slice B m.length c2), (4, .bool false)]) (fun x => []) (fun x w => RdF tcell 2 w A l ∧ RdF tcell 2 w B m) (fun x => l.length - x.1) ⟨0, Nat.zero_le _, rfl⟩ (.kp rfl (.kp rfl (.kp rfl (.kp rfl (.dr (.dr (.kp rfl (.dr .nil)))))))) .nil (fun w h hd => ⟨h.1, h.2⟩) ?_
  intro x
  obtain ⟨j, hj1, hj2⟩ := x
  show W _ _ _ _ _ [(13, .int .i64 j), (12, .int .i64 l.length), (0, .slice A l.length c1), (1, .slice B m.length c2), (4, .bool false)] [] (fun w => RdF tcell 2 w A l ∧ RdF tcell 2 w B m)
  refine W.seq (W.region ?_)
  refine WL.st (R.lss (.t L0) (.t L1)) rfl ?_
  refine WL.nil (QS.next (W.seq ?_))
  refine W.cd (.t L0) (fun h1 => ?_) (fun h1 => ?_)
  ·
   refine W.del (.dr .rf) (W.skip (QS.next (W.seq (W.block (W.seq (W.region ?_))))))
   refine WL.st (R.mv (.t L0)) rfl ?_
   refine WL.st (R.as (.t L0)) rfl ?_
   refine WL.nil (QS.next (W.del (.kp (.dr .rf)) (W.seq ?_)))
   refine W.draw 9 mixed (by kernel_rfl) ?_
   refine HD.st (R.mv (.t L3)) rfl ?_
   refine HD.st (R.mv (.t L1)) rfl ?_
   obtain ⟨x18, hx18⟩ : ∃ x, (l)[j]? = some x := ⟨_, List.getElem?_eq_getElem (by omega)⟩
   refine HD.st (R.ixF sl_44 (.t L1) rfl (.t L0) (l := l) (j := j) rfl (List.getElem?_eq_some_iff.1 hx18).1 (by decide) (fun w hb => hb.get.1)) rfl ?_
   refine HD.st (R.ldpF ag_93 (.t L0) (j := j) (k := 0) (fun w hb => hb.get.1) hx18 (by repeat constructor) (by decide)) rfl ?_
   refine HD.st (R.mv (.t L8)) rfl ?_
   refine HD.st (R.mv (.t L5)) rfl ?_
   obtain ⟨x22, hx22⟩ : ∃ x, (m)[j]? = some x := ⟨_, List.getElem?_eq_getElem (by omega)⟩
   refine HD.st (R.ixF sl_44 (.t L1) rfl (.t L0) (l := m) (j := j) rfl (List.getElem?_eq_some_iff.1 hx22).1 (by decide) (fun w hb => hb.get.2)) rfl ?_
   refine HD.st (R.ldpF ag_93 (.t L0) (j := j) (k := 0) (fun w hb => hb.get.2) hx22 (by repeat constructor) (by decide)) rfl ?_
   refine HD.st (R.nest Tryd.underlying93 (by kernel_rfl) (by kernel_rfl) (.t L4) (.t L0) (.int (by decide) Tryd.underlying3 rfl rfl (.int (by decide) Tryd.underlying3 rfl rfl .nil))) rfl ?_
   refine HD.nil (WL.nil (QS.next (W.del (.kp (.dr (.dr (.dr (.dr (.dr (.dr (.dr (.dr .rf))))))))) ?_)))
   refine W.cd (.t L0) (fun h2 => ?_) (fun h2 => ?_)
   ·
    refine W.del (.dr .rf) (W.seq (W.region ?_))
    refine WL.as .c U5 rfl ?_
    refine WL.nil (QS.next (W.ret (QS.blkr (QS.thenr (QS.thenr (QS.blkr (QS.thenr ?_)))))))
    exact QS.fin (.inl rfl) rfl (.tmp L5 .nil) () (congrArg Value.bool (lst_ne hx18 hx22 (fun h => h2 (by rw [h]; exact ⟨rfl, rfl, trivial⟩))).symm) .nil (fun _ _ _ => trivial)
   ·
    refine W.del (.dr .rf) (W.skip (QS.blkn (QS.next (W.region ?_))))
    refine WL.st (R.add (.t L1) .c (wi (by omega) (by omega))) rfl ?_
    refine WL.up (R.mv (.t L0)) U2 rfl ?_
    refine WL.nil ?_
    exact QS.at ⟨j + 1, by omega, lst_snoc hj2 hx18 hx22 (by have h := Classical.not_not.1 h2; exact Prod.ext h.1 h.2.1)⟩ (by dsimp only; omega) (.dr (.dr (.kp rfl (.kp rfl (.kp rfl (.kp rfl (.kp rfl .nil))))))) .nil (fun w h hd => ⟨h.1, h.2⟩)
  ·
   refine W.del (.dr .rf) (W.exit (QS.thenx (QS.thenx (QS.blkx (QS.next (W.del (.dr (.dr .rf)) (W.seq (W.region ?_))))))))
   refine WL.as .c U2 rfl ?_
   refine WL.nil (QS.next (W.ret ?_))
   exact QS.fin (.inl rfl) rfl (.tmp L2 .nil) () (congrArg Value.bool (lst_eq hj2 (by omega) (by omega)).symm) .nil (fun _ _ _ => trivial)

theorem runF_dsl : ∀ (l : List InstrS) (ni nb : Int) (k : WalkS) (nl np ns : Int) (ds : List Int), (runF ni nb l k nl np ns ds).ds.length ≤ ds.length + l.length
  | [], _, _, _, _, _, _, ds => Nat.le_refl _
  | i :: r, ni, nb, k, nl, np, ns, ds => by
    unfold runF
    split
    · simp
    · have := runF_dsl r ni nb (stepS k i).2 (if i.kind = 3 ∨ i.kind = 4 then nl + 1 else nl) (if i.kind = 8 then np + 1 else np) (max ns (stepS k i).2.depth) (ds ++ [(k.depth : Int)])
      simp at this ⊢
      omega
theorem meas_len {b s : List UInt8} {sty tp : Int} : (measS (runS b s sty tp)).ds.length ≤ 140737488355328 := by
  have h : (runS b s sty tp).ds.length ≤ 140737488355328 := by
    unfold runS
    repeat' split
    all_goals first
      | exact Nat.zero_le _
      | (have := runF_dsl (instrsS b).1 (((instrsS b).1.length : Int) - 1) s.length (walk0 s sty tp) 0 0 0 []; have h2 := (instrs_good b).2.1; simp at this; omega)
  unfold measS
  split
  · exact Nat.zero_le _
  · exact h
theorem linksF_len : ∀ (f : Nat) (b : List UInt8) (k : Nat), (linksF f b k).length ≤ f
  | 0, b, k => Nat.le_refl _
  | f + 1, b, k => by
    unfold linksF
    repeat' split
    all_goals first
      | exact Nat.zero_le _
      | (have := linksF_len f b (k + (nextS b k).1.long.toNat); simp; omega)

theorem links_len' (b : List UInt8) (h : b.length ≤ 1048576) : (linksS b).length ≤ 140737488355328 := by
  have : (linksS b).length ≤ b.length + 1 := linksF_len _ _ _
  omega

theorem law17_CheckChecks {A : Option Addr} {b s : List UInt8} {c : Nat} {sty tp : Int} (hc : b.length ≤ c) (hl : b.length ≤ 1048576) (hs : s.length ≤ 140737488355328) {C : Cx} (hb : Hb C C.w0 [] (fun w => RdB w A b ∧ Lib.Utf8Tabs 4 5 w)) :
    Ret Tryd.prog 3 [.slice A b.length c, str s, .int .i64 sty, .int .i64 tp] C (.bool true) := by
 refine Sp.enter (N := 103) (e := entryEnv [.slice A b.length c, str s, .int .i64 sty, .int .i64 tp] 0 17) Tryd.func3 rfl rfl (Nat.le_of_ble_eq_true rfl) (entry_ok (Nat.le_of_ble_eq_true rfl) (Nat.le_of_ble_eq_true rfl)) (entry_nd _ _) hb ?_
 show W _ _ _ _ _ [(0, .slice A b.length c), (1, str s), (2, .int .i64 sty), (3, .int .i64 tp), (4, undef), (5, undef), (6, undef), (7, undef), (8, undef), (9, undef), (10, undef), (11, undef), (12, undef), (13, undef), (14, undef), (15, undef), (16, undef)] _ _
 refine W.seq (W.region ?_)
 refine WL.as .c U8 rfl ?_
 refine WL.nil (QS.next (W.seq (W.seq (W.region ?_))))
 refine WL.callr gf_11 .f .nil (fun w hb => (law17_awake (hb.imp fun _ h => h.2))) rfl ?_
 refine WL.st (R.notb (.t L0)) rfl ?_
 refine WL.nil (QS.next (W.del (.kp (.dr .rf)) (W.cf (.t L0) (W.del (.dr .rf) (W.skip (QS.next (W.seq (W.region ?_))))))))
 refine WL.st (R.mv (.t L0)) rfl ?_
 refine WL.call gf_13 .f (.cons (.t L0) .nil) .nil (fun w hb => (law_twin (by omega) (hb.imp fun _ h => h.1))) rfl (fun x21 => ?_)
 obtain ⟨⟨A21, c21⟩, hc21⟩ := x21
 refine WL.st (R.mv (.t L3)) rfl ?_
 refine WL.st (R.mv (.t L5)) rfl ?_
 refine WL.st (R.mv (.t L7)) rfl ?_
 refine WL.callr gf_12 .f (.cons (.t L3) (.cons (.t L2) (.cons (.t L1) (.cons (.t L0) .nil)))) (fun w hb => (check_Check hc21 (by omega) hs (hb.imp fun _ h => ⟨h.2, h.1.2⟩))) rfl ?_
 refine WL.st (R.mv (.t L0)) rfl ?_
 refine WL.st (R.ex (.t L0) .here) rfl ?_
 refine WL.st (R.ex (.t L1) (.skip .here)) rfl ?_
 refine WL.as (.t L1) (E1 U8) rfl ?_
 refine WL.as (.t L0) (E1 U9) rfl ?_
 refine WL.nil (QS.next (W.del (.dr (.dr (.dr (.dr (.dr (.dr (.dr (.dr (.dr .rf))))))))) (W.seq (W.region ?_))))
 refine WL.st (R.mv (.t L0)) rfl ?_
 refine WL.st (R.mv (.t L2)) rfl ?_
 refine WL.st (R.mv (.t L4)) rfl ?_
 refine WL.st (R.mv (.t L6)) rfl ?_
 refine WL.callr gf_14 .f (.cons (.t L3) (.cons (.t L2) (.cons (.t L1) (.cons (.t L0) .nil)))) (fun w hb => (ref17_Check hc (by omega) hs (hb.imp fun _ h => h.1.1))) rfl ?_
 refine WL.st (R.mv (.t L0)) rfl ?_
 refine WL.st (R.ex (.t L0) .here) rfl ?_
 refine WL.st (R.ex (.t L1) (.skip .here)) rfl ?_
 refine WL.as (.t L1) (E1 U9) rfl ?_
 refine WL.as (.t L0) (E1 (E1 U0)) rfl ?_
 refine WL.nil (QS.next (W.del (.dr (.dr (.dr (.dr (.dr (.dr (.dr (.dr .rf)))))))) (W.seq (W.seq (W.region ?_)))))
 refine WL.st (R.mv (.t L9)) rfl ?_
 refine WL.st (R.mv (.t (D1 L2))) rfl ?_
 refine WL.st (R.nei (.t L1) (.t L0)) rfl ?_
 refine WL.st (R.mv (.t L0)) rfl ?_
 refine WL.rw L0 (v' := .bool false) (congrArg Value.bool (decide_eq_false (by simp))) U0 ?_
 refine WL.gy rfl L0 (R.mv (.t (D1 L4))) rfl ?_
 refine WL.gy rfl L1 (R.mv (.t (D1 L7))) rfl ?_
 refine WL.gy rfl L2 (R.nei (.t L1) (.t L0)) rfl ?_
 refine WL.st (R.pkf (.t L3) (.t L0)) rfl ?_
 refine WL.nil (QS.next (W.del (.kp (.dr (.dr (.dr (.dr (.dr (.dr (.dr .rf)))))))) ?_))
 refine W.cdf (.t L0) (by simp) ?_
 refine W.del (.dr .rf) (W.skip (QS.next (W.seq (W.region ?_))))
 refine WL.st (R.mv (.t L0)) rfl ?_
 refine WL.call gf_13 .f (.cons (.t L0) .nil) .nil (fun w hb => (law_twin (by omega) (hb.imp fun _ h => h.1.1))) rfl (fun x46 => ?_)
 obtain ⟨⟨A46, c46⟩, hc46⟩ := x46
 refine WL.st (R.mv (.t L3)) rfl ?_
 refine WL.st (R.mv (.t L5)) rfl ?_
 refine WL.st (R.mv (.t L7)) rfl ?_
 refine WL.callr gf_15 .f (.cons (.t L3) (.cons (.t L2) (.cons (.t L1) (.cons (.t L0) .nil)))) (fun w hb => (check_Measure hc46 (by omega) hs (hb.imp fun _ h => ⟨h.2, h.1.1.2⟩))) rfl ?_
 refine WL.st (R.mv (.t L0)) rfl ?_
 refine WL.st (R.ex (.t L0) .here) rfl ?_
 refine WL.st (R.ex (.t L1) (.skip .here)) rfl ?_
 refine WL.allocu z_31 (fun _ => (E1 (E1 U2))) rfl (fun g13 => ?_)
 refine WL.sto sz_31 (.t (D1 (D1 L2))) (.t L1) rfl rfl rfl C0 (by repeat constructor) ?_
 refine WL.as (.t L0) (E1 U9) rfl ?_
 refine WL.nil (QS.next (W.del (.dr (.dr (.dr (.dr (.dr (.dr (.dr (.dr (.dr .rf))))))))) (W.seq (W.region ?_))))
 refine WL.st (R.mv (.t L0)) rfl ?_
 refine WL.st (R.mv (.t L2)) rfl ?_
 refine WL.st (R.mv (.t L4)) rfl ?_
 refine WL.st (R.mv (.t L6)) rfl ?_
 refine WL.callr gf_16 .f (.cons (.t L3) (.cons (.t L2) (.cons (.t L1) (.cons (.t L0) .nil)))) (fun w hb => (ref17_Measure hc (by omega) hs (hb.imp fun _ h => h.1.1.1))) rfl ?_
 refine WL.st (R.mv (.t L0)) rfl ?_
 refine WL.st (R.ex (.t L0) .here) rfl ?_
 refine WL.st (R.ex (.t L1) (.skip .here)) rfl ?_
 refine WL.allocu z_31 (fun _ => (E1 (E1 U2))) rfl (fun g14 => ?_)
 refine WL.sto sz_31 (.t (D1 (D1 L2))) (.t L1) rfl rfl rfl C0 (by repeat constructor) ?_
 refine WL.as (.t L0) (E1 (E1 U0)) rfl ?_
 refine WL.nil (QS.next (W.del (.dr (.dr (.dr (.dr (.dr (.dr (.dr (.dr .rf)))))))) (W.seq (W.seq (W.region ?_)))))
 refine WL.st (R.lda ag_31 (.t (D1 L3)) H1 (by repeat constructor)) rfl ?_
 refine WL.st (R.lda ag_31 (.t (D1 L5)) H0 (by repeat constructor)) rfl ?_
 refine WL.callr gf_17 .f (.cons (.t L1) (.cons (.t L0) .nil)) (fun w hb => (law17_need (hb.imp fun _ _ => trivial))) rfl ?_
 refine WL.st (R.not (.t L0)) rfl ?_
 refine WL.st (R.mv (.t L0)) rfl ?_
 refine WL.rw L0 (v' := .bool false) (congrArg Value.bool (decide_eq_false (by simp))) U0 ?_
 refine WL.gy rfl L0 (R.mv (.t (D1 L5))) rfl ?_
 refine WL.gy rfl L1 (R.mv (.t (D1 L8))) rfl ?_
 refine WL.gy rfl L2 (R.nei (.t L1) (.t L0)) rfl ?_
 refine WL.st (R.pkf (.t L3) (.t L0)) rfl ?_
 refine WL.nil (QS.next (W.del (.kp (.dr (.dr (.dr (.dr (.dr (.dr (.dr (.dr .rf))))))))) ?_))
 refine W.cdf (.t L0) (by simp) ?_
 refine W.del (.dr .rf) (W.skip (QS.next (W.seq (W.region ?_))))
 refine WL.st (R.mv (.t L0)) rfl ?_
 refine WL.call gf_13 .f (.cons (.t L0) .nil) (.dr (.dr .nil)) (fun w hb => (law_twin (by omega) (hb.imp fun _ h => h.1.1.1))) rfl (fun x72 => ?_)
 obtain ⟨⟨A72, c72⟩, hc72⟩ := x72
 refine WL.st (R.mv (.t L3)) rfl ?_
 refine WL.st (R.mv (.t L5)) rfl ?_
 refine WL.st (R.mv (.t L7)) rfl ?_
 refine WL.call gf_18 .f (.cons (.t L3) (.cons (.t L2) (.cons (.t L1) (.cons (.t L0) .nil)))) (.dr (.dr .nil)) (fun w hb => (check_Depths hc72 (by omega) hs (hb.imp fun _ h => ⟨h.2, h.1.1.1.2⟩))) rfl (fun x76 => ?_)
 refine WL.st (R.mv (.t L0)) rfl ?_
 refine WL.st (R.ex (.t L0) .here) rfl ?_
 refine WL.st (R.ex (.t L1) (.skip .here)) rfl ?_
 refine WL.as (.t L1) (E1 (E1 U4)) rfl ?_
 refine WL.as (.t L0) (E1 U9) rfl ?_
 refine WL.nil (QS.next (W.del (.dr (.dr (.dr (.dr (.dr (.dr (.dr (.dr (.dr .rf))))))))) (W.seq (W.region ?_))))
 refine WL.st (R.mv (.t L0)) rfl ?_
 refine WL.st (R.mv (.t L2)) rfl ?_
 refine WL.st (R.mv (.t L4)) rfl ?_
 refine WL.st (R.mv (.t L6)) rfl ?_
 refine WL.call gf_19 .f (.cons (.t L3) (.cons (.t L2) (.cons (.t L1) (.cons (.t L0) .nil)))) (.dr (.dr .nil)) (fun w hb => (ref17_Depths hc (by omega) hs (hb.imp fun _ h => h.1.1.1.1.1))) rfl (fun x84 => ?_)
 refine WL.st (R.mv (.t L0)) rfl ?_
 refine WL.st (R.ex (.t L0) .here) rfl ?_
 refine WL.st (R.ex (.t L1) (.skip .here)) rfl ?_
 refine WL.as (.t L1) (E1 (E1 U4)) rfl ?_
 refine WL.as (.t L0) (E1 (E1 U0)) rfl ?_
 refine WL.nil (QS.next (W.del (.dr (.dr (.dr (.dr (.dr (.dr (.dr (.dr .rf)))))))) (W.seq (W.region ?_))))
 refine WL.st (R.mv (.t (D1 L5))) rfl ?_
 refine WL.st (R.mv (.t (D1 L7))) rfl ?_
 refine WL.callr gf_20 .f (.cons (.t L1) (.cons (.t L0) .nil)) (fun w hb => (ref09_Ints meas_len (hb.imp fun _ h => ⟨h.1.2, h.2⟩))) rfl ?_
 refine WL.st (R.mv (.t L0)) rfl ?_
 refine WL.rw L0 (v' := .bool true) (congrArg Value.bool (decide_eq_true rfl)) U0 ?_
 refine WL.gy rfl L0 (R.mv (.t (D1 L4))) rfl ?_
 refine WL.gy rfl L1 (R.mv (.t (D1 L7))) rfl ?_
 refine WL.gy rfl L2 (R.eqi (.t L1) (.t L0)) rfl ?_
 refine WL.st (R.pkt (.t L3) (.t L0)) rfl ?_
 refine WL.st (R.mv (.t L0)) rfl ?_
 refine WL.rw L0 (v' := .bool true) (congrArg Value.bool (decide_eq_true rfl)) U0 ?_
 refine WL.gy rfl L0 (R.mv (.t L9)) rfl ?_
 refine WL.gyw rfl L1 ?_
 refine WL.call gf_13 .f (.cons (.t L0) .nil) (.dr (.dr .nil)) (fun w hb => (law_twin (by omega) (hb.imp fun _ h => h.1.1.1.1.1.1))) rfl (fun x97 => ?_)
 obtain ⟨⟨A97, c97⟩, hc97⟩ := x97
 refine WL.gyw rfl L2 ?_
 refine WL.call gf_22 .f (.cons (.t L0) .nil) (.dr (.dr .nil)) (fun w hb => (check_Links hc97 (by omega) (hb.imp fun _ h => h.2))) rfl (fun x98 => ?_)
 refine WL.gy rfl L3 (R.mv (.t (D1 L2))) rfl ?_
 refine WL.gyw rfl L4 ?_
 refine WL.call gf_23 .f (.cons (.t L0) .nil) (.dr (.dr .nil)) (fun w hb => (ref17_Links hc (by omega) (hb.imp fun _ h => h.1.1.1.1.1.1.1.1))) rfl (fun x100 => ?_)
 refine WL.gyw rfl L5 ?_
 refine WL.callr gf_21 .f (.cons (.t L2) (.cons (.t L0) .nil)) (fun w hb => (law17_targets (links_len' b hl) (hb.imp fun _ h => ⟨⟨fun _ => rfl, h.1.2⟩, ⟨fun _ => rfl, h.2⟩⟩))) rfl ?_
 refine WL.st (R.pkt (.t L6) (.t L0)) rfl ?_
 refine WL.as (.t L0) (E1 (E1 U4)) rfl ?_
 refine WL.nil (QS.next (W.del (.dr (.dr (.dr (.dr (.dr (.dr (.dr (.dr (.dr (.dr (.dr (.dr (.dr (.dr (.dr (.dr .rf)))))))))))))))) (W.ret ?_)))
 exact QS.fin (.inl rfl) rfl (.tmp L8 .nil) () (congrArg Value.bool (decide_eq_true rfl)) (.dr (.dr .nil)) (fun _ _ _ => trivial)

end Go.Proofs.YtpaecijilnfkhaaDoor
