/- Contracts: Decode. -/
import Derived.Test.YtpaecijilnfkhaaDoorI16
import Derived.Test.YtpaecijilnfkhaaDoorPq

namespace Go.Proofs.YtpaecijilnfkhaaDoor
open Go Go.Eng Go.RowKit
open Go.Proofs
theorem code_Decode {A : Option Addr} {b s : List UInt8} {c : Nat} (hc : b.length ≤ c) (hl : b.length ≤ 140737488355328) (hs : s.length ≤ 140737488355328) {C : Cx} (hb : Hb C C.w0 [] (fun w => RdB w A b)) :
    Sp Tryd.prog 24 [.slice A b.length c, str s] C (ι := {x : (Option Addr × Nat) × List (OpS × Option Addr × Nat) // x.2.map (·.1) = (decS b s).1}) (fun x => .tuple #[.slice x.1.1.1 x.1.2.length x.1.1.2, .int .i64 (decS b s).2.1, .int .i64 (decS b s).2.2]) (fun _ => []) (fun x w => RdF ocell 4 w x.1.1.1 x.1.2 ∧ ∀ q ∈ x.1.2, RdI w q.2.1 q.1.widths) := by
 refine Sp.enter (N := 70) (e := entryEnv [.slice A b.length c, str s] 0 13) Tryd.func24 rfl rfl (Nat.le_of_ble_eq_true rfl) (entry_ok (Nat.le_of_ble_eq_true rfl) (Nat.le_of_ble_eq_true rfl)) (entry_nd _ _) hb ?_
 show W _ _ _ _ _ [(0, .slice A b.length c), (1, str s), (2, undef), (3, undef), (4, undef), (5, undef), (6, undef), (7, undef), (8, undef), (9, undef), (10, undef), (11, undef), (12, undef)] _ _
 refine W.seq (W.region ?_)
 refine WL.as .c U4 rfl ?_
 refine WL.as .c U5 rfl ?_
 refine WL.as .c U6 rfl ?_
 refine WL.nil (QS.next (W.seq (W.region ?_)))
 refine WL.st (R.mv (.t L0)) rfl ?_
 refine WL.call gf_34 .f (.cons (.t L0) .nil) .nil (fun w hb => (code_InstrsF hc hl (hb.imp fun _ h => h))) rfl (fun x15 => ?_)
 obtain ⟨⟨⟨Al, cl⟩, M⟩, hM⟩ := x15
 have hg := (instrs_good b).2.1
 have hMl : M.length = (instrsS b).1.length := by rw [← hM, List.length_map]
 refine WL.st (R.mv (.t L0)) rfl ?_
 refine WL.st (R.ex (.t L0) .here) rfl ?_
 refine WL.st (R.ex (.t L1) (.skip .here)) rfl ?_
 refine WL.st (R.ex (.t L2) (.skip (.skip .here))) rfl ?_
 refine WL.as (.t L2) (E1 U3) rfl ?_
 refine WL.as (.t L1) (E1 U4) rfl ?_
 refine WL.as (.t L0) (E1 U5) rfl ?_
 refine WL.nil (QS.next (W.del (.dr (.dr (.dr (.dr (.dr (.dr .rf)))))) (W.seq (W.seq (W.region ?_)))))
 refine WL.st (R.mv (.t L9)) rfl ?_
 refine WL.st (R.nei (.t L0) .c) rfl ?_
 refine WL.nil (QS.next (W.del (.kp (.dr .rf)) ?_))
 refine W.cd (.t L0) (fun h0 => ?_) (fun h0 => ?_)
 ·
  refine W.del (.dr .rf) (W.seq (W.region ?_))
  refine WL.st (R.mv (.t L8)) rfl ?_
  refine WL.st (R.mv (.t (D1 L0))) rfl ?_
  refine WL.as .c U6 rfl ?_
  refine WL.as (.t L1) U7 rfl ?_
  refine WL.as (.t L0) U8 rfl ?_
  refine WL.nil (QS.next (W.del (.dr (.dr .rf)) (W.ret (QS.thenr ?_))))
  have hr : decS b s = ([], (instrsS b).2) := if_pos h0
  exact QS.fin (.inl rfl) rfl (.tmp L4 (.tmp L5 (.tmp L6 .nil))) ⟨((none, 0), []), by rw [hr]; rfl⟩ (by dsimp only; rw [hr]; rfl) .nil (fun w _ _ => ⟨RdF.nil ocell_length, fun q hq => absurd hq (by simp)⟩)
 ·
  refine W.del (.dr .rf) (W.skip (QS.next (W.seq (W.region ?_))))
  refine WL.as .c (E1 U0) rfl ?_
  refine WL.nil (QS.next (W.seq (W.seq (W.region ?_))))
  refine WL.st (R.mv (.t L7)) rfl ?_
  refine WL.st (R.lenl sl_65 (.t L0)) rfl ?_
  refine WL.st (R.mv .c) rfl ?_
  refine WL.nil (QS.next (W.block ?_))
  have h0d : decS b s = decF (instrsS b).1 s [] := if_neg h0
  refine W.nilrow 95 4 ?_
  refine W.loop (ι := {p : (Nat × List UInt8 × List (OpS × Option Addr × Nat)) × Option Addr × Nat // p.1.1 ≤ M.length ∧ decF ((instrsS b).1.drop p.1.1) p.1.2.1 (p.1.2.2.map (·.1)) = decS b s ∧ p.1.2.2.length ≤ p.1.1 ∧ p.1.2.1.length ≤ s.length}) (fun x => [(25, .int .i64 (x.1.1.1 : Nat)), (24, .int .i64 M.length), (23, .slice Al M.length cl), (1, str x.1.1.2.1), (4, .slice none 0 0), (5, .int .i64 0), (6, .int .i64 0), (10, .slice x.1.2.1 x.1.1.2.2.length x.1.2.2)]) (fun x => [.row (.slice x.1.2.1 x.1.1.2.2.length x.1.2.2) 95 4 x.1.1.2.2.length (flat ocell x.1.1.2.2)]) (fun x w => RdB w A b ∧ RdF icell 5 w Al M ∧ (∀ q ∈ M, RdI w q.2.1 q.1.widths) ∧ (∀ q ∈ x.1.1.2.2, RdI w q.2.1 q.1.widths)) (fun x => M.length - x.1.1.1) ⟨((0, s, []), none, 0), Nat.zero_le _, h0d.symm, Nat.le_refl _, Nat.le_refl _⟩ (.kp rfl (.kp rfl (.kp rfl (.dr (.kp rfl (.dr (.dr (.kp rfl (.kp rfl (.kp rfl (.dr (.dr (.dr (.kp rfl (.dr (.dr .nil)))))))))))))))) (.kp rfl .nil) (fun w h hd => ⟨h.1, h.2.1, h.2.2, (fun q hq => absurd hq (by simp))⟩) ?_
  intro x
  obtain ⟨⟨⟨j, t, N⟩, A10, c10⟩, hi1, hi2, hi3, hi4⟩ := x
  dsimp only at hi1 hi2 hi3 hi4
  show W _ _ _ _ _ [(25, .int .i64 (j : Nat)), (24, .int .i64 M.length), (23, .slice Al M.length cl), (1, str t), (4, .slice none 0 0), (5, .int .i64 0), (6, .int .i64 0), (10, .slice A10 N.length c10)] [.row (.slice A10 N.length c10) 95 4 N.length (flat ocell N)] (fun w => RdB w A b ∧ RdF icell 5 w Al M ∧ (∀ q ∈ M, RdI w q.2.1 q.1.widths) ∧ (∀ q ∈ N, RdI w q.2.1 q.1.widths))
  refine W.seq (W.region ?_)
  refine WL.st (R.lss (.t L0) (.t L1)) rfl ?_
  refine WL.nil (QS.next (W.seq ?_))
  refine W.cd (.t L0) (fun h1 => ?_) (fun h1 => ?_)
  ·
   refine W.del (.dr .rf) (W.skip (QS.next (W.seq (W.block (W.seq (W.region ?_))))))
   obtain ⟨x27, hx27⟩ : ∃ x, (M)[j]? = some x := ⟨_, List.getElem?_eq_getElem (by omega)⟩
   have hI27 : (instrsS b).1[j]? = some x27.1 := by rw [← hM]; exact map_get hx27
   have hL27 := instrs_L b x27.1 (List.mem_of_getElem? hI27)
   have hLk := hL27.kind
   have hLn := hL27.n
   have hLt := hL27.text
   have hLa := hL27.at_
   refine WL.st (R.ixF sl_65 (.t L2) rfl (.t L0) (l := M) (j := j) rfl (List.getElem?_eq_some_iff.1 hx27).1 (by decide) (fun w hb => hb.get.2.1)) rfl ?_
   refine WL.st (R.ldpF ag_59 (.t L0) (j := j) (k := 0) (fun w hb => hb.get.2.1) hx27 (by repeat constructor) (by decide)) rfl ?_
   refine WL.alloc z_59 rfl (fun g12 => ?_)
   refine WL.sto sz_59 (.t L0) (.t L1) rfl rfl rfl C0 (by repeat constructor) ?_
   refine WL.nil (QS.next (W.del (.kp (.dr (.dr .rf))) (W.seq (W.region ?_))))
   refine WL.st (R.fa fo_59_2 (.t L0)) rfl ?_
   refine WL.st (R.ld sc_57 (.t L0) H0 rfl) rfl ?_
   refine WL.nil (QS.next (W.del (.kp (.dr .rf)) (W.block (W.seq (W.region ?_)))))
   refine WL.st (R.eqi (.t L0) .c) rfl ?_
   refine WL.st (R.as (.t L0)) rfl ?_
   refine WL.nil (QS.next (W.del (.kp (.dr .rf)) ?_))
   refine W.cd (.t L0) (fun h2 => ?_) (fun h2 => ?_)
   ·
    refine W.del (.dr (.dr .rf)) (W.seq (W.region ?_))
    refine WL.st (R.mv (.t L4)) rfl ?_
    refine WL.st (R.nes (.t L0) .c) rfl ?_
    refine WL.nil (QS.next (W.del (.kp (.dr .rf)) ?_))
    refine W.cd (.t L0) (fun h3 => ?_) (fun h3 => ?_)
    ·
     refine W.del (.dr .rf) (W.seq ?_)
     refine W.draw 5 mixed (by kernel_rfl) ?_
     refine HD.st (R.fa fo_59_0 (.t L0)) rfl ?_
     refine HD.st (R.ld sc_3 (.t L0) H0 rfl) rfl ?_
     refine HD.up (R.as .c) U7 rfl ?_
     refine HD.up (R.as (.t L0)) U8 rfl ?_
     refine HD.up (R.as .c) U9 rfl ?_
     refine HD.nil (WL.nil (QS.next (W.del (.dr (.dr .rf)) (W.ret (QS.blkr (QS.blkr (QS.thenr (QS.thenr (QS.blkr (QS.thenr ?_))))))))))
     have hr := dec_halt hi2 hI27 (by omega) h3
     exact QS.fin (.inl rfl) rfl (.tmp L5 (.tmp L6 (.tmp L7 .nil))) ⟨((none, 0), []), by rw [hr]; rfl⟩ (by dsimp only; rw [hr]; rfl) (.dr (.dr .nil)) (fun w _ _ => ⟨RdF.nil ocell_length, fun q hq => absurd hq (by simp)⟩)
    ·
     refine W.del (.dr .rf) (W.skip (QS.blkn (QS.blkn (QS.next (W.region ?_)))))
     refine WL.st (R.add (.t L1) .c (wi (by omega) (by omega))) rfl ?_
     refine WL.up (R.mv (.t L0)) U2 rfl ?_
     refine WL.nil ?_
     exact QS.at ⟨((j + 1, t, N), A10, c10), by dsimp only; omega, dec_go hi2 hI27 (by omega) h3, by dsimp only; omega, hi4⟩ (show M.length - (j + 1) < M.length - j by omega) (.dr (.dr (.kp rfl (.kp rfl (.kp rfl (.kp rfl (.kp rfl (.kp rfl (.kp rfl (.kp rfl .nil)))))))))) (.dr (.kp rfl .nil)) (fun w h hd => ⟨h.1, h.2.1, h.2.2.1, h.2.2.2⟩)
   ·
    refine W.del (.dr .rf) (W.seq (W.region ?_))
    refine WL.st (R.eqi (.t L0) .c) rfl ?_
    refine WL.st (R.as (.t L0)) rfl ?_
    refine WL.nil (QS.next (W.del (.kp (.dr (.dr .rf))) ?_))
    refine W.cd (.t L0) (fun h4 => ?_) (fun h4 => ?_)
    ·
     refine W.del (.dr .rf) (W.seq (W.seq (W.region ?_)))
     refine WL.st (R.fa fo_59_3 (.t L0)) rfl ?_
     refine WL.st (R.ld sc_3 (.t L0) H0 rfl) rfl ?_
     refine WL.st (R.mv (.t L6)) rfl ?_
     refine WL.st (R.lens st_9 (.t L0)) rfl ?_
     refine WL.st (R.gtr (.t L2) (.t L0)) rfl ?_
     refine WL.nil (QS.next (W.del (.kp (.dr (.dr (.dr (.dr .rf))))) ?_))
     refine W.cd (.t L0) (fun h5 => ?_) (fun h5 => ?_)
     ·
      refine W.del (.dr .rf) (W.seq ?_)
      refine W.draw 5 mixed (by kernel_rfl) ?_
      refine HD.st (R.fa fo_59_0 (.t L0)) rfl ?_
      refine HD.st (R.ld sc_3 (.t L0) H0 rfl) rfl ?_
      refine HD.up (R.as .c) U7 rfl ?_
      refine HD.up (R.as (.t L0)) U8 rfl ?_
      refine HD.up (R.as .c) U9 rfl ?_
      refine HD.nil (WL.nil (QS.next (W.del (.dr (.dr .rf)) (W.ret (QS.thenr (QS.blkr (QS.blkr (QS.thenr (QS.thenr (QS.blkr (QS.thenr ?_)))))))))))
      have hr := dec_short hi2 hI27 (by omega) (by omega)
      exact QS.fin (.inl rfl) rfl (.tmp L5 (.tmp L6 (.tmp L7 .nil))) ⟨((none, 0), []), by rw [hr]; rfl⟩ (by dsimp only; rw [hr]; rfl) (.dr (.dr .nil)) (fun w _ _ => ⟨RdF.nil ocell_length, fun q hq => absurd hq (by simp)⟩)
     ·
      refine W.del (.dr .rf) (W.skip (QS.next (W.seq (W.region ?_))))
      refine WL.st (R.mv (.t L8)) rfl ?_
      refine WL.st (R.mv (.t L5)) rfl ?_
      refine WL.st (R.fa fo_59_3 (.t L2)) rfl ?_
      refine WL.st (R.ld sc_3 (.t L0) H0 rfl) rfl ?_
      obtain ⟨n, hn⟩ : ∃ n : Nat, x27.1.n = (n : Int) := ⟨x27.1.n.toNat, by omega⟩
      have hnt : x27.1.n.toNat = n := by omega
      refine WL.st (R.sls st_9 (.t L2) .no (.yes (.t L0) hn) (a := 0) (b := n) (Nat.zero_le _) (by omega) (r := t.take n) (by simp)) rfl ?_
      refine WL.st (R.bld (z := [.int .i64 0, .int .i64 0, str [], .slice none 0 0]) Tryd.underlying95 (by kernel_rfl) z_95 (.cons fo_95_0 fz_95_0 rfl .c rfl (by repeat constructor) (.cons fo_95_2 fz_95_2 rfl (.t L0) rfl (by repeat constructor) .nil))) rfl ?_
      refine WL.bs1 sl_47 z_95 rfl (by decide) (by decide) (.t L0) rfl rfl rfl (fun g62 => ?_)
      refine WL.app' ap_47 (.t L6) (.t L0) (fun _ _ => C2) (fun w hb => Rd.of_blk (hb.has H0) rfl) rfl (by unfold maxLen; omega) (by omega) rfl (fun A63 c63 => ?_)
      refine WL.as (.t L0) (E1 U6) rfl ?_
      refine WL.nil (QS.next (W.del (.dr (.dr (.dr (.dr (.dr (.dr (.dr (.dr .rf)))))))) (W.region ?_)))
      refine WL.st (R.mv (.t L4)) rfl ?_
      refine WL.st (R.fa fo_59_3 (.t L1)) rfl ?_
      refine WL.st (R.ld sc_3 (.t L0) H1 rfl) rfl ?_
      refine WL.st (R.sls st_9 (.t L2) (.yes (.t L0) hn) .no (a := n) (b := t.length) (by omega) (Nat.le_refl _) (r := t.drop n) (by exact List.take_of_length_le (by simp))) rfl ?_
      refine WL.as (.t L0) U8 rfl ?_
      refine WL.nil (QS.blkn (QS.blkn (QS.next (W.del (.dr (.dr (.dr (.dr .rf)))) (W.region ?_)))))
      refine WL.st (R.add (.t L1) .c (wi (by omega) (by omega))) rfl ?_
      refine WL.up (R.mv (.t L0)) U2 rfl ?_
      refine WL.nil ?_
      exact QS.at ⟨((j + 1, t.drop n, N ++ [(⟨1, 0, t.take n, []⟩, none, 0)]), A63, c63), by dsimp only; omega, by rw [List.map_append]; exact (by have := dec_text hi2 hI27 (by omega) (by omega); rw [hnt] at this; exact this), by simp; omega, by first | exact hi4 | (dsimp only; omega) | (simp; omega)⟩ (show M.length - (j + 1) < M.length - j by omega) (.dr (.dr (.kp rfl (.kp rfl (.kp rfl (.kp rfl (.kp rfl (.kp rfl (.kp rfl (.kp (by first | rfl | simp) .nil)))))))))) (.dr (.dr (.kp (chunk_row (by simp) (by rw [← flat_snoc]; first | done | rfl | simp)) .nil))) (fun w h hd => ⟨h.1, h.2.1, h.2.2.1, (fun q hq => by rcases List.mem_append.1 hq with hq | hq; exact h.2.2.2 q hq; rw [List.mem_singleton.1 hq]; exact Rd.nil)⟩)
    ·
     refine W.del (.dr .rf) (W.region ?_)
     refine WL.st (R.mv (.t L8)) rfl ?_
     refine WL.st (R.fa fo_59_2 (.t L1)) rfl ?_
     refine WL.st (R.ld sc_57 (.t L0) H0 rfl) rfl ?_
     refine WL.st (R.fa fo_59_3 (.t L3)) rfl ?_
     refine WL.st (R.ld sc_3 (.t L0) H0 rfl) rfl ?_
     refine WL.st (R.fa fo_59_4 (.t L5)) rfl ?_
     refine WL.st (R.ld sc_37 (.t L0) H0 rfl) rfl ?_
     refine WL.st (R.bld (z := [.int .i64 0, .int .i64 0, str [], .slice none 0 0]) Tryd.underlying95 (by kernel_rfl) z_95 (.cons fo_95_0 fz_95_0 rfl (.t L4) rfl (by repeat constructor) (.cons fo_95_1 fz_95_1 rfl (.t L2) rfl (by repeat constructor) (.cons fo_95_3 fz_95_3 rfl (.t L0) rfl (by repeat constructor) .nil)))) rfl ?_
     refine WL.bs1 sl_47 z_95 rfl (by decide) (by decide) (.t L0) rfl rfl rfl (fun g39 => ?_)
     refine WL.app' ap_47 (.t L8) (.t L0) (fun _ _ => C2) (fun w hb => Rd.of_blk (hb.has H0) rfl) rfl (by unfold maxLen; omega) (by omega) rfl (fun A40 c40 => ?_)
     refine WL.as (.t L0) (E1 U8) rfl ?_
     refine WL.nil (QS.blkn (QS.blkn (QS.next (W.del (.dr (.dr (.dr (.dr (.dr (.dr (.dr (.dr (.dr (.dr .rf)))))))))) (W.region ?_)))))
     refine WL.st (R.add (.t L1) .c (wi (by omega) (by omega))) rfl ?_
     refine WL.up (R.mv (.t L0)) U2 rfl ?_
     refine WL.nil ?_
     exact QS.at ⟨((j + 1, t, N ++ [(⟨x27.1.kind, x27.1.n, [], x27.1.widths⟩, x27.2)]), A40, c40), by dsimp only; omega, by rw [List.map_append]; exact dec_else hi2 hI27 (by omega) (by omega), by simp; omega, by first | exact hi4 | (dsimp only; omega) | (simp; omega)⟩ (show M.length - (j + 1) < M.length - j by omega) (.dr (.dr (.kp rfl (.kp rfl (.kp rfl (.kp rfl (.kp rfl (.kp rfl (.kp rfl (.kp (by first | rfl | simp) .nil)))))))))) (.dr (.dr (.kp (chunk_row (by simp) (by rw [← flat_snoc]; first | done | rfl | simp)) .nil))) (fun w h hd => ⟨h.1, h.2.1, h.2.2.1, (fun q hq => by rcases List.mem_append.1 hq with hq | hq; exact h.2.2.2 q hq; rw [List.mem_singleton.1 hq]; exact (h.2.2.1 x27 (List.mem_of_getElem? hx27)))⟩)
  ·
   refine W.del (.dr .rf) (W.exit (QS.thenx (QS.thenx (QS.blkx (QS.next (W.del (.dr (.dr (.dr .rf))) (W.seq (W.region ?_))))))))
   refine WL.st (R.mv (.t L4)) rfl ?_
   refine WL.as (.t L0) U2 rfl ?_
   refine WL.as .c U3 rfl ?_
   refine WL.as .c U4 rfl ?_
   refine WL.nil (QS.next (W.del (.dr .rf) (W.ret ?_)))
   have hr := dec_end hi2 (by omega)
   exact QS.fin (.inl rfl) rfl (.tmp L1 (.tmp L2 (.tmp L3 .nil))) ⟨((A10, c10), N), by rw [hr]⟩ (by dsimp only; rw [hr]; rfl) (.dr .nil) (fun w h hd => ⟨rowF ocell_length (by decide) hd.1 rfl rfl, h.2.2.2⟩)

end Go.Proofs.YtpaecijilnfkhaaDoor
