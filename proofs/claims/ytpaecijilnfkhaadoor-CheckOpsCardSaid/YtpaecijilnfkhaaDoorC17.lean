/- Contracts: characters, operands. -/
import Derived.Test.YtpaecijilnfkhaaDoorM17
import Derived.Test.YtpaecijilnfkhaaDoorI16
import Derived.Test.YtpaecijilnfkhaaDoorPc
import Derived.Test.YtpaecijilnfkhaaDoorPn
import Derived.Test.YtpaecijilnfkhaaDoorA5

namespace Go.Proofs.YtpaecijilnfkhaaDoor
open Go Go.Eng Go.RowKit
theorem ref02_Control {r : Int} (h : 0 ≤ r) {C : Cx} (hb : Hb C C.w0 [] (fun _ => True)) :
    Ret Tryd.prog 94 [.int .i32 r] C (.bool (ctrlS r)) := by
 refine Sp.enter (N := 17) (e := entryEnv [.int .i32 r] 0 3) Tryd.func94 rfl rfl (Nat.le_of_ble_eq_true rfl) (entry_ok (Nat.le_of_ble_eq_true rfl) (Nat.le_of_ble_eq_true rfl)) (entry_nd _ _) hb ?_
 show W _ _ _ _ _ [(0, .int .i32 r), (1, undef), (2, undef)] _ _
 refine W.seq (W.region ?_)
 refine WL.as .c U2 rfl ?_
 refine WL.nil (QS.next (W.seq (W.region ?_)))
 refine WL.st (R.mv (.t L0)) rfl ?_
 refine WL.st (R.geq (.t L0) .c) rfl ?_
 refine WL.st (R.mv (.t L0)) rfl ?_
 refine WL.cd L0 U0 U0 (fun hg5 => ?_) (fun hg5 => ?_)
 ·
  refine WL.gy rfl L0 (R.mv (.t L3)) rfl ?_
  refine WL.gy rfl L1 (R.lss (.t L0) .c) rfl ?_
  refine WL.st (R.pkt (.t L2) (.t L0)) rfl ?_
  refine WL.st (R.mv (.t L0)) rfl ?_
  refine WL.cd L0 U0 U0 (fun hg9 => ?_) (fun hg9 => ?_)
  ·
   refine WL.gn rfl L0 rfl ?_
   refine WL.gn rfl L1 rfl ?_
   refine WL.gn rfl L2 rfl ?_
   refine WL.gu rfl L0 rfl ?_
   refine WL.gu rfl L1 rfl ?_
   refine WL.gn rfl L5 rfl ?_
   refine WL.st (R.pkt (.t L6) .c) rfl ?_
   refine WL.as (.t L0) (E1 U6) rfl ?_
   refine WL.nil (QS.next (W.del (.dr (.dr (.dr (.dr (.dr (.dr (.dr (.dr (.dr (.dr (.dr (.dr (.dr (.dr .rf)))))))))))))) (W.ret ?_)))
   exact QS.fin (.inl rfl) rfl (.tmp L2 .nil) () (congrArg Value.bool (by unfold ctrlS; first | exact (decide_eq_true (by omega)).symm | exact (decide_eq_false (by omega)).symm | exact decide_eq_decide.2 (by omega))) .nil (fun _ _ _ => trivial)
  ·
   refine WL.gy rfl L0 (R.mv (.t L7)) rfl ?_
   refine WL.gy rfl L1 (R.geq (.t L0) .c) rfl ?_
   refine WL.gy rfl L2 (R.mv (.t L0)) rfl ?_
   refine WL.cd L0 U0 U0 (fun hg12 => ?_) (fun hg12 => ?_)
   ·
    refine WL.gy rfl L0 (R.mv (.t (D1 L0))) rfl ?_
    refine WL.gy rfl L1 (R.leq (.t L0) .c) rfl ?_
    refine WL.gy rfl L5 (R.pkt (.t L2) (.t L0)) rfl ?_
    refine WL.st (R.pkf (.t L6) (.t L0)) rfl ?_
    refine WL.as (.t L0) (E1 U6) rfl ?_
    refine WL.nil (QS.next (W.del (.dr (.dr (.dr (.dr (.dr (.dr (.dr (.dr (.dr (.dr (.dr (.dr (.dr (.dr .rf)))))))))))))) (W.ret ?_)))
    exact QS.fin (.inl rfl) rfl (.tmp L2 .nil) () (congrArg Value.bool (by unfold ctrlS; first | exact (decide_eq_true (by omega)).symm | exact (decide_eq_false (by omega)).symm | exact decide_eq_decide.2 (by omega))) .nil (fun _ _ _ => trivial)
   ·
    refine WL.gn rfl L0 rfl ?_
    refine WL.gn rfl L1 rfl ?_
    refine WL.gy rfl L5 (R.pkf (.t L2) .c) rfl ?_
    refine WL.st (R.pkf (.t L6) (.t L0)) rfl ?_
    refine WL.as (.t L0) (E1 U6) rfl ?_
    refine WL.nil (QS.next (W.del (.dr (.dr (.dr (.dr (.dr (.dr (.dr (.dr (.dr (.dr (.dr (.dr (.dr (.dr .rf)))))))))))))) (W.ret ?_)))
    exact QS.fin (.inl rfl) rfl (.tmp L2 .nil) () (congrArg Value.bool (by unfold ctrlS; first | exact (decide_eq_true (by omega)).symm | exact (decide_eq_false (by omega)).symm | exact decide_eq_decide.2 (by omega))) .nil (fun _ _ _ => trivial)
 ·
  refine WL.gn rfl L0 rfl ?_
  refine WL.gn rfl L1 rfl ?_
  refine WL.st (R.pkf (.t L2) .c) rfl ?_
  refine WL.st (R.mv (.t L0)) rfl ?_
  refine WL.gy rfl L0 (R.mv (.t L7)) rfl ?_
  refine WL.gy rfl L1 (R.geq (.t L0) .c) rfl ?_
  refine WL.gy rfl L2 (R.mv (.t L0)) rfl ?_
  refine WL.cd L0 U0 U0 (fun hg12 => ?_) (fun hg12 => ?_)
  ·
   refine WL.gy rfl L0 (R.mv (.t (D1 L0))) rfl ?_
   refine WL.gy rfl L1 (R.leq (.t L0) .c) rfl ?_
   refine WL.gy rfl L5 (R.pkt (.t L2) (.t L0)) rfl ?_
   refine WL.st (R.pkf (.t L6) (.t L0)) rfl ?_
   refine WL.as (.t L0) (E1 U6) rfl ?_
   refine WL.nil (QS.next (W.del (.dr (.dr (.dr (.dr (.dr (.dr (.dr (.dr (.dr (.dr (.dr (.dr (.dr (.dr .rf)))))))))))))) (W.ret ?_)))
   exact QS.fin (.inl rfl) rfl (.tmp L2 .nil) () (congrArg Value.bool (by unfold ctrlS; first | exact (decide_eq_true (by omega)).symm | exact (decide_eq_false (by omega)).symm | exact decide_eq_decide.2 (by omega))) .nil (fun _ _ _ => trivial)
  ·
   refine WL.gn rfl L0 rfl ?_
   refine WL.gn rfl L1 rfl ?_
   refine WL.gy rfl L5 (R.pkf (.t L2) .c) rfl ?_
   refine WL.st (R.pkf (.t L6) (.t L0)) rfl ?_
   refine WL.as (.t L0) (E1 U6) rfl ?_
   refine WL.nil (QS.next (W.del (.dr (.dr (.dr (.dr (.dr (.dr (.dr (.dr (.dr (.dr (.dr (.dr (.dr (.dr .rf)))))))))))))) (W.ret ?_)))
   exact QS.fin (.inl rfl) rfl (.tmp L2 .nil) () (congrArg Value.bool (by unfold ctrlS; first | exact (decide_eq_true (by omega)).symm | exact (decide_eq_false (by omega)).symm | exact decide_eq_decide.2 (by omega))) .nil (fun _ _ _ => trivial)

set_option maxHeartbeats 1000000 in
theorem ref02_Chars {l : List UInt8} (hl : l.length ≤ 4000000000000) {C : Cx} (hb : Hb C C.w0 [] (fun _ => True)) :
    Sp Tryd.prog 93 [str l] C (ι := Option Addr × Nat) (fun x => .slice x.1 (charsS l).length x.2) (fun _ => []) (fun x w => RdF ch4 4 w x.1 (charsS l)) := by
 refine Sp.enter (N := 69) (e := entryEnv [str l] 0 8) Tryd.func93 rfl rfl (Nat.le_of_ble_eq_true rfl) (entry_ok (Nat.le_of_ble_eq_true rfl) (Nat.le_of_ble_eq_true rfl)) (entry_nd _ _) hb ?_
 show W _ _ _ _ _ [(0, str l), (1, undef), (2, undef), (3, undef), (4, undef), (5, undef), (6, undef), (7, undef)] _ _
 refine W.seq (W.region ?_)
 refine WL.as .c U2 rfl ?_
 refine WL.nil (QS.next (W.seq (W.region ?_)))
 refine WL.as .c U3 rfl ?_
 refine WL.nil (QS.next (W.seq (W.seq (W.region ?_))))
 refine WL.st (R.mv (.t L0)) rfl ?_
 refine WL.rangeS st_9 (.t L0) rfl (fun g9 => ?_)
 refine WL.nil (QS.next (W.del (.kp (.dr .rf)) (W.block ?_)))
 refine W.nilrow 155 4 ?_
 refine W.loop (ι := {p : (List CharS × Nat × Nat) × Option Addr × Nat // p.1.1 ++ (fullF p.1.2.2 l p.1.2.1).map rawC = (charsS l).map rawC ∧ l.length ≤ p.1.2.1 + p.1.2.2 ∧ p.1.1.length ≤ p.1.2.1 ∧ p.1.2.1 ≤ l.length}) (fun x => [(9, .pointer (some ⟨g9, 0, none⟩)), (0, str l), (2, .slice none 0 0), (3, .slice x.1.2.1 x.1.1.1.length x.1.2.2)]) (fun x => [.row (.slice x.1.2.1 (x.1.1.1).length x.1.2.2) 155 4 (x.1.1.1).length (flat ch4 (x.1.1.1)), .obj g9 (.stringIter (bytesOf l) x.1.1.2.1)]) (fun x w => True) (fun x => l.length - x.1.1.2.1) ⟨(([], 0, l.length), none, 0), rfl, by dsimp only; omega, Nat.zero_le _, Nat.zero_le _⟩ (.kp rfl (.kp rfl (.dr (.kp rfl (.kp rfl (.dr (.dr (.dr (.dr .nil))))))))) (.kp rfl (.kp rfl .nil)) (fun _ h _ => h) ?_
 intro x
 obtain ⟨⟨⟨a, p, f⟩, A3, c3⟩, hi1, hi2, hi3, hi4⟩ := x
 dsimp only at hi1 hi2 hi3 hi4
 show W _ _ _ _ _ [(9, .pointer (some ⟨g9, 0, none⟩)), (0, str l), (2, .slice none 0 0), (3, .slice A3 a.length c3)] [.row (.slice A3 (a).length c3) 155 4 (a).length (flat ch4 (a)), .obj g9 (.stringIter (bytesOf l) p)] (fun w => True)
 refine W.seq (W.region ?_)
 refine WL.nextS (.t L0) (fun _ => C1) (by simp) rfl (fun hp => ?_) (fun hp => ?_)
 ·
  replace hp : p < l.length := hp
  have hd1 := dec_pos l p hp
  have hd2 := dec_le l p
  have hd3 := dec_fit l p hp
  obtain ⟨f, rfl⟩ : ∃ f2, f = f2 + 1 := ⟨f - 1, by omega⟩
  refine WL.st (R.ex (.t L0) .here) rfl ?_
  refine WL.nil (QS.next (W.seq (W.ct (.t L0) (W.del (.dr .rf) (W.skip (QS.next (W.block (W.seq (W.region ?_)))))))))
  refine WL.st (R.ex (.t L0) (.skip .here)) rfl ?_
  refine WL.st (R.ex (.t L1) (.skip (.skip .here))) rfl ?_
  refine WL.st (R.as (.t L1)) rfl ?_
  refine WL.st (R.as (.t L1)) rfl ?_
  refine WL.nil (QS.next (W.del (.kp (.kp (.dr (.dr (.dr .rf))))) (W.region ?_)))
  refine WL.st (R.mv (.t L5)) rfl ?_
  refine WL.st (R.mv (.t L1)) rfl ?_
  refine WL.st (R.mv (.t L3)) rfl ?_
  refine WL.st (R.bld (z := [.int .i32 0, .int .i64 0, .int .i64 0, .bool false]) Tryd.underlying155 (by kernel_rfl) z_155 (.cons fo_155_0 fz_155_0 rfl (.t L1) rfl (by repeat constructor) (.cons fo_155_1 fz_155_1 rfl (.t L0) rfl (by repeat constructor) .nil))) rfl ?_
  refine WL.bs1 sl_152 z_155 rfl (by decide) (by decide) (.t L0) rfl rfl rfl (fun g18 => ?_)
  refine WL.app' ap_152 (.t L4) (.t L0) (fun _ _ => C1) (fun w hb => Rd.of_blk (hb.has H0) rfl) rfl (by unfold maxLen; omega) (by omega) rfl (fun A19 c19 => ?_)
  refine WL.as (.t L0) (E1 U1) rfl ?_
  refine WL.nil (QS.blkn ?_)
  exact QS.at ⟨((a ++ [rawC (chr_ l p)], p + (Utf8.decode (bytesOf l) p).2, f), A19, c19), by dsimp only; rw [← hi1, full_cons hp]; simp, by dsimp only; omega, by simp; omega, hd3⟩ (show l.length - (p + (Utf8.decode (bytesOf l) p).2) < l.length - p by omega) (.dr (.dr (.dr (.dr (.dr (.dr (.dr (.dr (.kp rfl (.kp rfl (.kp rfl (.kp (by simp) .nil)))))))))))) (.dr (.kp (chunk_row (by simp) (by rw [← flat_snoc]; rfl)) (.kp rfl .nil))) (fun _ h _ => h)
 ·
  replace hp : ¬ p < l.length := hp
  rw [full_nil hp, List.map_nil, List.append_nil] at hi1
  have hfb : (charsS l).length ≤ l.length := full_bd l.length l 0
  have hal : a.length = (charsS l).length := by rw [hi1, List.length_map]
  refine WL.st (R.ex (.t L0) .here) rfl ?_
  refine WL.nil (QS.next (W.seq (W.cf (.t L0) (W.del (.dr .rf) (W.exit (QS.thenx (QS.thenx (QS.blkx (QS.next (W.del (.dr (.dr .rf)) (W.seq (W.seq (W.region ?_)))))))))))))
  refine WL.st (R.as .c) rfl ?_
  refine WL.nil (QS.next (W.block ?_))
  refine W.loop (ι := {i : Nat // i ≤ (charsS l).length}) (fun x => [(6, .int .i64 x.1), (0, str l), (2, .slice none 0 0), (3, .slice A3 (mixS (charsS l) x.1).length c3)]) (fun x => [.row (.slice A3 (mixS (charsS l) x.1).length c3) 155 4 (mixS (charsS l) x.1).length (flat ch4 (mixS (charsS l) x.1))]) (fun x w => True) (fun x => (charsS l).length - x.1) ⟨0, Nat.zero_le _⟩ (.kp rfl (.kp rfl (.kp rfl (.kp (by dsimp only; rw [mix_0, hi1]) .nil)))) (.kp (chunk_row (by dsimp only; rw [mix_0, hi1]) (by dsimp only; rw [mix_0, hi1])) (.dr .nil)) (fun _ h _ => h) ?_
  intro x
  obtain ⟨i, hi⟩ := x
  have hml := mix_len (charsS l) i
  show W _ _ _ _ _ [(6, .int .i64 i), (0, str l), (2, .slice none 0 0), (3, .slice A3 (mixS (charsS l) i).length c3)] [.row (.slice A3 (mixS (charsS l) i).length c3) 155 4 (mixS (charsS l) i).length (flat ch4 (mixS (charsS l) i))] (fun w => True)
  refine W.seq (W.seq (W.region ?_))
  refine WL.st (R.mv (.t L0)) rfl ?_
  refine WL.st (R.mv (.t L4)) rfl ?_
  refine WL.st (R.lenl sl_152 (.t L0)) rfl ?_
  refine WL.st (R.lss (.t L2) (.t L0)) rfl ?_
  refine WL.nil (QS.next (W.del (.kp (.dr (.dr (.dr .rf)))) ?_))
  refine W.cd (.t L0) (fun h1 => ?_) (fun h1 => ?_)
  ·
   refine W.del (.dr .rf) (W.skip (QS.next (W.seq (W.block (W.seq ?_)))))
   obtain ⟨c, hc⟩ : ∃ c, (charsS l)[i]? = some c := ⟨_, List.getElem?_eq_getElem (by omega)⟩
   obtain ⟨⟨q, hq1, hq2, _⟩, hq4⟩ := full_next l.length l 0 (by omega) i c hc
   have hcb : 0 ≤ c.at_ ∧ c.at_ ≤ l.length ∧ 0 ≤ c.n ∧ c.at_ + c.n ≤ l.length := by
     have := dec_fit l q hq2
     rw [hq1]; unfold chr_; dsimp only; omega
   have hcbad : c.bad = (decide (c.r = 65533) && decide (c.n = 1)) := by rw [hq1]; rfl
   have hra : (rawC c).at_ = c.at_ := rfl
   refine W.region ?_
   refine WL.st (R.mv (.t L1)) rfl ?_
   refine WL.st (R.lens st_9 (.t L0)) rfl ?_
   refine WL.st (R.as (.t L0)) rfl ?_
   refine WL.nil (QS.next (W.del (.kp (.dr (.dr .rf))) (W.seq (W.seq (W.region ?_)))))
   refine WL.st (R.mv (.t L1)) rfl ?_
   refine WL.st (R.add (.t L0) .c (wi (by omega) (by omega))) rfl ?_
   refine WL.st (R.mv (.t L6)) rfl ?_
   refine WL.st (R.lenl sl_152 (.t L0)) rfl ?_
   refine WL.st (R.lss (.t L2) (.t L0)) rfl ?_
   refine WL.nil (QS.next (W.del (.kp (.dr (.dr (.dr (.dr .rf))))) ?_))
   refine W.cd (.t L0) (fun h2 => ?_) (fun h2 => ?_)
   ·
    refine W.del (.dr .rf) (W.region ?_)
    refine WL.st (R.mv (.t L4)) rfl ?_
    refine WL.st (R.mv (.t L2)) rfl ?_
    refine WL.st (R.add (.t L0) .c (wi (by omega) (by omega))) rfl ?_
    obtain ⟨x36, hx36⟩ : ∃ x, ((mixS (charsS l) i))[i + 1]? = some x := ⟨_, List.getElem?_eq_getElem (by omega)⟩
    obtain ⟨c2, hc2⟩ : ∃ c2, (charsS l)[i + 1]? = some c2 := ⟨_, List.getElem?_eq_getElem (by omega)⟩
    have hxe36 : rawC c2 = x36 := by rw [mix_hi (by omega) hc2] at hx36; injection hx36
    subst hxe36
    have hq5 : c2.at_ = c.at_ + c.n := by
      have h := hq4
      rw [show (fullF l.length l 0)[i + 1]? = some c2 from hc2] at h
      exact h
    have hra2 : (rawC c2).at_ = c2.at_ := rfl
    refine WL.st (R.ixF sl_152 (.t L2) (by first | rfl | simp) (.t L0) (l := (mixS (charsS l) i)) (j := i + 1) (by omega) (List.getElem?_eq_some_iff.1 hx36).1 (by decide) (fun w hb => (RdF.mkN ch4_length (by first | rfl | simp) (hb.rowRd H0)))) rfl ?_
    refine WL.st (R.fapk fo_155_1 (.t L0) (j := (i + 1) * 4) (k := 0) (k2 := 1) rfl (fun w hb => RdF.ne ((RdF.mkN ch4_length (by first | rfl | simp) (hb.rowRd H0))) (List.getElem?_eq_some_iff.1 hx36).1 (by decide))) rfl ?_
    refine WL.st (R.ldp sc_3 (.t L0) (fun w hb => RdF.cell (k := 1) ((RdF.mkN ch4_length (by first | rfl | simp) (hb.rowRd H0))) hx36 rfl)) rfl ?_
    refine WL.as (.t L0) U6 rfl ?_
    refine WL.nil (QS.next (W.del (.dr (.dr (.dr (.dr (.dr (.dr .rf)))))) (W.seq (W.region ?_))))
    refine WL.st (R.mv (.t L4)) rfl ?_
    refine WL.st (R.mv (.t L2)) rfl ?_
    refine WL.st (R.mv (.t L2)) rfl ?_
    refine WL.st (R.mv (.t L7)) rfl ?_
    refine WL.st (R.mv (.t L5)) rfl ?_
    obtain ⟨x44, hx44⟩ : ∃ x, ((mixS (charsS l) i))[i]? = some x := ⟨_, List.getElem?_eq_getElem (by first | omega | (simp; omega))⟩
    have hxe44 : rawC c = x44 := by rw [mix_hi (Nat.le_refl _) hc] at hx44; injection hx44
    subst hxe44
    refine WL.st (R.ixF sl_152 (.t L1) (by first | rfl | simp) (.t L0) (l := (mixS (charsS l) i)) (j := i) rfl (List.getElem?_eq_some_iff.1 hx44).1 (by decide) (fun w hb => (RdF.mkN ch4_length (by first | rfl | simp) (hb.rowRd H0)))) rfl ?_
    refine WL.st (R.fapk fo_155_1 (.t L0) (j := i * 4) (k := 0) (k2 := 1) rfl (fun w hb => RdF.ne ((RdF.mkN ch4_length (by first | rfl | simp) (hb.rowRd H0))) (List.getElem?_eq_some_iff.1 hx44).1 (by decide))) rfl ?_
    refine WL.st (R.ldp sc_3 (.t L0) (fun w hb => RdF.cell (k := 1) ((RdF.mkN ch4_length (by first | rfl | simp) (hb.rowRd H0))) hx44 rfl)) rfl ?_
    refine WL.st (R.sub (.t L5) (.t L0) (wi (by omega) (by omega))) rfl ?_
    refine WL.rw L0 (v' := .int .i64 c.n) (congrArg (Value.int .i64) (by omega)) U0 ?_
    obtain ⟨x48, hx48⟩ : ∃ x, ((mixS (charsS l) i))[i]? = some x := ⟨_, List.getElem?_eq_getElem (by first | omega | (simp; omega))⟩
    have hxe48 : rawC c = x48 := by rw [mix_hi (Nat.le_refl _) hc] at hx48; injection hx48
    subst hxe48
    refine WL.st (R.ixF sl_152 (.t L8) (by first | rfl | simp) (.t L7) (l := (mixS (charsS l) i)) (j := i) rfl (List.getElem?_eq_some_iff.1 hx48).1 (by decide) (fun w hb => (RdF.mkN ch4_length (by first | rfl | simp) (hb.rowRd H0)))) rfl ?_
    refine WL.st (R.fapk fo_155_2 (.t L0) (j := i * 4) (k := 0) (k2 := 2) rfl (fun w hb => RdF.ne ((RdF.mkN ch4_length (by first | rfl | simp) (hb.rowRd H0))) (List.getElem?_eq_some_iff.1 hx48).1 (by decide))) rfl ?_
    refine WL.stoR (j := i * 4 + 2) sz_3 (.t L0) (.t L2) rfl rfl rfl C0 (flat_put0 (f := ch4) (l := (mixS (charsS l) i)) (y := ⟨c.r, c.at_, c.n, false⟩) ch4_length hx48 (by repeat constructor)) (by have h9 := (List.getElem?_eq_some_iff.1 hx48).1; rw [flat_length ch4_length]; have h8 := Nat.mul_le_mul_right 4 (Nat.succ_le_of_lt h9); rw [Nat.succ_mul] at h8; omega) ?_
    refine WL.nil (QS.next (W.del (.dr (.dr (.dr (.dr (.dr (.dr (.dr (.dr (.dr (.dr (.dr .rf))))))))))) (W.region ?_)))
    refine WL.st (R.mv (.t L4)) rfl ?_
    refine WL.st (R.mv (.t L2)) rfl ?_
    refine WL.st (R.mv (.t L6)) rfl ?_
    refine WL.st (R.mv (.t L4)) rfl ?_
    obtain ⟨x54, hx54⟩ : ∃ x, (((mixS (charsS l) i).set (i) (⟨c.r, c.at_, c.n, false⟩)))[i]? = some x := ⟨_, List.getElem?_eq_getElem (by first | omega | (simp; omega))⟩
    have hxe54 : (⟨c.r, c.at_, c.n, false⟩ : CharS) = x54 := by rw [set_at (mix_hi (Nat.le_refl _) hc)] at hx54; injection hx54
    subst hxe54
    refine WL.st (R.ixF sl_152 (.t L1) (by first | rfl | simp) (.t L0) (l := ((mixS (charsS l) i).set (i) (⟨c.r, c.at_, c.n, false⟩))) (j := i) rfl (List.getElem?_eq_some_iff.1 hx54).1 (by decide) (fun w hb => (RdF.mkN ch4_length (by first | rfl | simp) (hb.rowRd H0)))) rfl ?_
    refine WL.st (R.fapk fo_155_0 (.t L0) (j := i * 4) (k := 0) (k2 := 0) rfl (fun w hb => RdF.ne ((RdF.mkN ch4_length (by first | rfl | simp) (hb.rowRd H0))) (List.getElem?_eq_some_iff.1 hx54).1 (by decide))) rfl ?_
    refine WL.st (R.ldp sc_21 (.t L0) (fun w hb => RdF.cell (k := 0) ((RdF.mkN ch4_length (by first | rfl | simp) (hb.rowRd H0))) hx54 rfl)) rfl ?_
    refine WL.st (R.eqi (.t L0) .c) rfl ?_
    refine WL.st (R.mv (.t L0)) rfl ?_
    refine WL.cd L0 U0 U0 (fun hg58 => ?_) (fun hg58 => ?_)
    ·
     refine WL.gy rfl L0 (R.mv (.t (D1 L3))) rfl ?_
     refine WL.gy rfl L1 (R.mv (.t (D1 L1))) rfl ?_
     obtain ⟨x61, hx61⟩ : ∃ x, (((mixS (charsS l) i).set (i) (⟨c.r, c.at_, c.n, false⟩)))[i]? = some x := ⟨_, List.getElem?_eq_getElem (by first | omega | (simp; omega))⟩
     have hxe61 : (⟨c.r, c.at_, c.n, false⟩ : CharS) = x61 := by rw [set_at (mix_hi (Nat.le_refl _) hc)] at hx61; injection hx61
     subst hxe61
     refine WL.gy rfl L2 (R.ixF sl_152 (.t L1) (by first | rfl | simp) (.t L0) (l := ((mixS (charsS l) i).set (i) (⟨c.r, c.at_, c.n, false⟩))) (j := i) rfl (List.getElem?_eq_some_iff.1 hx61).1 (by decide) (fun w hb => (RdF.mkN ch4_length (by first | rfl | simp) (hb.rowRd H0)))) rfl ?_
     refine WL.gy rfl L3 (R.fapk fo_155_2 (.t L0) (j := i * 4) (k := 0) (k2 := 2) rfl (fun w hb => RdF.ne ((RdF.mkN ch4_length (by first | rfl | simp) (hb.rowRd H0))) (List.getElem?_eq_some_iff.1 hx61).1 (by decide))) rfl ?_
     refine WL.gy rfl L4 (R.ldp sc_3 (.t L0) (fun w hb => RdF.cell (k := 2) ((RdF.mkN ch4_length (by first | rfl | simp) (hb.rowRd H0))) hx61 rfl)) rfl ?_
     refine WL.gy rfl L5 (R.eqi (.t L0) .c) rfl ?_
     refine WL.st (R.pkt (.t L6) (.t L0)) rfl ?_
     refine WL.rw L0 (v' := .bool c.bad) (congrArg Value.bool (by rw [hcbad]; first | simp [show c.r = 65533 from hg58] | simp [show ¬ c.r = 65533 from hg58])) U0 ?_
     obtain ⟨x66, hx66⟩ : ∃ x, (((mixS (charsS l) i).set (i) (⟨c.r, c.at_, c.n, false⟩)))[i]? = some x := ⟨_, List.getElem?_eq_getElem (by first | omega | (simp; omega))⟩
     have hxe66 : (⟨c.r, c.at_, c.n, false⟩ : CharS) = x66 := by rw [set_at (mix_hi (Nat.le_refl _) hc)] at hx66; injection hx66
     subst hxe66
     refine WL.st (R.ixF sl_152 (.t (D1 L5)) (by first | rfl | simp) (.t (D1 L4)) (l := ((mixS (charsS l) i).set (i) (⟨c.r, c.at_, c.n, false⟩))) (j := i) rfl (List.getElem?_eq_some_iff.1 hx66).1 (by decide) (fun w hb => (RdF.mkN ch4_length (by first | rfl | simp) (hb.rowRd H0)))) rfl ?_
     refine WL.st (R.fapk fo_155_3 (.t L0) (j := i * 4) (k := 0) (k2 := 3) rfl (fun w hb => RdF.ne ((RdF.mkN ch4_length (by first | rfl | simp) (hb.rowRd H0))) (List.getElem?_eq_some_iff.1 hx66).1 (by decide))) rfl ?_
     refine WL.stoR (j := i * 4 + 3) sz_4 (.t L0) (.t L2) rfl rfl rfl C0 (flat_put0 (f := ch4) (l := ((mixS (charsS l) i).set (i) (⟨c.r, c.at_, c.n, false⟩))) (y := c) ch4_length hx66 (by repeat constructor)) (by have h9 := (List.getElem?_eq_some_iff.1 hx66).1; rw [flat_length ch4_length]; have h8 := Nat.mul_le_mul_right 4 (Nat.succ_le_of_lt h9); rw [Nat.succ_mul] at h8; omega) ?_
     refine WL.nil (QS.blkn (QS.next (W.del (.dr (.dr (.dr (.dr (.dr (.dr (.dr (.dr (.dr (.dr (.dr (.dr (.dr (.dr (.dr (.dr (.dr (.dr .rf)))))))))))))))))) (W.region ?_))))
     refine WL.st (R.mv (.t L1)) rfl ?_
     refine WL.st (R.add (.t L0) .c (wi (by omega) (by omega))) rfl ?_
     refine WL.as (.t L0) U3 rfl ?_
     refine WL.nil ?_
     exact QS.at ⟨i + 1, by omega⟩ (by dsimp only; omega) (.dr (.dr (.dr (.kp rfl (.kp rfl (.kp rfl (.kp (by dsimp only; rw [mix_len, mix_len]) .nil))))))) (.kp (chunk_row (by dsimp only; rw [mix_len, mix_len]) (by dsimp only; rw [← mix_set hc]; simp)) .nil) (fun _ h _ => h)
    ·
     refine WL.gn rfl L0 rfl ?_
     refine WL.gn rfl L1 rfl ?_
     refine WL.gn rfl L2 rfl ?_
     refine WL.gn rfl L3 rfl ?_
     refine WL.gn rfl L4 rfl ?_
     refine WL.gn rfl L5 rfl ?_
     refine WL.st (R.pkf (.t L6) .c) rfl ?_
     refine WL.rw L0 (v' := .bool c.bad) (congrArg Value.bool (by rw [hcbad]; first | simp [show c.r = 65533 from hg58] | simp [show ¬ c.r = 65533 from hg58])) U0 ?_
     obtain ⟨x66, hx66⟩ : ∃ x, (((mixS (charsS l) i).set (i) (⟨c.r, c.at_, c.n, false⟩)))[i]? = some x := ⟨_, List.getElem?_eq_getElem (by first | omega | (simp; omega))⟩
     have hxe66 : (⟨c.r, c.at_, c.n, false⟩ : CharS) = x66 := by rw [set_at (mix_hi (Nat.le_refl _) hc)] at hx66; injection hx66
     subst hxe66
     refine WL.st (R.ixF sl_152 (.t (D1 L5)) (by first | rfl | simp) (.t (D1 L4)) (l := ((mixS (charsS l) i).set (i) (⟨c.r, c.at_, c.n, false⟩))) (j := i) rfl (List.getElem?_eq_some_iff.1 hx66).1 (by decide) (fun w hb => (RdF.mkN ch4_length (by first | rfl | simp) (hb.rowRd H0)))) rfl ?_
     refine WL.st (R.fapk fo_155_3 (.t L0) (j := i * 4) (k := 0) (k2 := 3) rfl (fun w hb => RdF.ne ((RdF.mkN ch4_length (by first | rfl | simp) (hb.rowRd H0))) (List.getElem?_eq_some_iff.1 hx66).1 (by decide))) rfl ?_
     refine WL.stoR (j := i * 4 + 3) sz_4 (.t L0) (.t L2) rfl rfl rfl C0 (flat_put0 (f := ch4) (l := ((mixS (charsS l) i).set (i) (⟨c.r, c.at_, c.n, false⟩))) (y := c) ch4_length hx66 (by repeat constructor)) (by have h9 := (List.getElem?_eq_some_iff.1 hx66).1; rw [flat_length ch4_length]; have h8 := Nat.mul_le_mul_right 4 (Nat.succ_le_of_lt h9); rw [Nat.succ_mul] at h8; omega) ?_
     refine WL.nil (QS.blkn (QS.next (W.del (.dr (.dr (.dr (.dr (.dr (.dr (.dr (.dr (.dr (.dr (.dr (.dr (.dr (.dr (.dr (.dr (.dr (.dr .rf)))))))))))))))))) (W.region ?_))))
     refine WL.st (R.mv (.t L1)) rfl ?_
     refine WL.st (R.add (.t L0) .c (wi (by omega) (by omega))) rfl ?_
     refine WL.as (.t L0) U3 rfl ?_
     refine WL.nil ?_
     exact QS.at ⟨i + 1, by omega⟩ (by dsimp only; omega) (.dr (.dr (.dr (.kp rfl (.kp rfl (.kp rfl (.kp (by dsimp only; rw [mix_len, mix_len]) .nil))))))) (.kp (chunk_row (by dsimp only; rw [mix_len, mix_len]) (by dsimp only; rw [← mix_set hc]; simp)) .nil) (fun _ h _ => h)
   ·
    have hq5 : (l.length : Int) = c.at_ + c.n := by
      have h := hq4
      rw [show (fullF l.length l 0)[i + 1]? = none from List.getElem?_eq_none (by show (charsS l).length ≤ i + 1; omega)] at h
      exact h
    refine W.del (.dr .rf) (W.skip (QS.next (W.seq (W.region ?_))))
    refine WL.st (R.mv (.t L4)) rfl ?_
    refine WL.st (R.mv (.t L2)) rfl ?_
    refine WL.st (R.mv (.t L2)) rfl ?_
    refine WL.st (R.mv (.t L7)) rfl ?_
    refine WL.st (R.mv (.t L5)) rfl ?_
    obtain ⟨x44, hx44⟩ : ∃ x, ((mixS (charsS l) i))[i]? = some x := ⟨_, List.getElem?_eq_getElem (by first | omega | (simp; omega))⟩
    have hxe44 : rawC c = x44 := by rw [mix_hi (Nat.le_refl _) hc] at hx44; injection hx44
    subst hxe44
    refine WL.st (R.ixF sl_152 (.t L1) (by first | rfl | simp) (.t L0) (l := (mixS (charsS l) i)) (j := i) rfl (List.getElem?_eq_some_iff.1 hx44).1 (by decide) (fun w hb => (RdF.mkN ch4_length (by first | rfl | simp) (hb.rowRd H0)))) rfl ?_
    refine WL.st (R.fapk fo_155_1 (.t L0) (j := i * 4) (k := 0) (k2 := 1) rfl (fun w hb => RdF.ne ((RdF.mkN ch4_length (by first | rfl | simp) (hb.rowRd H0))) (List.getElem?_eq_some_iff.1 hx44).1 (by decide))) rfl ?_
    refine WL.st (R.ldp sc_3 (.t L0) (fun w hb => RdF.cell (k := 1) ((RdF.mkN ch4_length (by first | rfl | simp) (hb.rowRd H0))) hx44 rfl)) rfl ?_
    refine WL.st (R.sub (.t L5) (.t L0) (wi (by omega) (by omega))) rfl ?_
    refine WL.rw L0 (v' := .int .i64 c.n) (congrArg (Value.int .i64) (by omega)) U0 ?_
    obtain ⟨x48, hx48⟩ : ∃ x, ((mixS (charsS l) i))[i]? = some x := ⟨_, List.getElem?_eq_getElem (by first | omega | (simp; omega))⟩
    have hxe48 : rawC c = x48 := by rw [mix_hi (Nat.le_refl _) hc] at hx48; injection hx48
    subst hxe48
    refine WL.st (R.ixF sl_152 (.t L8) (by first | rfl | simp) (.t L7) (l := (mixS (charsS l) i)) (j := i) rfl (List.getElem?_eq_some_iff.1 hx48).1 (by decide) (fun w hb => (RdF.mkN ch4_length (by first | rfl | simp) (hb.rowRd H0)))) rfl ?_
    refine WL.st (R.fapk fo_155_2 (.t L0) (j := i * 4) (k := 0) (k2 := 2) rfl (fun w hb => RdF.ne ((RdF.mkN ch4_length (by first | rfl | simp) (hb.rowRd H0))) (List.getElem?_eq_some_iff.1 hx48).1 (by decide))) rfl ?_
    refine WL.stoR (j := i * 4 + 2) sz_3 (.t L0) (.t L2) rfl rfl rfl C0 (flat_put0 (f := ch4) (l := (mixS (charsS l) i)) (y := ⟨c.r, c.at_, c.n, false⟩) ch4_length hx48 (by repeat constructor)) (by have h9 := (List.getElem?_eq_some_iff.1 hx48).1; rw [flat_length ch4_length]; have h8 := Nat.mul_le_mul_right 4 (Nat.succ_le_of_lt h9); rw [Nat.succ_mul] at h8; omega) ?_
    refine WL.nil (QS.next (W.del (.dr (.dr (.dr (.dr (.dr (.dr (.dr (.dr (.dr (.dr (.dr .rf))))))))))) (W.region ?_)))
    refine WL.st (R.mv (.t L4)) rfl ?_
    refine WL.st (R.mv (.t L2)) rfl ?_
    refine WL.st (R.mv (.t L6)) rfl ?_
    refine WL.st (R.mv (.t L4)) rfl ?_
    obtain ⟨x54, hx54⟩ : ∃ x, (((mixS (charsS l) i).set (i) (⟨c.r, c.at_, c.n, false⟩)))[i]? = some x := ⟨_, List.getElem?_eq_getElem (by first | omega | (simp; omega))⟩
    have hxe54 : (⟨c.r, c.at_, c.n, false⟩ : CharS) = x54 := by rw [set_at (mix_hi (Nat.le_refl _) hc)] at hx54; injection hx54
    subst hxe54
    refine WL.st (R.ixF sl_152 (.t L1) (by first | rfl | simp) (.t L0) (l := ((mixS (charsS l) i).set (i) (⟨c.r, c.at_, c.n, false⟩))) (j := i) rfl (List.getElem?_eq_some_iff.1 hx54).1 (by decide) (fun w hb => (RdF.mkN ch4_length (by first | rfl | simp) (hb.rowRd H0)))) rfl ?_
    refine WL.st (R.fapk fo_155_0 (.t L0) (j := i * 4) (k := 0) (k2 := 0) rfl (fun w hb => RdF.ne ((RdF.mkN ch4_length (by first | rfl | simp) (hb.rowRd H0))) (List.getElem?_eq_some_iff.1 hx54).1 (by decide))) rfl ?_
    refine WL.st (R.ldp sc_21 (.t L0) (fun w hb => RdF.cell (k := 0) ((RdF.mkN ch4_length (by first | rfl | simp) (hb.rowRd H0))) hx54 rfl)) rfl ?_
    refine WL.st (R.eqi (.t L0) .c) rfl ?_
    refine WL.st (R.mv (.t L0)) rfl ?_
    refine WL.cd L0 U0 U0 (fun hg58 => ?_) (fun hg58 => ?_)
    ·
     refine WL.gy rfl L0 (R.mv (.t (D1 L3))) rfl ?_
     refine WL.gy rfl L1 (R.mv (.t (D1 L1))) rfl ?_
     obtain ⟨x61, hx61⟩ : ∃ x, (((mixS (charsS l) i).set (i) (⟨c.r, c.at_, c.n, false⟩)))[i]? = some x := ⟨_, List.getElem?_eq_getElem (by first | omega | (simp; omega))⟩
     have hxe61 : (⟨c.r, c.at_, c.n, false⟩ : CharS) = x61 := by rw [set_at (mix_hi (Nat.le_refl _) hc)] at hx61; injection hx61
     subst hxe61
     refine WL.gy rfl L2 (R.ixF sl_152 (.t L1) (by first | rfl | simp) (.t L0) (l := ((mixS (charsS l) i).set (i) (⟨c.r, c.at_, c.n, false⟩))) (j := i) rfl (List.getElem?_eq_some_iff.1 hx61).1 (by decide) (fun w hb => (RdF.mkN ch4_length (by first | rfl | simp) (hb.rowRd H0)))) rfl ?_
     refine WL.gy rfl L3 (R.fapk fo_155_2 (.t L0) (j := i * 4) (k := 0) (k2 := 2) rfl (fun w hb => RdF.ne ((RdF.mkN ch4_length (by first | rfl | simp) (hb.rowRd H0))) (List.getElem?_eq_some_iff.1 hx61).1 (by decide))) rfl ?_
     refine WL.gy rfl L4 (R.ldp sc_3 (.t L0) (fun w hb => RdF.cell (k := 2) ((RdF.mkN ch4_length (by first | rfl | simp) (hb.rowRd H0))) hx61 rfl)) rfl ?_
     refine WL.gy rfl L5 (R.eqi (.t L0) .c) rfl ?_
     refine WL.st (R.pkt (.t L6) (.t L0)) rfl ?_
     refine WL.rw L0 (v' := .bool c.bad) (congrArg Value.bool (by rw [hcbad]; first | simp [show c.r = 65533 from hg58] | simp [show ¬ c.r = 65533 from hg58])) U0 ?_
     obtain ⟨x66, hx66⟩ : ∃ x, (((mixS (charsS l) i).set (i) (⟨c.r, c.at_, c.n, false⟩)))[i]? = some x := ⟨_, List.getElem?_eq_getElem (by first | omega | (simp; omega))⟩
     have hxe66 : (⟨c.r, c.at_, c.n, false⟩ : CharS) = x66 := by rw [set_at (mix_hi (Nat.le_refl _) hc)] at hx66; injection hx66
     subst hxe66
     refine WL.st (R.ixF sl_152 (.t (D1 L5)) (by first | rfl | simp) (.t (D1 L4)) (l := ((mixS (charsS l) i).set (i) (⟨c.r, c.at_, c.n, false⟩))) (j := i) rfl (List.getElem?_eq_some_iff.1 hx66).1 (by decide) (fun w hb => (RdF.mkN ch4_length (by first | rfl | simp) (hb.rowRd H0)))) rfl ?_
     refine WL.st (R.fapk fo_155_3 (.t L0) (j := i * 4) (k := 0) (k2 := 3) rfl (fun w hb => RdF.ne ((RdF.mkN ch4_length (by first | rfl | simp) (hb.rowRd H0))) (List.getElem?_eq_some_iff.1 hx66).1 (by decide))) rfl ?_
     refine WL.stoR (j := i * 4 + 3) sz_4 (.t L0) (.t L2) rfl rfl rfl C0 (flat_put0 (f := ch4) (l := ((mixS (charsS l) i).set (i) (⟨c.r, c.at_, c.n, false⟩))) (y := c) ch4_length hx66 (by repeat constructor)) (by have h9 := (List.getElem?_eq_some_iff.1 hx66).1; rw [flat_length ch4_length]; have h8 := Nat.mul_le_mul_right 4 (Nat.succ_le_of_lt h9); rw [Nat.succ_mul] at h8; omega) ?_
     refine WL.nil (QS.blkn (QS.next (W.del (.dr (.dr (.dr (.dr (.dr (.dr (.dr (.dr (.dr (.dr (.dr (.dr (.dr (.dr (.dr (.dr (.dr (.dr .rf)))))))))))))))))) (W.region ?_))))
     refine WL.st (R.mv (.t L1)) rfl ?_
     refine WL.st (R.add (.t L0) .c (wi (by omega) (by omega))) rfl ?_
     refine WL.as (.t L0) U3 rfl ?_
     refine WL.nil ?_
     exact QS.at ⟨i + 1, by omega⟩ (by dsimp only; omega) (.dr (.dr (.dr (.kp rfl (.kp rfl (.kp rfl (.kp (by dsimp only; rw [mix_len, mix_len]) .nil))))))) (.kp (chunk_row (by dsimp only; rw [mix_len, mix_len]) (by dsimp only; rw [← mix_set hc]; simp)) .nil) (fun _ h _ => h)
    ·
     refine WL.gn rfl L0 rfl ?_
     refine WL.gn rfl L1 rfl ?_
     refine WL.gn rfl L2 rfl ?_
     refine WL.gn rfl L3 rfl ?_
     refine WL.gn rfl L4 rfl ?_
     refine WL.gn rfl L5 rfl ?_
     refine WL.st (R.pkf (.t L6) .c) rfl ?_
     refine WL.rw L0 (v' := .bool c.bad) (congrArg Value.bool (by rw [hcbad]; first | simp [show c.r = 65533 from hg58] | simp [show ¬ c.r = 65533 from hg58])) U0 ?_
     obtain ⟨x66, hx66⟩ : ∃ x, (((mixS (charsS l) i).set (i) (⟨c.r, c.at_, c.n, false⟩)))[i]? = some x := ⟨_, List.getElem?_eq_getElem (by first | omega | (simp; omega))⟩
     have hxe66 : (⟨c.r, c.at_, c.n, false⟩ : CharS) = x66 := by rw [set_at (mix_hi (Nat.le_refl _) hc)] at hx66; injection hx66
     subst hxe66
     refine WL.st (R.ixF sl_152 (.t (D1 L5)) (by first | rfl | simp) (.t (D1 L4)) (l := ((mixS (charsS l) i).set (i) (⟨c.r, c.at_, c.n, false⟩))) (j := i) rfl (List.getElem?_eq_some_iff.1 hx66).1 (by decide) (fun w hb => (RdF.mkN ch4_length (by first | rfl | simp) (hb.rowRd H0)))) rfl ?_
     refine WL.st (R.fapk fo_155_3 (.t L0) (j := i * 4) (k := 0) (k2 := 3) rfl (fun w hb => RdF.ne ((RdF.mkN ch4_length (by first | rfl | simp) (hb.rowRd H0))) (List.getElem?_eq_some_iff.1 hx66).1 (by decide))) rfl ?_
     refine WL.stoR (j := i * 4 + 3) sz_4 (.t L0) (.t L2) rfl rfl rfl C0 (flat_put0 (f := ch4) (l := ((mixS (charsS l) i).set (i) (⟨c.r, c.at_, c.n, false⟩))) (y := c) ch4_length hx66 (by repeat constructor)) (by have h9 := (List.getElem?_eq_some_iff.1 hx66).1; rw [flat_length ch4_length]; have h8 := Nat.mul_le_mul_right 4 (Nat.succ_le_of_lt h9); rw [Nat.succ_mul] at h8; omega) ?_
     refine WL.nil (QS.blkn (QS.next (W.del (.dr (.dr (.dr (.dr (.dr (.dr (.dr (.dr (.dr (.dr (.dr (.dr (.dr (.dr (.dr (.dr (.dr (.dr .rf)))))))))))))))))) (W.region ?_))))
     refine WL.st (R.mv (.t L1)) rfl ?_
     refine WL.st (R.add (.t L0) .c (wi (by omega) (by omega))) rfl ?_
     refine WL.as (.t L0) U3 rfl ?_
     refine WL.nil ?_
     exact QS.at ⟨i + 1, by omega⟩ (by dsimp only; omega) (.dr (.dr (.dr (.kp rfl (.kp rfl (.kp rfl (.kp (by dsimp only; rw [mix_len, mix_len]) .nil))))))) (.kp (chunk_row (by dsimp only; rw [mix_len, mix_len]) (by dsimp only; rw [← mix_set hc]; simp)) .nil) (fun _ h _ => h)
  ·
   refine W.del (.dr .rf) (W.exit (QS.thenx (QS.thenx (QS.blkx (QS.next (W.seq (W.region ?_)))))))
   refine WL.st (R.mv (.t L3)) rfl ?_
   refine WL.as (.t L0) U3 rfl ?_
   refine WL.nil (QS.next (W.del (.dr .rf) (W.ret ?_)))
   exact QS.fin (.inl rfl) rfl (.tmp L2 .nil) (A3, c3) (by dsimp only; rw [mix_len]; rfl) (.dr .nil) (fun w h hd => rowF ch4_length (by decide) hd.1 (by rw [mix_len]) (by rw [mix_all (by omega)]))

theorem ref02_Plain {l : List UInt8} (hl : l.length ≤ 4000000000000) {C : Cx} (hb : Hb C C.w0 [] (fun _ => True)) :
    Ret Tryd.prog 71 [str l] C (.tuple #[.int .i64 (plainS l).1, .bool (plainS l).2]) := by
 refine Sp.enter (N := 32) (e := entryEnv [str l] 0 6) Tryd.func71 rfl rfl (Nat.le_of_ble_eq_true rfl) (entry_ok (Nat.le_of_ble_eq_true rfl) (Nat.le_of_ble_eq_true rfl)) (entry_nd _ _) hb ?_
 show W _ _ _ _ _ [(0, str l), (1, undef), (2, undef), (3, undef), (4, undef), (5, undef)] _ _
 refine W.seq (W.region ?_)
 refine WL.as .c U2 rfl ?_
 refine WL.as .c U3 rfl ?_
 refine WL.nil (QS.next (W.seq (W.region ?_)))
 refine WL.st (R.mv (.t L0)) rfl ?_
 refine WL.call gf_93 .f (.cons (.t L0) .nil) .nil (fun w hb => (ref02_Chars hl (hb.imp fun _ _ => trivial))) rfl (fun x7 => ?_)
 have hfb : (charsS l).length ≤ l.length := full_bd l.length l 0
 refine WL.as (.t L0) U6 rfl ?_
 refine WL.nil (QS.next (W.del (.dr (.dr .rf)) (W.seq (W.seq (W.region ?_)))))
 refine WL.as .c U5 rfl ?_
 refine WL.nil (QS.next (W.block ?_))
 refine W.loop (ι := {j : Nat // j ≤ (charsS l).length ∧ ∀ i x, i < j → (charsS l)[i]? = some x → (fun c => c.bad || ctrlS c.r) x = false}) (fun x => [(2, .int .i64 0), (3, .bool false), (4, .slice x7.1 (charsS l).length x7.2), (5, .int .i64 x.1)]) (fun x => []) (fun x w => RdF ch4 4 w x7.1 (charsS l)) (fun x => (charsS l).length - x.1) ⟨0, Nat.zero_le _, fun i x h => absurd h (by omega)⟩ (.dr (.dr (.kp rfl (.kp rfl (.kp rfl (.kp rfl .nil)))))) .nil (fun w h hd => h.2) ?_
 intro x
 obtain ⟨j, hj1, hj2⟩ := x
 show W _ _ _ _ _ [(2, .int .i64 0), (3, .bool false), (4, .slice x7.1 (charsS l).length x7.2), (5, .int .i64 j)] [] (fun w => RdF ch4 4 w x7.1 (charsS l))
 refine W.seq (W.seq (W.region ?_))
 refine WL.st (R.mv (.t L3)) rfl ?_
 refine WL.st (R.mv (.t L3)) rfl ?_
 refine WL.st (R.lenl sl_152 (.t L0)) rfl ?_
 refine WL.st (R.lss (.t L2) (.t L0)) rfl ?_
 refine WL.nil (QS.next (W.del (.kp (.dr (.dr (.dr .rf)))) ?_))
 refine W.cd (.t L0) (fun h0 => ?_) (fun h0 => ?_)
 ·
  refine W.del (.dr .rf) (W.skip (QS.next (W.seq (W.block (W.seq (W.region ?_))))))
  refine WL.st (R.mv (.t L2)) rfl ?_
  refine WL.st (R.mv (.t L4)) rfl ?_
  obtain ⟨x16, hx16⟩ : ∃ x, ((charsS l))[j]? = some x := ⟨_, List.getElem?_eq_getElem (by omega)⟩
  obtain ⟨⟨q, hq1, hq2, _⟩, _⟩ := full_next l.length l 0 (by omega) j x16 hx16
  have hr0 : 0 ≤ x16.r := by rw [hq1]; unfold chr_; dsimp only; omega
  refine WL.st (R.ixF sl_152 (.t L1) rfl (.t L0) (l := (charsS l)) (j := j) rfl (List.getElem?_eq_some_iff.1 hx16).1 (by decide) (fun w hb => hb.get)) rfl ?_
  refine WL.st (R.fapk fo_155_3 (.t L0) (j := j * 4) (k := 0) (k2 := 3) rfl (fun w hb => RdF.ne (hb.get) (List.getElem?_eq_some_iff.1 hx16).1 (by decide))) rfl ?_
  refine WL.st (R.ldp sc_4 (.t L0) (fun w hb => RdF.cell (k := 3) (hb.get) hx16 rfl)) rfl ?_
  refine WL.st (R.mv (.t L0)) rfl ?_
  refine WL.cb L0 U0 U0 (fun hg19 => ?_) (fun hg19 => ?_)
  ·
   refine WL.gn rfl L0 rfl ?_
   refine WL.gn rfl L1 rfl ?_
   refine WL.gn rfl L2 rfl ?_
   refine WL.gn rfl L3 rfl ?_
   refine WL.gn rfl L4 rfl ?_
   refine WL.gn rfl L5 rfl ?_
   refine WL.st (R.pkt (.t L6) .c) rfl ?_
   refine WL.nil (QS.next (W.del (.kp (.dr (.dr (.dr (.dr (.dr (.dr (.dr (.dr (.dr (.dr (.dr (.dr .rf))))))))))))) (W.ct (.t L0) (W.del (.dr .rf) (W.seq (W.region ?_))))))
   refine WL.st (R.mv (.t L2)) rfl ?_
   refine WL.st (R.mv (.t L4)) rfl ?_
   obtain ⟨x29, hx29⟩ : ∃ x, ((charsS l))[j]? = some x := ⟨_, List.getElem?_eq_getElem (by omega)⟩
   have hxe29 : x16 = x29 := by rw [hx16] at hx29; injection hx29
   subst hxe29
   refine WL.st (R.ixF sl_152 (.t L1) rfl (.t L0) (l := (charsS l)) (j := j) rfl (List.getElem?_eq_some_iff.1 hx29).1 (by decide) (fun w hb => hb.get)) rfl ?_
   refine WL.st (R.fapk fo_155_1 (.t L0) (j := j * 4) (k := 0) (k2 := 1) rfl (fun w hb => RdF.ne (hb.get) (List.getElem?_eq_some_iff.1 hx29).1 (by decide))) rfl ?_
   refine WL.st (R.ldp sc_3 (.t L0) (fun w hb => RdF.cell (k := 1) (hb.get) hx29 rfl)) rfl ?_
   refine WL.as (.t L0) U5 rfl ?_
   refine WL.as .c U6 rfl ?_
   refine WL.nil (QS.next (W.del (.dr (.dr (.dr (.dr (.dr .rf))))) (W.ret (QS.blkr (QS.thenr (QS.thenr (QS.blkr (QS.thenr ?_))))))))
   have hr : plainS l = (x16.at_, false) := by rw [plainS_full, find_at hj2 hx16 (by simp_all)]
   exact QS.fin (.inl rfl) rfl (.tmp L0 (.tmp L1 .nil)) () (by rw [hr]; rfl) .nil (fun _ _ _ => trivial)
  ·
   refine WL.gy rfl L0 (R.mv (.t L8)) rfl ?_
   refine WL.gy rfl L1 (R.mv (.t (D1 L0))) rfl ?_
   obtain ⟨x22, hx22⟩ : ∃ x, ((charsS l))[j]? = some x := ⟨_, List.getElem?_eq_getElem (by omega)⟩
   have hxe22 : x16 = x22 := by rw [hx16] at hx22; injection hx22
   subst hxe22
   refine WL.gy rfl L2 (R.ixF sl_152 (.t L1) rfl (.t L0) (l := (charsS l)) (j := j) rfl (List.getElem?_eq_some_iff.1 hx22).1 (by decide) (fun w hb => hb.get)) rfl ?_
   refine WL.gy rfl L3 (R.fapk fo_155_0 (.t L0) (j := j * 4) (k := 0) (k2 := 0) rfl (fun w hb => RdF.ne (hb.get) (List.getElem?_eq_some_iff.1 hx22).1 (by decide))) rfl ?_
   refine WL.gy rfl L4 (R.ldp sc_21 (.t L0) (fun w hb => RdF.cell (k := 0) (hb.get) hx22 rfl)) rfl ?_
   refine WL.gyw rfl L5 ?_
   refine WL.callr gf_94 .f (.cons (.t L0) .nil) (fun w hb => (ref02_Control hr0 (hb.imp fun _ _ => trivial))) rfl ?_
   refine WL.st (R.pkf (.t L6) (.t L0)) rfl ?_
   refine WL.nil (QS.next (W.del (.kp (.dr (.dr (.dr (.dr (.dr (.dr (.dr (.dr (.dr (.dr (.dr (.dr .rf))))))))))))) ?_))
   refine W.cb (.t L0) (fun h1 => ?_) (fun h1 => ?_)
   ·
    refine W.del (.dr .rf) (W.seq (W.region ?_))
    refine WL.st (R.mv (.t L2)) rfl ?_
    refine WL.st (R.mv (.t L4)) rfl ?_
    obtain ⟨x29, hx29⟩ : ∃ x, ((charsS l))[j]? = some x := ⟨_, List.getElem?_eq_getElem (by omega)⟩
    have hxe29 : x16 = x29 := by rw [hx16] at hx29; injection hx29
    subst hxe29
    refine WL.st (R.ixF sl_152 (.t L1) rfl (.t L0) (l := (charsS l)) (j := j) rfl (List.getElem?_eq_some_iff.1 hx29).1 (by decide) (fun w hb => hb.get)) rfl ?_
    refine WL.st (R.fapk fo_155_1 (.t L0) (j := j * 4) (k := 0) (k2 := 1) rfl (fun w hb => RdF.ne (hb.get) (List.getElem?_eq_some_iff.1 hx29).1 (by decide))) rfl ?_
    refine WL.st (R.ldp sc_3 (.t L0) (fun w hb => RdF.cell (k := 1) (hb.get) hx29 rfl)) rfl ?_
    refine WL.as (.t L0) U5 rfl ?_
    refine WL.as .c U6 rfl ?_
    refine WL.nil (QS.next (W.del (.dr (.dr (.dr (.dr (.dr .rf))))) (W.ret (QS.blkr (QS.thenr (QS.thenr (QS.blkr (QS.thenr ?_))))))))
    have hr : plainS l = (x16.at_, false) := by rw [plainS_full, find_at hj2 hx16 (by simp_all)]
    exact QS.fin (.inl rfl) rfl (.tmp L0 (.tmp L1 .nil)) () (by rw [hr]; rfl) .nil (fun _ _ _ => trivial)
   ·
    refine W.del (.dr .rf) (W.skip (QS.blkn (QS.next (W.region ?_))))
    refine WL.st (R.mv (.t L3)) rfl ?_
    refine WL.st (R.add (.t L0) .c (wi (by omega) (by omega))) rfl ?_
    refine WL.as (.t L0) U5 rfl ?_
    refine WL.nil ?_
    exact QS.at ⟨j + 1, by omega, none_snoc hj2 hx16 (by simp_all)⟩ (by dsimp only; omega) (.dr (.dr (.kp rfl (.kp rfl (.kp rfl (.kp rfl .nil)))))) .nil (fun w h hd => h)
 ·
  refine W.del (.dr .rf) (W.exit (QS.thenx (QS.thenx (QS.blkx (QS.next (W.seq (W.region ?_)))))))
  refine WL.as .c U0 rfl ?_
  refine WL.as .c U1 rfl ?_
  refine WL.nil (QS.next (W.ret ?_))
  have hr : plainS l = (0, true) := by rw [plainS_full, find_none (fun i x hi hx => hj2 i x (by omega) hx)]
  exact QS.fin (.inl rfl) rfl (.tmp L0 (.tmp L1 .nil)) () (by rw [hr]; rfl) .nil (fun _ _ _ => trivial)

theorem operand_len {kind n : Int} {wd : List Int} {sty tp : Int} (hk : kind = 12) (h : 8 < (wd.length : Int)) : operandS kind n wd sty tp = false := by
  rw [operandS, if_neg (by omega), if_neg (by omega), if_neg (by omega), if_pos hk, decide_eq_false (by omega), Bool.and_false]

theorem ref17_operand {A : Option Addr} {l : List Int} {c1 : Nat} {a1 a2 a3 a4 sty tp : Int} (hl : l.length ≤ 140737488355328) {C : Cx} (hb : Hb C C.w0 [] (fun w => RdI w A l)) :
    Ret Tryd.prog 70 [.agg #[.int .i64 a1, .int .i64 a2, .int .i64 a3, .int .i64 a4, .slice A l.length c1], .int .i64 sty, .int .i64 tp] C (.bool (operandS a3 a4 l sty tp)) := by
 refine Sp.enter (N := 46) (e := entryEnv [.agg #[.int .i64 a1, .int .i64 a2, .int .i64 a3, .int .i64 a4, .slice A l.length c1], .int .i64 sty, .int .i64 tp] 0 9) Tryd.func70 rfl rfl (Nat.le_of_ble_eq_true rfl) (entry_ok (Nat.le_of_ble_eq_true rfl) (Nat.le_of_ble_eq_true rfl)) (entry_nd _ _) hb ?_
 show W _ _ _ _ _ [(0, .agg #[.int .i64 a1, .int .i64 a2, .int .i64 a3, .int .i64 a4, .slice A l.length c1]), (1, .int .i64 sty), (2, .int .i64 tp), (3, undef), (4, undef), (5, undef), (6, undef), (7, undef), (8, undef)] _ _
 refine W.seq (W.region ?_)
 refine WL.boxu (.t L0) rfl (fun _ => U3) rfl (fun g3 => ?_)
 refine WL.as .c U6 rfl ?_
 refine WL.nil (QS.next (W.seq (W.seq (W.region ?_))))
 refine WL.st (R.fa fo_59_2 (.t L3)) rfl ?_
 refine WL.st (R.ld sc_57 (.t L0) H0 rfl) rfl ?_
 refine WL.nil (QS.next (W.del (.kp (.dr .rf)) (W.block (W.seq (W.seq (W.region ?_))))))
 refine WL.st (R.eqi (.t L0) .c) rfl ?_
 refine WL.st (R.as (.t L0)) rfl ?_
 refine WL.nil (QS.next (W.del (.kp (.dr .rf)) ?_))
 refine W.cd (.t L0) (fun h0 => ?_) (fun h0 => ?_)
 ·
  refine W.skip (QS.next ?_)
  refine W.cdt (.t L0) h0 ?_
  refine W.del (.dr (.dr .rf)) (W.seq (W.region ?_))
  refine WL.st (R.fa fo_59_3 (.t L3)) rfl ?_
  refine WL.st (R.ld sc_3 (.t L0) H0 rfl) rfl ?_
  refine WL.st (R.mv (.t L3)) rfl ?_
  refine WL.st (R.lss (.t L1) (.t L0)) rfl ?_
  refine WL.as (.t L0) (E1 U0) rfl ?_
  refine WL.nil (QS.next (W.del (.dr (.dr (.dr (.dr .rf)))) (W.ret (QS.blkr (QS.thenr ?_)))))
  exact QS.fin (.inl rfl) rfl (.tmp L6 .nil) () (congrArg Value.bool (by rw [operandS, if_pos (by omega)])) (.dr .nil) (fun _ _ _ => trivial)
 ·
  refine W.region ?_
  refine WL.st (R.eqi (.t L1) .c) rfl ?_
  refine WL.as (.t L0) U1 rfl ?_
  refine WL.nil (QS.next (W.del (.dr .rf) ?_))
  refine W.cd (.t L0) (fun h1 => ?_) (fun h1 => ?_)
  ·
   refine W.del (.dr (.dr .rf)) (W.seq (W.region ?_))
   refine WL.st (R.fa fo_59_3 (.t L3)) rfl ?_
   refine WL.st (R.ld sc_3 (.t L0) H0 rfl) rfl ?_
   refine WL.st (R.mv (.t L3)) rfl ?_
   refine WL.st (R.lss (.t L1) (.t L0)) rfl ?_
   refine WL.as (.t L0) (E1 U0) rfl ?_
   refine WL.nil (QS.next (W.del (.dr (.dr (.dr (.dr .rf)))) (W.ret (QS.blkr (QS.thenr ?_)))))
   exact QS.fin (.inl rfl) rfl (.tmp L6 .nil) () (congrArg Value.bool (by rw [operandS, if_pos (by omega)])) (.dr .nil) (fun _ _ _ => trivial)
  ·
   refine W.del (.dr .rf) (W.seq (W.seq (W.region ?_)))
   refine WL.st (R.eqi (.t L0) .c) rfl ?_
   refine WL.st (R.as (.t L0)) rfl ?_
   refine WL.nil (QS.next (W.del (.kp (.dr .rf)) ?_))
   refine W.cd (.t L0) (fun h2 => ?_) (fun h2 => ?_)
   ·
    refine W.skip (QS.next ?_)
    refine W.cdt (.t L0) h2 ?_
    refine W.del (.dr (.dr .rf)) (W.seq (W.region ?_))
    refine WL.st (R.fa fo_59_3 (.t L3)) rfl ?_
    refine WL.st (R.ld sc_3 (.t L0) H0 rfl) rfl ?_
    refine WL.st (R.mv (.t L4)) rfl ?_
    refine WL.st (R.lss (.t L1) (.t L0)) rfl ?_
    refine WL.as (.t L0) (E1 U0) rfl ?_
    refine WL.nil (QS.next (W.del (.dr (.dr (.dr (.dr .rf)))) (W.ret (QS.blkr (QS.thenr ?_)))))
    exact QS.fin (.inl rfl) rfl (.tmp L6 .nil) () (congrArg Value.bool (by rw [operandS, if_neg (by omega), if_pos (by omega)])) (.dr .nil) (fun _ _ _ => trivial)
   ·
    refine W.region ?_
    refine WL.st (R.eqi (.t L1) .c) rfl ?_
    refine WL.as (.t L0) U1 rfl ?_
    refine WL.nil (QS.next (W.del (.dr .rf) ?_))
    refine W.cd (.t L0) (fun h3 => ?_) (fun h3 => ?_)
    ·
     refine W.del (.dr (.dr .rf)) (W.seq (W.region ?_))
     refine WL.st (R.fa fo_59_3 (.t L3)) rfl ?_
     refine WL.st (R.ld sc_3 (.t L0) H0 rfl) rfl ?_
     refine WL.st (R.mv (.t L4)) rfl ?_
     refine WL.st (R.lss (.t L1) (.t L0)) rfl ?_
     refine WL.as (.t L0) (E1 U0) rfl ?_
     refine WL.nil (QS.next (W.del (.dr (.dr (.dr (.dr .rf)))) (W.ret (QS.blkr (QS.thenr ?_)))))
     exact QS.fin (.inl rfl) rfl (.tmp L6 .nil) () (congrArg Value.bool (by rw [operandS, if_neg (by omega), if_pos (by omega)])) (.dr .nil) (fun _ _ _ => trivial)
    ·
     refine W.del (.dr .rf) (W.seq (W.region ?_))
     refine WL.st (R.eqi (.t L0) .c) rfl ?_
     refine WL.st (R.as (.t L0)) rfl ?_
     refine WL.nil (QS.next (W.del (.kp (.dr .rf)) ?_))
     refine W.cd (.t L0) (fun h4 => ?_) (fun h4 => ?_)
     ·
      refine W.del (.dr (.dr .rf)) (W.seq (W.region ?_))
      refine WL.st (R.fa fo_59_3 (.t L3)) rfl ?_
      refine WL.st (R.ld sc_3 (.t L0) H0 rfl) rfl ?_
      refine WL.st (R.leq (.t L0) .c) rfl ?_
      refine WL.as (.t L0) U9 rfl ?_
      refine WL.nil (QS.next (W.del (.dr (.dr (.dr .rf))) (W.ret (QS.blkr (QS.thenr ?_)))))
      exact QS.fin (.inl rfl) rfl (.tmp L6 .nil) () (congrArg Value.bool (by rw [operandS, if_neg (by omega), if_neg (by omega), if_pos (by omega)])) (.dr .nil) (fun _ _ _ => trivial)
     ·
      refine W.del (.dr .rf) (W.seq (W.region ?_))
      refine WL.st (R.eqi (.t L0) .c) rfl ?_
      refine WL.st (R.as (.t L0)) rfl ?_
      refine WL.nil (QS.next (W.del (.kp (.dr (.dr .rf))) ?_))
      refine W.cd (.t L0) (fun h5 => ?_) (fun h5 => ?_)
      ·
       refine W.del (.dr .rf) (W.seq (W.seq (W.region ?_)))
       refine WL.st (R.fa fo_59_4 (.t L3)) rfl ?_
       refine WL.st (R.ld sc_37 (.t L0) H0 rfl) rfl ?_
       refine WL.st (R.lenl sl_37 (.t L0)) rfl ?_
       refine WL.st (R.gtr (.t L0) .c) rfl ?_
       refine WL.nil (QS.next (W.del (.kp (.dr (.dr (.dr .rf)))) ?_))
       refine W.cd (.t L0) (fun h6 => ?_) (fun h6 => ?_)
       ·
        refine W.del (.dr .rf) (W.seq (W.region ?_))
        refine WL.as .c U6 rfl ?_
        refine WL.nil (QS.next (W.ret (QS.thenr (QS.blkr (QS.thenr ?_)))))
        exact QS.fin (.inl rfl) rfl (.tmp L6 .nil) () (congrArg Value.bool (operand_len (by omega) (by omega)).symm) (.dr .nil) (fun _ _ _ => trivial)
       ·
        refine W.del (.dr .rf) (W.skip (QS.next (W.seq (W.region ?_))))
        refine WL.st (R.fa fo_59_4 (.t L3)) rfl ?_
        refine WL.st (R.ld sc_37 (.t L0) H0 rfl) rfl ?_
        refine WL.st (R.lenl sl_37 (.t L0)) rfl ?_
        refine WL.st (R.mv .c) rfl ?_
        refine WL.nil (QS.next (W.del (.kp (.kp (.kp (.dr .rf)))) (W.block ?_)))
        refine W.loop (ι := {j : Nat // j ≤ l.length ∧ ∀ i y, i < j → l[i]? = some y → y ≤ 100}) (fun x => [(39, .int .i64 x.1), (38, .int .i64 l.length), (37, .slice A l.length c1), (6, .bool false)]) (fun x => []) (fun x w => RdI w A l) (fun x => l.length - x.1) ⟨0, Nat.zero_le _, fun i y h => absurd h (by omega)⟩ (.kp rfl (.kp rfl (.kp rfl (.dr (.dr (.dr (.dr (.dr (.dr (.kp rfl (.dr (.dr .nil)))))))))))) (.dr .nil) (fun w h hd => h) ?_
        intro x
        obtain ⟨j, hj1, hj2⟩ := x
        show W _ _ _ _ _ [(39, .int .i64 j), (38, .int .i64 l.length), (37, .slice A l.length c1), (6, .bool false)] [] (fun w => RdI w A l)
        refine W.seq (W.region ?_)
        refine WL.st (R.lss (.t L0) (.t L1)) rfl ?_
        refine WL.nil (QS.next (W.seq ?_))
        refine W.cd (.t L0) (fun h7 => ?_) (fun h7 => ?_)
        ·
         refine W.del (.dr .rf) (W.skip (QS.next (W.seq (W.block (W.seq (W.region ?_))))))
         obtain ⟨x41, hx41⟩ : ∃ x, (l)[j]? = some x := ⟨_, List.getElem?_eq_getElem (by omega)⟩
         refine WL.st (R.ixI sl_37 (.t L2) rfl (.t L0) (l := l) (j := j) rfl (List.getElem?_eq_some_iff.1 hx41).1 (fun w hb => hb.get)) rfl ?_
         refine WL.st (R.ldp sc_3 (.t L0) (fun w hb => RdI.cell (hb.get) hx41)) rfl ?_
         refine WL.st (R.as (.t L0)) rfl ?_
         refine WL.nil (QS.next (W.del (.kp (.dr (.dr .rf))) (W.seq (W.region ?_))))
         refine WL.st (R.mv (.t L0)) rfl ?_
         refine WL.st (R.gtr (.t L0) .c) rfl ?_
         refine WL.nil (QS.next (W.del (.kp (.dr .rf)) ?_))
         refine W.cd (.t L0) (fun h8 => ?_) (fun h8 => ?_)
         ·
          refine W.del (.dr .rf) (W.seq (W.region ?_))
          refine WL.as .c U4 rfl ?_
          refine WL.nil (QS.next (W.ret (QS.blkr (QS.thenr (QS.thenr (QS.blkr (QS.blkr (QS.thenr ?_))))))))
          exact QS.fin (.inl rfl) rfl (.tmp L4 .nil) () (congrArg Value.bool (operand_bad (by omega) hx41 (by omega)).symm) .nil (fun _ _ _ => trivial)
         ·
          refine W.del (.dr .rf) (W.skip (QS.blkn (QS.next (W.region ?_))))
          refine WL.st (R.add (.t L1) .c (wi (by omega) (by omega))) rfl ?_
          refine WL.up (R.mv (.t L0)) U2 rfl ?_
          refine WL.nil ?_
          exact QS.at ⟨j + 1, by omega, below_snoc hj2 hx41 (by omega)⟩ (by dsimp only; omega) (.dr (.dr (.kp rfl (.kp rfl (.kp rfl (.kp rfl .nil)))))) .nil (fun w h hd => h)
        ·
         refine W.del (.dr .rf) (W.exit (QS.thenx (QS.thenx (QS.blkx (QS.blkn (QS.next (W.del (.dr (.dr (.dr .rf))) (W.seq (W.region ?_)))))))))
         refine WL.as .c U0 rfl ?_
         refine WL.nil (QS.next (W.ret ?_))
         first
           | (exact QS.fin (.inl rfl) rfl (.tmp L0 .nil) () (congrArg Value.bool ((operand_tab (by omega) (fun i y hi => hj2 i y (by omega))).trans (decide_eq_true (by omega))).symm) .nil (fun _ _ _ => trivial))
           | (exact QS.fin (.inl rfl) rfl (.tmp L0 .nil) () (congrArg Value.bool (by rw [operandS, if_neg (by omega), if_neg (by omega), if_neg (by omega), if_neg (by omega)])) .nil (fun _ _ _ => trivial))
      ·
       refine W.del (.dr .rf) (W.skip (QS.blkn (QS.next (W.seq (W.region ?_)))))
       refine WL.as .c U6 rfl ?_
       refine WL.nil (QS.next (W.ret ?_))
       first
         | (exact QS.fin (.inl rfl) rfl (.tmp L6 .nil) () (congrArg Value.bool ((operand_tab (by omega) (fun i y hi => hj2 i y (by omega))).trans (decide_eq_true (by omega))).symm) (.dr .nil) (fun _ _ _ => trivial))
         | (exact QS.fin (.inl rfl) rfl (.tmp L6 .nil) () (congrArg Value.bool (by rw [operandS, if_neg (by omega), if_neg (by omega), if_neg (by omega), if_neg (by omega)])) (.dr .nil) (fun _ _ _ => trivial))

theorem law17_need {a1 a2 a3 a4 a5 b1 b2 b3 b4 b5 : Int} {C : Cx} (hb : Hb C C.w0 [] (fun _ => True)) :
    Ret Tryd.prog 17 [.agg #[.int .i64 a1, .int .i64 a2, .int .i64 a3, .int .i64 a4, .int .i64 a5], .agg #[.int .i64 b1, .int .i64 b2, .int .i64 b3, .int .i64 b4, .int .i64 b5]] C (.bool (decide (a1 = b1 ∧ a2 = b2 ∧ a3 = b3 ∧ a4 = b4 ∧ a5 = b5))) := by
 refine Sp.enter (N := 38) (e := entryEnv [.agg #[.int .i64 a1, .int .i64 a2, .int .i64 a3, .int .i64 a4, .int .i64 a5], .agg #[.int .i64 b1, .int .i64 b2, .int .i64 b3, .int .i64 b4, .int .i64 b5]] 0 5) Tryd.func17 rfl rfl (Nat.le_of_ble_eq_true rfl) (entry_ok (Nat.le_of_ble_eq_true rfl) (Nat.le_of_ble_eq_true rfl)) (entry_nd _ _) hb ?_
 show W _ _ _ _ _ [(0, .agg #[.int .i64 a1, .int .i64 a2, .int .i64 a3, .int .i64 a4, .int .i64 a5]), (1, .agg #[.int .i64 b1, .int .i64 b2, .int .i64 b3, .int .i64 b4, .int .i64 b5]), (2, undef), (3, undef), (4, undef)] _ _
 refine W.seq (W.region ?_)
 refine WL.boxu (.t L0) rfl (fun _ => U2) rfl (fun g2 => ?_)
 refine WL.boxu (.t L1) rfl (fun _ => U3) rfl (fun g3 => ?_)
 refine WL.as .c U4 rfl ?_
 refine WL.nil (QS.next (W.seq (W.region ?_)))
 refine WL.st (R.fa fo_31_0 (.t L2)) rfl ?_
 refine WL.st (R.ld sc_3 (.t L0) H1 rfl) rfl ?_
 refine WL.st (R.fa fo_31_0 (.t L5)) rfl ?_
 refine WL.st (R.ld sc_3 (.t L0) H0 rfl) rfl ?_
 refine WL.st (R.eqi (.t L2) (.t L0)) rfl ?_
 refine WL.st (R.mv (.t L0)) rfl ?_
 refine WL.cd L0 U0 U0 (fun hg10 => ?_) (fun hg10 => ?_)
 ·
  refine WL.gy rfl L0 (R.fa fo_31_1 (.t L8)) rfl ?_
  refine WL.gy rfl L1 (R.ld sc_3 (.t L0) H1 rfl) rfl ?_
  refine WL.gy rfl L2 (R.fa fo_31_1 (.t (D1 L1))) rfl ?_
  refine WL.gy rfl L3 (R.ld sc_3 (.t L0) H0 rfl) rfl ?_
  refine WL.gy rfl L4 (R.eqi (.t L2) (.t L0)) rfl ?_
  refine WL.st (R.pkt (.t L5) (.t L0)) rfl ?_
  refine WL.st (R.mv (.t L0)) rfl ?_
  refine WL.cd L0 U0 U0 (fun hg17 => ?_) (fun hg17 => ?_)
  ·
   refine WL.gy rfl L0 (R.fa fo_31_2 (.t (D1 L5))) rfl ?_
   refine WL.gy rfl L1 (R.ld sc_3 (.t L0) H1 rfl) rfl ?_
   refine WL.gy rfl L2 (R.fa fo_31_2 (.t (D1 L8))) rfl ?_
   refine WL.gy rfl L3 (R.ld sc_3 (.t L0) H0 rfl) rfl ?_
   refine WL.gy rfl L4 (R.eqi (.t L2) (.t L0)) rfl ?_
   refine WL.st (R.pkt (.t L5) (.t L0)) rfl ?_
   refine WL.st (R.mv (.t L0)) rfl ?_
   refine WL.cd L0 U0 U0 (fun hg24 => ?_) (fun hg24 => ?_)
   ·
    refine WL.gy rfl L0 (R.fa fo_31_3 (.t (D1 (D1 L2)))) rfl ?_
    refine WL.gy rfl L1 (R.ld sc_3 (.t L0) H1 rfl) rfl ?_
    refine WL.gy rfl L2 (R.fa fo_31_3 (.t (D1 (D1 L5)))) rfl ?_
    refine WL.gy rfl L3 (R.ld sc_3 (.t L0) H0 rfl) rfl ?_
    refine WL.gy rfl L4 (R.eqi (.t L2) (.t L0)) rfl ?_
    refine WL.st (R.pkt (.t L5) (.t L0)) rfl ?_
    refine WL.st (R.mv (.t L0)) rfl ?_
    refine WL.cd L0 U0 U0 (fun hg31 => ?_) (fun hg31 => ?_)
    ·
     refine WL.gy rfl L0 (R.fa fo_31_4 (.t (D1 (D1 L9)))) rfl ?_
     refine WL.gy rfl L1 (R.ld sc_3 (.t L0) H1 rfl) rfl ?_
     refine WL.gy rfl L2 (R.fa fo_31_4 (.t (D1 (D1 (D1 L2))))) rfl ?_
     refine WL.gy rfl L3 (R.ld sc_3 (.t L0) H0 rfl) rfl ?_
     refine WL.gy rfl L4 (R.eqi (.t L2) (.t L0)) rfl ?_
     refine WL.st (R.pkt (.t L5) (.t L0)) rfl ?_
     refine WL.as (.t L0) (E1 (E1 (E1 U7))) rfl ?_
     refine WL.nil (QS.next (W.del (.dr (.dr (.dr (.dr (.dr (.dr (.dr (.dr (.dr (.dr (.dr (.dr (.dr (.dr (.dr (.dr (.dr (.dr (.dr (.dr (.dr (.dr (.dr (.dr (.dr (.dr (.dr (.dr (.dr (.dr (.dr (.dr (.dr .rf))))))))))))))))))))))))))))))))) (W.ret ?_)))
     exact QS.fin (.inl rfl) rfl (.tmp L4 .nil) () (congrArg Value.bool (by first | exact (decide_eq_false (by omega)).symm | exact decide_eq_decide.2 (by omega))) (.dr (.dr .nil)) (fun _ _ _ => trivial)
    ·
     refine WL.gn rfl L0 rfl ?_
     refine WL.gn rfl L1 rfl ?_
     refine WL.gn rfl L2 rfl ?_
     refine WL.gn rfl L3 rfl ?_
     refine WL.gn rfl L4 rfl ?_
     refine WL.st (R.pkf (.t L5) .c) rfl ?_
     refine WL.as (.t L0) (E1 (E1 (E1 U7))) rfl ?_
     refine WL.nil (QS.next (W.del (.dr (.dr (.dr (.dr (.dr (.dr (.dr (.dr (.dr (.dr (.dr (.dr (.dr (.dr (.dr (.dr (.dr (.dr (.dr (.dr (.dr (.dr (.dr (.dr (.dr (.dr (.dr (.dr (.dr (.dr (.dr (.dr (.dr .rf))))))))))))))))))))))))))))))))) (W.ret ?_)))
     exact QS.fin (.inl rfl) rfl (.tmp L4 .nil) () (congrArg Value.bool (by first | exact (decide_eq_false (by omega)).symm | exact decide_eq_decide.2 (by omega))) (.dr (.dr .nil)) (fun _ _ _ => trivial)
   ·
    refine WL.gn rfl L0 rfl ?_
    refine WL.gn rfl L1 rfl ?_
    refine WL.gn rfl L2 rfl ?_
    refine WL.gn rfl L3 rfl ?_
    refine WL.gn rfl L4 rfl ?_
    refine WL.st (R.pkf (.t L5) .c) rfl ?_
    refine WL.st (R.mv (.t L0)) rfl ?_
    refine WL.gn rfl L0 rfl ?_
    refine WL.gn rfl L1 rfl ?_
    refine WL.gn rfl L2 rfl ?_
    refine WL.gn rfl L3 rfl ?_
    refine WL.gn rfl L4 rfl ?_
    refine WL.st (R.pkf (.t L5) .c) rfl ?_
    refine WL.as (.t L0) (E1 (E1 (E1 U7))) rfl ?_
    refine WL.nil (QS.next (W.del (.dr (.dr (.dr (.dr (.dr (.dr (.dr (.dr (.dr (.dr (.dr (.dr (.dr (.dr (.dr (.dr (.dr (.dr (.dr (.dr (.dr (.dr (.dr (.dr (.dr (.dr (.dr (.dr (.dr (.dr (.dr (.dr (.dr .rf))))))))))))))))))))))))))))))))) (W.ret ?_)))
    exact QS.fin (.inl rfl) rfl (.tmp L4 .nil) () (congrArg Value.bool (by first | exact (decide_eq_false (by omega)).symm | exact decide_eq_decide.2 (by omega))) (.dr (.dr .nil)) (fun _ _ _ => trivial)
  ·
   refine WL.gn rfl L0 rfl ?_
   refine WL.gn rfl L1 rfl ?_
   refine WL.gn rfl L2 rfl ?_
   refine WL.gn rfl L3 rfl ?_
   refine WL.gn rfl L4 rfl ?_
   refine WL.st (R.pkf (.t L5) .c) rfl ?_
   refine WL.st (R.mv (.t L0)) rfl ?_
   refine WL.gn rfl L0 rfl ?_
   refine WL.gn rfl L1 rfl ?_
   refine WL.gn rfl L2 rfl ?_
   refine WL.gn rfl L3 rfl ?_
   refine WL.gn rfl L4 rfl ?_
   refine WL.st (R.pkf (.t L5) .c) rfl ?_
   refine WL.st (R.mv (.t L0)) rfl ?_
   refine WL.gn rfl L0 rfl ?_
   refine WL.gn rfl L1 rfl ?_
   refine WL.gn rfl L2 rfl ?_
   refine WL.gn rfl L3 rfl ?_
   refine WL.gn rfl L4 rfl ?_
   refine WL.st (R.pkf (.t L5) .c) rfl ?_
   refine WL.as (.t L0) (E1 (E1 (E1 U7))) rfl ?_
   refine WL.nil (QS.next (W.del (.dr (.dr (.dr (.dr (.dr (.dr (.dr (.dr (.dr (.dr (.dr (.dr (.dr (.dr (.dr (.dr (.dr (.dr (.dr (.dr (.dr (.dr (.dr (.dr (.dr (.dr (.dr (.dr (.dr (.dr (.dr (.dr (.dr .rf))))))))))))))))))))))))))))))))) (W.ret ?_)))
   exact QS.fin (.inl rfl) rfl (.tmp L4 .nil) () (congrArg Value.bool (by first | exact (decide_eq_false (by omega)).symm | exact decide_eq_decide.2 (by omega))) (.dr (.dr .nil)) (fun _ _ _ => trivial)
 ·
  refine WL.gn rfl L0 rfl ?_
  refine WL.gn rfl L1 rfl ?_
  refine WL.gn rfl L2 rfl ?_
  refine WL.gn rfl L3 rfl ?_
  refine WL.gn rfl L4 rfl ?_
  refine WL.st (R.pkf (.t L5) .c) rfl ?_
  refine WL.st (R.mv (.t L0)) rfl ?_
  refine WL.gn rfl L0 rfl ?_
  refine WL.gn rfl L1 rfl ?_
  refine WL.gn rfl L2 rfl ?_
  refine WL.gn rfl L3 rfl ?_
  refine WL.gn rfl L4 rfl ?_
  refine WL.st (R.pkf (.t L5) .c) rfl ?_
  refine WL.st (R.mv (.t L0)) rfl ?_
  refine WL.gn rfl L0 rfl ?_
  refine WL.gn rfl L1 rfl ?_
  refine WL.gn rfl L2 rfl ?_
  refine WL.gn rfl L3 rfl ?_
  refine WL.gn rfl L4 rfl ?_
  refine WL.st (R.pkf (.t L5) .c) rfl ?_
  refine WL.st (R.mv (.t L0)) rfl ?_
  refine WL.gn rfl L0 rfl ?_
  refine WL.gn rfl L1 rfl ?_
  refine WL.gn rfl L2 rfl ?_
  refine WL.gn rfl L3 rfl ?_
  refine WL.gn rfl L4 rfl ?_
  refine WL.st (R.pkf (.t L5) .c) rfl ?_
  refine WL.as (.t L0) (E1 (E1 (E1 U7))) rfl ?_
  refine WL.nil (QS.next (W.del (.dr (.dr (.dr (.dr (.dr (.dr (.dr (.dr (.dr (.dr (.dr (.dr (.dr (.dr (.dr (.dr (.dr (.dr (.dr (.dr (.dr (.dr (.dr (.dr (.dr (.dr (.dr (.dr (.dr (.dr (.dr (.dr (.dr .rf))))))))))))))))))))))))))))))))) (W.ret ?_)))
  exact QS.fin (.inl rfl) rfl (.tmp L4 .nil) () (congrArg Value.bool (by first | exact (decide_eq_false (by omega)).symm | exact decide_eq_decide.2 (by omega))) (.dr (.dr .nil)) (fun _ _ _ => trivial)

end Go.Proofs.YtpaecijilnfkhaaDoor
