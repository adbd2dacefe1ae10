/- Contracts: the references of chapter 16. -/
import Derived.Test.YtpaecijilnfkhaaDoorA2
import Derived.Test.YtpaecijilnfkhaaDoorPr
import Derived.Test.YtpaecijilnfkhaaDoorEng2

namespace Go.Proofs.YtpaecijilnfkhaaDoor
open Go Go.Eng Go.RowKit
theorem ref16_Take {A : Option Addr} {b : List UInt8} {c at_ : Nat} (ha : at_ ≤ b.length) (hl : b.length ≤ 140737488355328) {C : Cx} (hb : Hb C C.w0 [] (fun w => RdB w A b)) :
    Ret Tryd.prog 60 [.slice A b.length c, .int .i64 at_] C (.tuple #[.int .u64 (numV (b.drop at_)), .int .i64 (numL (b.drop at_)), .int .i64 (numE (b.drop at_))]) := by
 refine Sp.enter (N := 82) (e := entryEnv [.slice A b.length c, .int .i64 at_] 0 10) Tryd.func60 rfl rfl (Nat.le_of_ble_eq_true rfl) (entry_ok (Nat.le_of_ble_eq_true rfl) (Nat.le_of_ble_eq_true rfl)) (entry_nd _ _) hb ?_
 show W _ _ _ _ _ [(0, .slice A b.length c), (1, .int .i64 at_), (2, undef), (3, undef), (4, undef), (5, undef), (6, undef), (7, undef), (8, undef), (9, undef)] _ _
 refine W.seq (W.region ?_)
 refine WL.as .c U4 rfl ?_
 refine WL.as .c U5 rfl ?_
 refine WL.as .c U6 rfl ?_
 refine WL.nil (QS.next (W.seq (W.region ?_)))
 refine WL.as .c U7 rfl ?_
 refine WL.nil (QS.next (W.seq ?_))
 refine W.join (ι := {n : Nat // at_ + n ≤ b.length ∧ n ≤ 10 ∧ (∀ j x, j < n → b[at_ + j]? = some x → 128 ≤ x.toNat) ∧ (n < 10 → at_ + n < b.length → ∃ x, b[at_ + n]? = some x ∧ x.toNat < 128)}) (fun x => [(0, .slice A b.length c), (1, .int .i64 at_), (4, .int .u64 0), (5, .int .i64 0), (6, .int .i64 0), (7, .int .i64 x.1)]) (fun x => []) (fun x w => RdB w A b) ?_ ?_
 ·
  refine W.block ?_
  refine W.loop (ι := {n : Nat // at_ + n ≤ b.length ∧ n ≤ 10 ∧ ∀ j x, j < n → b[at_ + j]? = some x → 128 ≤ x.toNat}) (fun x => [(0, .slice A b.length c), (1, .int .i64 at_), (4, .int .u64 0), (5, .int .i64 0), (6, .int .i64 0), (7, .int .i64 x.1)]) (fun x => []) (fun x w => RdB w A b) (fun x => 10 - x.1) ⟨0, by omega, by omega, fun j y h => absurd h (by omega)⟩ (.kp rfl (.kp rfl (.dr (.dr (.kp rfl (.kp rfl (.kp rfl (.kp rfl (.dr (.dr .nil)))))))))) .nil (fun w h hd => h) ?_
  intro x
  obtain ⟨n, hn1, hn2, hn3⟩ := x
  show W _ _ _ _ _ [(0, .slice A b.length c), (1, .int .i64 at_), (4, .int .u64 0), (5, .int .i64 0), (6, .int .i64 0), (7, .int .i64 n)] [] (fun w => RdB w A b)
  refine W.seq (W.seq (W.region ?_))
  refine WL.st (R.mv (.t L1)) rfl ?_
  refine WL.st (R.mv (.t L6)) rfl ?_
  refine WL.st (R.add (.t L1) (.t L0) (wi (by omega) (by omega))) rfl ?_
  refine WL.st (R.mv (.t L3)) rfl ?_
  refine WL.st (R.lenl sl_22 (.t L0)) rfl ?_
  refine WL.st (R.lss (.t L2) (.t L0)) rfl ?_
  refine WL.st (R.mv (.t L0)) rfl ?_
  refine WL.cd L0 U0 U0 (fun hg16 => ?_) (fun hg16 => ?_)
  ·
   refine WL.gy rfl L0 (R.mv (.t L7)) rfl ?_
   refine WL.gy rfl L1 (R.mv (.t L9)) rfl ?_
   refine WL.gy rfl L2 (R.mv (.t (D1 L4))) rfl ?_
   refine WL.gy rfl L3 (R.add (.t L1) (.t L0) (wi (by omega) (by omega))) rfl ?_
   obtain ⟨x21, hx21⟩ : ∃ x, (b)[at_ + n]? = some x := ⟨_, List.getElem?_eq_getElem (by omega)⟩
   have hxb21 : x21.toNat < 256 := x21.toNat_lt
   refine WL.gy rfl L4 (R.ixB sl_22 (.t L3) rfl (.t L0) (l := b) (j := at_ + n) (by omega) (List.getElem?_eq_some_iff.1 hx21).1 (fun w hb => hb.get)) rfl ?_
   refine WL.gy rfl L5 (R.ldp sc_5 (.t L0) (fun w hb => RdB.cell (hb.get) hx21)) rfl ?_
   refine WL.gy rfl L6 (R.geq (.t L0) .c) rfl ?_
   refine WL.st (R.pkt (.t L7) (.t L0)) rfl ?_
   refine WL.st (R.mv (.t L0)) rfl ?_
   refine WL.cd L0 U0 U0 (fun hg25 => ?_) (fun hg25 => ?_)
   ·
    refine WL.gy rfl L0 (R.mv (.t (D1 (D1 L1)))) rfl ?_
    refine WL.gy rfl L1 (R.lss (.t L0) .c) rfl ?_
    refine WL.st (R.pkt (.t L2) (.t L0)) rfl ?_
    refine WL.nil (QS.next (W.del (.kp (.dr (.dr (.dr (.dr (.dr (.dr (.dr (.dr (.dr (.dr (.dr (.dr (.dr (.dr (.dr (.dr (.dr (.dr .rf))))))))))))))))))) ?_))
    refine W.cd (.t L0) (fun h0 => ?_) (fun h0 => ?_)
    ·
     refine W.del (.dr .rf) (W.skip (QS.next (W.block (W.region ?_))))
     refine WL.st (R.mv (.t L5)) rfl ?_
     refine WL.st (R.add (.t L0) .c (wi (by omega) (by omega))) rfl ?_
     refine WL.as (.t L0) U7 rfl ?_
     refine WL.nil (QS.blkn ?_)
     exact QS.at ⟨n + 1, by omega, by omega, skip_snoc hn3 hx21 (by omega)⟩ (by dsimp only; omega) (.dr (.dr (.kp rfl (.kp rfl (.kp rfl (.kp rfl (.kp rfl (.kp rfl .nil)))))))) .nil (fun w h hd => h)
    ·
     refine W.del (.dr .rf) (W.exit (QS.thenx (QS.thenx (QS.blkx ?_))))
     exact QS.at ⟨n, hn1, hn2, hn3, fun _ _ => by omega⟩ trivial (.kp rfl (.kp rfl (.kp rfl (.kp rfl (.kp rfl (.kp rfl .nil)))))) .nil (fun w h hd => h)
   ·
    refine WL.gn rfl L0 rfl ?_
    refine WL.gn rfl L1 rfl ?_
    refine WL.st (R.pkf (.t L2) .c) rfl ?_
    refine WL.nil (QS.next (W.del (.kp (.dr (.dr (.dr (.dr (.dr (.dr (.dr (.dr (.dr (.dr (.dr (.dr (.dr (.dr (.dr (.dr (.dr (.dr .rf))))))))))))))))))) (W.cf (.t L0) (W.del (.dr .rf) (W.exit (QS.thenx (QS.thenx (QS.blkx ?_))))))))
    exact QS.at ⟨n, hn1, hn2, hn3, fun _ _ => ⟨x21, hx21, by omega⟩⟩ trivial (.kp rfl (.kp rfl (.kp rfl (.kp rfl (.kp rfl (.kp rfl .nil)))))) .nil (fun w h hd => h)
  ·
   refine WL.gn rfl L0 rfl ?_
   refine WL.gn rfl L1 rfl ?_
   refine WL.gn rfl L2 rfl ?_
   refine WL.gn rfl L3 rfl ?_
   refine WL.gn rfl L4 rfl ?_
   refine WL.gn rfl L5 rfl ?_
   refine WL.gn rfl L6 rfl ?_
   refine WL.st (R.pkf (.t L7) .c) rfl ?_
   refine WL.st (R.mv (.t L0)) rfl ?_
   refine WL.gn rfl L0 rfl ?_
   refine WL.gn rfl L1 rfl ?_
   refine WL.st (R.pkf (.t L2) .c) rfl ?_
   refine WL.nil (QS.next (W.del (.kp (.dr (.dr (.dr (.dr (.dr (.dr (.dr (.dr (.dr (.dr (.dr (.dr (.dr (.dr (.dr (.dr (.dr (.dr .rf))))))))))))))))))) (W.cf (.t L0) (W.del (.dr .rf) (W.exit (QS.thenx (QS.thenx (QS.blkx ?_))))))))
   exact QS.at ⟨n, hn1, hn2, hn3, fun _ _ => by omega⟩ trivial (.kp rfl (.kp rfl (.kp rfl (.kp rfl (.kp rfl (.kp rfl .nil)))))) .nil (fun w h hd => h)
 ·
  intro x
  obtain ⟨n, hn1, hn2, hn3, hn4⟩ := x
  show QS _ _ _ _ [(0, .slice A b.length c), (1, .int .i64 at_), (4, .int .u64 0), (5, .int .i64 0), (6, .int .i64 0), (7, .int .i64 n)] [] (fun w => RdB w A b)
  refine QS.next (W.seq (W.seq (W.region ?_)))
  refine WL.st (R.mv (.t L5)) rfl ?_
  refine WL.st (R.eqi (.t L0) .c) rfl ?_
  refine WL.nil (QS.next (W.del (.kp (.dr .rf)) ?_))
  refine W.cd (.t L0) (fun h1 => ?_) (fun h1 => ?_)
  ·
   refine W.del (.dr .rf) (W.seq (W.region ?_))
   refine WL.as .c U2 rfl ?_
   refine WL.as .c U3 rfl ?_
   refine WL.as .c U4 rfl ?_
   refine WL.nil (QS.next (W.ret (QS.thenr ?_)))
   have hr := take_10 hn3 (by omega) hn1
   exact QS.fin (.inl rfl) rfl (.tmp L2 (.tmp L3 (.tmp L4 .nil))) () (by rw [numV, numL, numE, hr]; rfl) .nil (fun _ _ _ => trivial)
  ·
   refine W.del (.dr .rf) (W.skip (QS.next (W.seq (W.seq (W.region ?_)))))
   refine WL.st (R.mv (.t L1)) rfl ?_
   refine WL.st (R.mv (.t L6)) rfl ?_
   refine WL.st (R.add (.t L1) (.t L0) (wi (by omega) (by omega))) rfl ?_
   refine WL.st (R.mv (.t L3)) rfl ?_
   refine WL.st (R.lenl sl_22 (.t L0)) rfl ?_
   refine WL.st (R.geq (.t L2) (.t L0)) rfl ?_
   refine WL.nil (QS.next (W.del (.kp (.dr (.dr (.dr (.dr (.dr .rf)))))) ?_))
   refine W.cd (.t L0) (fun h2 => ?_) (fun h2 => ?_)
   ·
    refine W.del (.dr .rf) (W.seq (W.region ?_))
    refine WL.as .c U2 rfl ?_
    refine WL.as .c U3 rfl ?_
    refine WL.as .c U4 rfl ?_
    refine WL.nil (QS.next (W.ret (QS.thenr ?_)))
    have hr := take_torn hn3 (by omega) (by omega)
    exact QS.fin (.inl rfl) rfl (.tmp L2 (.tmp L3 (.tmp L4 .nil))) () (by rw [numV, numL, numE, hr]; rfl) .nil (fun _ _ _ => trivial)
   ·
    refine W.del (.dr .rf) (W.skip (QS.next (W.seq (W.seq ?_))))
    obtain ⟨x, hx, hx1⟩ := hn4 (by omega) (by omega)
    refine W.region ?_
    refine WL.st (R.mv (.t L5)) rfl ?_
    refine WL.st (R.gtr (.t L0) .c) rfl ?_
    refine WL.st (R.mv (.t L0)) rfl ?_
    refine WL.cd L0 U0 U0 (fun hg41 => ?_) (fun hg41 => ?_)
    ·
     refine WL.gy rfl L0 (R.mv (.t L3)) rfl ?_
     refine WL.gy rfl L1 (R.mv (.t L5)) rfl ?_
     refine WL.gy rfl L2 (R.mv (.t (D1 L0))) rfl ?_
     refine WL.gy rfl L3 (R.add (.t L1) (.t L0) (wi (by omega) (by omega))) rfl ?_
     obtain ⟨x46, hx46⟩ : ∃ x, (b)[at_ + n]? = some x := ⟨_, List.getElem?_eq_getElem (by omega)⟩
     have hxb46 : x46.toNat < 256 := x46.toNat_lt
     have hxe46 : x46.toNat = x.toNat := by rw [hx] at hx46; injection hx46 with h; rw [h]
     refine WL.gy rfl L4 (R.ixB sl_22 (.t L3) rfl (.t L0) (l := b) (j := at_ + n) (by omega) (List.getElem?_eq_some_iff.1 hx46).1 (fun w hb => hb.get)) rfl ?_
     refine WL.gy rfl L5 (R.ldp sc_5 (.t L0) (fun w hb => RdB.cell (hb.get) hx46)) rfl ?_
     refine WL.gy rfl L6 (R.eqi (.t L0) .c) rfl ?_
     refine WL.st (R.pkt (.t L7) (.t L0)) rfl ?_
     refine WL.st (R.mv (.t L0)) rfl ?_
     refine WL.cd L0 U0 U0 (fun hg50 => ?_) (fun hg50 => ?_)
     ·
      refine WL.gn rfl L0 rfl ?_
      refine WL.gn rfl L1 rfl ?_
      refine WL.gn rfl L2 rfl ?_
      refine WL.gu rfl L0 rfl ?_
      refine WL.gu rfl L1 rfl ?_
      refine WL.gu rfl L2 rfl ?_
      refine WL.gu rfl L3 rfl ?_
      refine WL.gu rfl L4 rfl ?_
      refine WL.gu rfl L5 rfl ?_
      refine WL.gu rfl L6 rfl ?_
      refine WL.gn rfl (D1 L0) rfl ?_
      refine WL.st (R.pkt (.t (D1 L1)) .c) rfl ?_
      refine WL.nil (QS.next (W.del (.kp (.dr (.dr (.dr (.dr (.dr (.dr (.dr (.dr (.dr (.dr (.dr (.dr (.dr (.dr (.dr (.dr (.dr (.dr (.dr (.dr (.dr (.dr (.dr .rf)))))))))))))))))))))))) (W.ct (.t L0) (W.del (.dr .rf) (W.seq (W.region ?_))))))
      refine WL.as .c U2 rfl ?_
      refine WL.as .c U3 rfl ?_
      refine WL.as .c U4 rfl ?_
      refine WL.nil (QS.next (W.ret (QS.thenr ?_)))
      first
        | (exfalso; omega)
        | (have hr := take_form hn3 (by omega) hx hx1 (by omega); exact QS.fin (.inl rfl) rfl (.tmp L2 (.tmp L3 (.tmp L4 .nil))) () (by rw [numV, numL, numE, hr]; rfl) .nil (fun _ _ _ => trivial))
     ·
      refine WL.gy rfl L0 (R.mv (.t (D1 L7))) rfl ?_
      refine WL.gy rfl L1 (R.eqi (.t L0) .c) rfl ?_
      refine WL.gy rfl L2 (R.mv (.t L0)) rfl ?_
      refine WL.cd L0 U0 U0 (fun hg53 => ?_) (fun hg53 => ?_)
      ·
       refine WL.gy rfl L0 (R.mv (.t (D1 L5))) rfl ?_
       refine WL.gy rfl L1 (R.mv (.t (D1 L7))) rfl ?_
       refine WL.gy rfl L2 (R.mv (.t (D1 (D1 L2)))) rfl ?_
       refine WL.gy rfl L3 (R.add (.t L1) (.t L0) (wi (by omega) (by omega))) rfl ?_
       obtain ⟨x58, hx58⟩ : ∃ x, (b)[at_ + n]? = some x := ⟨_, List.getElem?_eq_getElem (by omega)⟩
       have hxb58 : x58.toNat < 256 := x58.toNat_lt
       have hxe58 : x58.toNat = x.toNat := by rw [hx] at hx58; injection hx58 with h; rw [h]
       refine WL.gy rfl L4 (R.ixB sl_22 (.t L3) rfl (.t L0) (l := b) (j := at_ + n) (by omega) (List.getElem?_eq_some_iff.1 hx58).1 (fun w hb => hb.get)) rfl ?_
       refine WL.gy rfl L5 (R.ldp sc_5 (.t L0) (fun w hb => RdB.cell (hb.get) hx58)) rfl ?_
       refine WL.gy rfl L6 (R.gtr (.t L0) .c) rfl ?_
       refine WL.gy rfl (D1 L0) (R.pkt (.t L7) (.t L0)) rfl ?_
       refine WL.st (R.pkf (.t (D1 L1)) (.t L0)) rfl ?_
       refine WL.nil (QS.next (W.del (.kp (.dr (.dr (.dr (.dr (.dr (.dr (.dr (.dr (.dr (.dr (.dr (.dr (.dr (.dr (.dr (.dr (.dr (.dr (.dr (.dr (.dr (.dr (.dr .rf)))))))))))))))))))))))) ?_))
       refine W.cd (.t L0) (fun h3 => ?_) (fun h3 => ?_)
       ·
        refine W.del (.dr .rf) (W.seq (W.region ?_))
        refine WL.as .c U2 rfl ?_
        refine WL.as .c U3 rfl ?_
        refine WL.as .c U4 rfl ?_
        refine WL.nil (QS.next (W.ret (QS.thenr ?_)))
        first
          | (exfalso; omega)
          | (have hr := take_form hn3 (by omega) hx hx1 (by omega); exact QS.fin (.inl rfl) rfl (.tmp L2 (.tmp L3 (.tmp L4 .nil))) () (by rw [numV, numL, numE, hr]; rfl) .nil (fun _ _ _ => trivial))
       ·
        refine W.del (.dr .rf) (W.skip (QS.next (W.seq (W.region ?_))))
        refine WL.st (R.as .c) rfl ?_
        refine WL.nil (QS.next (W.seq (W.seq (W.region ?_))))
        refine WL.st (R.mv (.t L6)) rfl ?_
        refine WL.st (R.as (.t L0)) rfl ?_
        refine WL.nil (QS.next (W.del (.kp (.dr .rf)) (W.block ?_)))
        have hok := take_ok hn3 (by omega) hx hx1 (by omega)
        have hbn : ∀ k, k ≤ n + 1 → gv ((b.drop (at_ + k)).take (n + 1 - k)) < 18446744073709551616 := fun k hk => gv_bound (by omega) (by omega) (fun y h9 hy => by rw [hx] at hy; injection hy with hy; subst hy; omega) hk
        refine W.loop (ι := {k : Nat // k ≤ n + 1}) (fun x => [(9, .int .i64 ((x.1 : Int) - 1)), (8, .int .u64 (gv ((b.drop (at_ + x.1)).take (n + 1 - x.1)) : Nat)), (0, .slice A b.length c), (1, .int .i64 at_), (4, .int .u64 0), (5, .int .i64 0), (6, .int .i64 0), (7, .int .i64 n)]) (fun x => []) (fun x w => RdB w A b) (fun x => x.1) ⟨n + 1, Nat.le_refl _⟩ (.kp (congrArg (Value.int .i64) (by dsimp only; omega)) (.kp (by simp [gv]) (.kp rfl (.kp rfl (.kp rfl (.kp rfl (.kp rfl (.kp rfl .nil)))))))) .nil (fun w h hd => h) ?_
        intro z
        obtain ⟨k, hk⟩ := z
        show W _ _ _ _ _ [(9, .int .i64 ((k : Int) - 1)), (8, .int .u64 (gv ((b.drop (at_ + k)).take (n + 1 - k)) : Nat)), (0, .slice A b.length c), (1, .int .i64 at_), (4, .int .u64 0), (5, .int .i64 0), (6, .int .i64 0), (7, .int .i64 n)] [] (fun w => RdB w A b)
        refine W.seq (W.seq (W.region ?_))
        refine WL.st (R.mv (.t L0)) rfl ?_
        refine WL.st (R.geq (.t L0) .c) rfl ?_
        refine WL.nil (QS.next (W.del (.kp (.dr .rf)) ?_))
        refine W.cd (.t L0) (fun h4 => ?_) (fun h4 => ?_)
        ·
         refine W.del (.dr .rf) (W.skip (QS.next (W.seq (W.block ?_))))
         obtain ⟨y, hy⟩ : ∃ y, b[at_ + (k - 1)]? = some y := ⟨_, List.getElem?_eq_getElem (by omega)⟩
         have hg := gv_step (m := n + 1 - k) hy
         rw [show at_ + (k - 1) + 1 = at_ + k by omega] at hg
         have hb1 := hbn (k - 1) (by omega)
         rw [show n + 1 - (k - 1) = n + 1 - k + 1 by omega] at hb1
         have hyb : y.toNat < 256 := y.toNat_lt
         refine W.region ?_
         refine WL.st (R.mv (.t L1)) rfl ?_
         refine WL.st (R.mul (.t L0) .c (wu64 (by omega) (by omega))) rfl ?_
         refine WL.st (R.mv (.t L4)) rfl ?_
         refine WL.st (R.mv (.t L6)) rfl ?_
         refine WL.st (R.mv (.t L4)) rfl ?_
         refine WL.st (R.add (.t L1) (.t L0) (wi (by omega) (by omega))) rfl ?_
         refine WL.st (R.ixB sl_22 (.t L3) rfl (.t L0) (j := at_ + (k - 1)) (by omega) (by omega) (fun w hb => hb.get)) rfl ?_
         refine WL.st (R.ldp sc_5 (.t L0) (fun w hb => RdB.cell hb.get hy)) rfl ?_
         refine WL.st (R.remP (.t L0) .c (by omega) (by omega) (rfl)) rfl ?_
         refine WL.st (R.cvi Tryd.underlying5 ti_113 (.t L0) (wu64 (by omega) (by omega))) rfl ?_
         refine WL.st (R.add (.t L8) (.t L0) (wu64 (by omega) (by omega))) rfl ?_
         refine WL.as (.t L0) (E1 U2) rfl ?_
         refine WL.nil (QS.blkn (QS.next (W.del (.dr (.dr (.dr (.dr (.dr (.dr (.dr (.dr (.dr (.dr (.dr .rf))))))))))) (W.region ?_))))
         refine WL.st (R.mv (.t L0)) rfl ?_
         refine WL.st (R.sub (.t L0) .c (wi (by omega) (by omega))) rfl ?_
         refine WL.as (.t L0) U2 rfl ?_
         refine WL.nil ?_
         exact QS.at ⟨k - 1, by omega⟩ (by dsimp only; omega) (.dr (.dr (.kp (congrArg (Value.int .i64) (by dsimp only; omega)) (.kp (congrArg (Value.int .u64) (by dsimp only; rw [show n + 1 - (k - 1) = n + 1 - k + 1 by omega]; omega)) (.kp rfl (.kp rfl (.kp rfl (.kp rfl (.kp rfl (.kp rfl .nil)))))))))) .nil (fun w h hd => h)
        ·
         refine W.del (.dr .rf) (W.exit (QS.thenx (QS.thenx (QS.blkx (QS.next (W.seq (W.region ?_)))))))
         refine WL.st (R.mv (.t L1)) rfl ?_
         refine WL.st (R.mv (.t L8)) rfl ?_
         refine WL.st (R.add (.t L0) .c (wi (by omega) (by omega))) rfl ?_
         refine WL.as (.t L2) U7 rfl ?_
         refine WL.as (.t L0) U8 rfl ?_
         refine WL.as .c U9 rfl ?_
         refine WL.nil (QS.next (W.del (.dr (.dr (.dr .rf))) (W.ret ?_)))
         have hk0 : k = 0 := by omega
         subst hk0
         exact QS.fin (.inl rfl) rfl (.tmp L4 (.tmp L5 (.tmp L6 .nil))) () (by rw [numV, numL, numE, hok]; rfl) .nil (fun _ _ _ => trivial)
      ·
       refine WL.gn rfl L0 rfl ?_
       refine WL.gn rfl L1 rfl ?_
       refine WL.gn rfl L2 rfl ?_
       refine WL.gn rfl L3 rfl ?_
       refine WL.gn rfl L4 rfl ?_
       refine WL.gn rfl L5 rfl ?_
       refine WL.gn rfl L6 rfl ?_
       refine WL.gy rfl (D1 L0) (R.pkf (.t L7) .c) rfl ?_
       refine WL.st (R.pkf (.t (D1 L1)) (.t L0)) rfl ?_
       refine WL.nil (QS.next (W.del (.kp (.dr (.dr (.dr (.dr (.dr (.dr (.dr (.dr (.dr (.dr (.dr (.dr (.dr (.dr (.dr (.dr (.dr (.dr (.dr (.dr (.dr (.dr (.dr .rf)))))))))))))))))))))))) (W.cf (.t L0) (W.del (.dr .rf) (W.skip (QS.next (W.seq (W.region ?_))))))))
       refine WL.st (R.as .c) rfl ?_
       refine WL.nil (QS.next (W.seq (W.seq (W.region ?_))))
       refine WL.st (R.mv (.t L6)) rfl ?_
       refine WL.st (R.as (.t L0)) rfl ?_
       refine WL.nil (QS.next (W.del (.kp (.dr .rf)) (W.block ?_)))
       have hok := take_ok hn3 (by omega) hx hx1 (by omega)
       have hbn : ∀ k, k ≤ n + 1 → gv ((b.drop (at_ + k)).take (n + 1 - k)) < 18446744073709551616 := fun k hk => gv_bound (by omega) (by omega) (fun y h9 hy => by rw [hx] at hy; injection hy with hy; subst hy; omega) hk
       refine W.loop (ι := {k : Nat // k ≤ n + 1}) (fun x => [(9, .int .i64 ((x.1 : Int) - 1)), (8, .int .u64 (gv ((b.drop (at_ + x.1)).take (n + 1 - x.1)) : Nat)), (0, .slice A b.length c), (1, .int .i64 at_), (4, .int .u64 0), (5, .int .i64 0), (6, .int .i64 0), (7, .int .i64 n)]) (fun x => []) (fun x w => RdB w A b) (fun x => x.1) ⟨n + 1, Nat.le_refl _⟩ (.kp (congrArg (Value.int .i64) (by dsimp only; omega)) (.kp (by simp [gv]) (.kp rfl (.kp rfl (.kp rfl (.kp rfl (.kp rfl (.kp rfl .nil)))))))) .nil (fun w h hd => h) ?_
       intro z
       obtain ⟨k, hk⟩ := z
       show W _ _ _ _ _ [(9, .int .i64 ((k : Int) - 1)), (8, .int .u64 (gv ((b.drop (at_ + k)).take (n + 1 - k)) : Nat)), (0, .slice A b.length c), (1, .int .i64 at_), (4, .int .u64 0), (5, .int .i64 0), (6, .int .i64 0), (7, .int .i64 n)] [] (fun w => RdB w A b)
       refine W.seq (W.seq (W.region ?_))
       refine WL.st (R.mv (.t L0)) rfl ?_
       refine WL.st (R.geq (.t L0) .c) rfl ?_
       refine WL.nil (QS.next (W.del (.kp (.dr .rf)) ?_))
       refine W.cd (.t L0) (fun h4 => ?_) (fun h4 => ?_)
       ·
        refine W.del (.dr .rf) (W.skip (QS.next (W.seq (W.block ?_))))
        obtain ⟨y, hy⟩ : ∃ y, b[at_ + (k - 1)]? = some y := ⟨_, List.getElem?_eq_getElem (by omega)⟩
        have hg := gv_step (m := n + 1 - k) hy
        rw [show at_ + (k - 1) + 1 = at_ + k by omega] at hg
        have hb1 := hbn (k - 1) (by omega)
        rw [show n + 1 - (k - 1) = n + 1 - k + 1 by omega] at hb1
        have hyb : y.toNat < 256 := y.toNat_lt
        refine W.region ?_
        refine WL.st (R.mv (.t L1)) rfl ?_
        refine WL.st (R.mul (.t L0) .c (wu64 (by omega) (by omega))) rfl ?_
        refine WL.st (R.mv (.t L4)) rfl ?_
        refine WL.st (R.mv (.t L6)) rfl ?_
        refine WL.st (R.mv (.t L4)) rfl ?_
        refine WL.st (R.add (.t L1) (.t L0) (wi (by omega) (by omega))) rfl ?_
        refine WL.st (R.ixB sl_22 (.t L3) rfl (.t L0) (j := at_ + (k - 1)) (by omega) (by omega) (fun w hb => hb.get)) rfl ?_
        refine WL.st (R.ldp sc_5 (.t L0) (fun w hb => RdB.cell hb.get hy)) rfl ?_
        refine WL.st (R.remP (.t L0) .c (by omega) (by omega) (rfl)) rfl ?_
        refine WL.st (R.cvi Tryd.underlying5 ti_113 (.t L0) (wu64 (by omega) (by omega))) rfl ?_
        refine WL.st (R.add (.t L8) (.t L0) (wu64 (by omega) (by omega))) rfl ?_
        refine WL.as (.t L0) (E1 U2) rfl ?_
        refine WL.nil (QS.blkn (QS.next (W.del (.dr (.dr (.dr (.dr (.dr (.dr (.dr (.dr (.dr (.dr (.dr .rf))))))))))) (W.region ?_))))
        refine WL.st (R.mv (.t L0)) rfl ?_
        refine WL.st (R.sub (.t L0) .c (wi (by omega) (by omega))) rfl ?_
        refine WL.as (.t L0) U2 rfl ?_
        refine WL.nil ?_
        exact QS.at ⟨k - 1, by omega⟩ (by dsimp only; omega) (.dr (.dr (.kp (congrArg (Value.int .i64) (by dsimp only; omega)) (.kp (congrArg (Value.int .u64) (by dsimp only; rw [show n + 1 - (k - 1) = n + 1 - k + 1 by omega]; omega)) (.kp rfl (.kp rfl (.kp rfl (.kp rfl (.kp rfl (.kp rfl .nil)))))))))) .nil (fun w h hd => h)
       ·
        refine W.del (.dr .rf) (W.exit (QS.thenx (QS.thenx (QS.blkx (QS.next (W.seq (W.region ?_)))))))
        refine WL.st (R.mv (.t L1)) rfl ?_
        refine WL.st (R.mv (.t L8)) rfl ?_
        refine WL.st (R.add (.t L0) .c (wi (by omega) (by omega))) rfl ?_
        refine WL.as (.t L2) U7 rfl ?_
        refine WL.as (.t L0) U8 rfl ?_
        refine WL.as .c U9 rfl ?_
        refine WL.nil (QS.next (W.del (.dr (.dr (.dr .rf))) (W.ret ?_)))
        have hk0 : k = 0 := by omega
        subst hk0
        exact QS.fin (.inl rfl) rfl (.tmp L4 (.tmp L5 (.tmp L6 .nil))) () (by rw [numV, numL, numE, hok]; rfl) .nil (fun _ _ _ => trivial)
    ·
     refine WL.gn rfl L0 rfl ?_
     refine WL.gn rfl L1 rfl ?_
     refine WL.gn rfl L2 rfl ?_
     refine WL.gn rfl L3 rfl ?_
     refine WL.gn rfl L4 rfl ?_
     refine WL.gn rfl L5 rfl ?_
     refine WL.gn rfl L6 rfl ?_
     refine WL.st (R.pkf (.t L7) .c) rfl ?_
     refine WL.st (R.mv (.t L0)) rfl ?_
     refine WL.gy rfl L0 (R.mv (.t (D1 L7))) rfl ?_
     refine WL.gy rfl L1 (R.eqi (.t L0) .c) rfl ?_
     refine WL.gy rfl L2 (R.mv (.t L0)) rfl ?_
     refine WL.cd L0 U0 U0 (fun hg53 => ?_) (fun hg53 => ?_)
     ·
      refine WL.gy rfl L0 (R.mv (.t (D1 L5))) rfl ?_
      refine WL.gy rfl L1 (R.mv (.t (D1 L7))) rfl ?_
      refine WL.gy rfl L2 (R.mv (.t (D1 (D1 L2)))) rfl ?_
      refine WL.gy rfl L3 (R.add (.t L1) (.t L0) (wi (by omega) (by omega))) rfl ?_
      obtain ⟨x58, hx58⟩ : ∃ x, (b)[at_ + n]? = some x := ⟨_, List.getElem?_eq_getElem (by omega)⟩
      have hxb58 : x58.toNat < 256 := x58.toNat_lt
      have hxe58 : x58.toNat = x.toNat := by rw [hx] at hx58; injection hx58 with h; rw [h]
      refine WL.gy rfl L4 (R.ixB sl_22 (.t L3) rfl (.t L0) (l := b) (j := at_ + n) (by omega) (List.getElem?_eq_some_iff.1 hx58).1 (fun w hb => hb.get)) rfl ?_
      refine WL.gy rfl L5 (R.ldp sc_5 (.t L0) (fun w hb => RdB.cell (hb.get) hx58)) rfl ?_
      refine WL.gy rfl L6 (R.gtr (.t L0) .c) rfl ?_
      refine WL.gy rfl (D1 L0) (R.pkt (.t L7) (.t L0)) rfl ?_
      refine WL.st (R.pkf (.t (D1 L1)) (.t L0)) rfl ?_
      refine WL.nil (QS.next (W.del (.kp (.dr (.dr (.dr (.dr (.dr (.dr (.dr (.dr (.dr (.dr (.dr (.dr (.dr (.dr (.dr (.dr (.dr (.dr (.dr (.dr (.dr (.dr (.dr .rf)))))))))))))))))))))))) ?_))
      refine W.cd (.t L0) (fun h3 => ?_) (fun h3 => ?_)
      ·
       refine W.del (.dr .rf) (W.seq (W.region ?_))
       refine WL.as .c U2 rfl ?_
       refine WL.as .c U3 rfl ?_
       refine WL.as .c U4 rfl ?_
       refine WL.nil (QS.next (W.ret (QS.thenr ?_)))
       first
         | (exfalso; omega)
         | (have hr := take_form hn3 (by omega) hx hx1 (by omega); exact QS.fin (.inl rfl) rfl (.tmp L2 (.tmp L3 (.tmp L4 .nil))) () (by rw [numV, numL, numE, hr]; rfl) .nil (fun _ _ _ => trivial))
      ·
       refine W.del (.dr .rf) (W.skip (QS.next (W.seq (W.region ?_))))
       refine WL.st (R.as .c) rfl ?_
       refine WL.nil (QS.next (W.seq (W.seq (W.region ?_))))
       refine WL.st (R.mv (.t L6)) rfl ?_
       refine WL.st (R.as (.t L0)) rfl ?_
       refine WL.nil (QS.next (W.del (.kp (.dr .rf)) (W.block ?_)))
       have hok := take_ok hn3 (by omega) hx hx1 (by omega)
       have hbn : ∀ k, k ≤ n + 1 → gv ((b.drop (at_ + k)).take (n + 1 - k)) < 18446744073709551616 := fun k hk => gv_bound (by omega) (by omega) (fun y h9 hy => by rw [hx] at hy; injection hy with hy; subst hy; omega) hk
       refine W.loop (ι := {k : Nat // k ≤ n + 1}) (fun x => [(9, .int .i64 ((x.1 : Int) - 1)), (8, .int .u64 (gv ((b.drop (at_ + x.1)).take (n + 1 - x.1)) : Nat)), (0, .slice A b.length c), (1, .int .i64 at_), (4, .int .u64 0), (5, .int .i64 0), (6, .int .i64 0), (7, .int .i64 n)]) (fun x => []) (fun x w => RdB w A b) (fun x => x.1) ⟨n + 1, Nat.le_refl _⟩ (.kp (congrArg (Value.int .i64) (by dsimp only; omega)) (.kp (by simp [gv]) (.kp rfl (.kp rfl (.kp rfl (.kp rfl (.kp rfl (.kp rfl .nil)))))))) .nil (fun w h hd => h) ?_
       intro z
       obtain ⟨k, hk⟩ := z
       show W _ _ _ _ _ [(9, .int .i64 ((k : Int) - 1)), (8, .int .u64 (gv ((b.drop (at_ + k)).take (n + 1 - k)) : Nat)), (0, .slice A b.length c), (1, .int .i64 at_), (4, .int .u64 0), (5, .int .i64 0), (6, .int .i64 0), (7, .int .i64 n)] [] (fun w => RdB w A b)
       refine W.seq (W.seq (W.region ?_))
       refine WL.st (R.mv (.t L0)) rfl ?_
       refine WL.st (R.geq (.t L0) .c) rfl ?_
       refine WL.nil (QS.next (W.del (.kp (.dr .rf)) ?_))
       refine W.cd (.t L0) (fun h4 => ?_) (fun h4 => ?_)
       ·
        refine W.del (.dr .rf) (W.skip (QS.next (W.seq (W.block ?_))))
        obtain ⟨y, hy⟩ : ∃ y, b[at_ + (k - 1)]? = some y := ⟨_, List.getElem?_eq_getElem (by omega)⟩
        have hg := gv_step (m := n + 1 - k) hy
        rw [show at_ + (k - 1) + 1 = at_ + k by omega] at hg
        have hb1 := hbn (k - 1) (by omega)
        rw [show n + 1 - (k - 1) = n + 1 - k + 1 by omega] at hb1
        have hyb : y.toNat < 256 := y.toNat_lt
        refine W.region ?_
        refine WL.st (R.mv (.t L1)) rfl ?_
        refine WL.st (R.mul (.t L0) .c (wu64 (by omega) (by omega))) rfl ?_
        refine WL.st (R.mv (.t L4)) rfl ?_
        refine WL.st (R.mv (.t L6)) rfl ?_
        refine WL.st (R.mv (.t L4)) rfl ?_
        refine WL.st (R.add (.t L1) (.t L0) (wi (by omega) (by omega))) rfl ?_
        refine WL.st (R.ixB sl_22 (.t L3) rfl (.t L0) (j := at_ + (k - 1)) (by omega) (by omega) (fun w hb => hb.get)) rfl ?_
        refine WL.st (R.ldp sc_5 (.t L0) (fun w hb => RdB.cell hb.get hy)) rfl ?_
        refine WL.st (R.remP (.t L0) .c (by omega) (by omega) (rfl)) rfl ?_
        refine WL.st (R.cvi Tryd.underlying5 ti_113 (.t L0) (wu64 (by omega) (by omega))) rfl ?_
        refine WL.st (R.add (.t L8) (.t L0) (wu64 (by omega) (by omega))) rfl ?_
        refine WL.as (.t L0) (E1 U2) rfl ?_
        refine WL.nil (QS.blkn (QS.next (W.del (.dr (.dr (.dr (.dr (.dr (.dr (.dr (.dr (.dr (.dr (.dr .rf))))))))))) (W.region ?_))))
        refine WL.st (R.mv (.t L0)) rfl ?_
        refine WL.st (R.sub (.t L0) .c (wi (by omega) (by omega))) rfl ?_
        refine WL.as (.t L0) U2 rfl ?_
        refine WL.nil ?_
        exact QS.at ⟨k - 1, by omega⟩ (by dsimp only; omega) (.dr (.dr (.kp (congrArg (Value.int .i64) (by dsimp only; omega)) (.kp (congrArg (Value.int .u64) (by dsimp only; rw [show n + 1 - (k - 1) = n + 1 - k + 1 by omega]; omega)) (.kp rfl (.kp rfl (.kp rfl (.kp rfl (.kp rfl (.kp rfl .nil)))))))))) .nil (fun w h hd => h)
       ·
        refine W.del (.dr .rf) (W.exit (QS.thenx (QS.thenx (QS.blkx (QS.next (W.seq (W.region ?_)))))))
        refine WL.st (R.mv (.t L1)) rfl ?_
        refine WL.st (R.mv (.t L8)) rfl ?_
        refine WL.st (R.add (.t L0) .c (wi (by omega) (by omega))) rfl ?_
        refine WL.as (.t L2) U7 rfl ?_
        refine WL.as (.t L0) U8 rfl ?_
        refine WL.as .c U9 rfl ?_
        refine WL.nil (QS.next (W.del (.dr (.dr (.dr .rf))) (W.ret ?_)))
        have hk0 : k = 0 := by omega
        subst hk0
        exact QS.fin (.inl rfl) rfl (.tmp L4 (.tmp L5 (.tmp L6 .nil))) () (by rw [numV, numL, numE, hok]; rfl) .nil (fun _ _ _ => trivial)
     ·
      refine WL.gn rfl L0 rfl ?_
      refine WL.gn rfl L1 rfl ?_
      refine WL.gn rfl L2 rfl ?_
      refine WL.gn rfl L3 rfl ?_
      refine WL.gn rfl L4 rfl ?_
      refine WL.gn rfl L5 rfl ?_
      refine WL.gn rfl L6 rfl ?_
      refine WL.gy rfl (D1 L0) (R.pkf (.t L7) .c) rfl ?_
      refine WL.st (R.pkf (.t (D1 L1)) (.t L0)) rfl ?_
      refine WL.nil (QS.next (W.del (.kp (.dr (.dr (.dr (.dr (.dr (.dr (.dr (.dr (.dr (.dr (.dr (.dr (.dr (.dr (.dr (.dr (.dr (.dr (.dr (.dr (.dr (.dr (.dr .rf)))))))))))))))))))))))) (W.cf (.t L0) (W.del (.dr .rf) (W.skip (QS.next (W.seq (W.region ?_))))))))
      refine WL.st (R.as .c) rfl ?_
      refine WL.nil (QS.next (W.seq (W.seq (W.region ?_))))
      refine WL.st (R.mv (.t L6)) rfl ?_
      refine WL.st (R.as (.t L0)) rfl ?_
      refine WL.nil (QS.next (W.del (.kp (.dr .rf)) (W.block ?_)))
      have hok := take_ok hn3 (by omega) hx hx1 (by omega)
      have hbn : ∀ k, k ≤ n + 1 → gv ((b.drop (at_ + k)).take (n + 1 - k)) < 18446744073709551616 := fun k hk => gv_bound (by omega) (by omega) (fun y h9 hy => by rw [hx] at hy; injection hy with hy; subst hy; omega) hk
      refine W.loop (ι := {k : Nat // k ≤ n + 1}) (fun x => [(9, .int .i64 ((x.1 : Int) - 1)), (8, .int .u64 (gv ((b.drop (at_ + x.1)).take (n + 1 - x.1)) : Nat)), (0, .slice A b.length c), (1, .int .i64 at_), (4, .int .u64 0), (5, .int .i64 0), (6, .int .i64 0), (7, .int .i64 n)]) (fun x => []) (fun x w => RdB w A b) (fun x => x.1) ⟨n + 1, Nat.le_refl _⟩ (.kp (congrArg (Value.int .i64) (by dsimp only; omega)) (.kp (by simp [gv]) (.kp rfl (.kp rfl (.kp rfl (.kp rfl (.kp rfl (.kp rfl .nil)))))))) .nil (fun w h hd => h) ?_
      intro z
      obtain ⟨k, hk⟩ := z
      show W _ _ _ _ _ [(9, .int .i64 ((k : Int) - 1)), (8, .int .u64 (gv ((b.drop (at_ + k)).take (n + 1 - k)) : Nat)), (0, .slice A b.length c), (1, .int .i64 at_), (4, .int .u64 0), (5, .int .i64 0), (6, .int .i64 0), (7, .int .i64 n)] [] (fun w => RdB w A b)
      refine W.seq (W.seq (W.region ?_))
      refine WL.st (R.mv (.t L0)) rfl ?_
      refine WL.st (R.geq (.t L0) .c) rfl ?_
      refine WL.nil (QS.next (W.del (.kp (.dr .rf)) ?_))
      refine W.cd (.t L0) (fun h4 => ?_) (fun h4 => ?_)
      ·
       refine W.del (.dr .rf) (W.skip (QS.next (W.seq (W.block ?_))))
       obtain ⟨y, hy⟩ : ∃ y, b[at_ + (k - 1)]? = some y := ⟨_, List.getElem?_eq_getElem (by omega)⟩
       have hg := gv_step (m := n + 1 - k) hy
       rw [show at_ + (k - 1) + 1 = at_ + k by omega] at hg
       have hb1 := hbn (k - 1) (by omega)
       rw [show n + 1 - (k - 1) = n + 1 - k + 1 by omega] at hb1
       have hyb : y.toNat < 256 := y.toNat_lt
       refine W.region ?_
       refine WL.st (R.mv (.t L1)) rfl ?_
       refine WL.st (R.mul (.t L0) .c (wu64 (by omega) (by omega))) rfl ?_
       refine WL.st (R.mv (.t L4)) rfl ?_
       refine WL.st (R.mv (.t L6)) rfl ?_
       refine WL.st (R.mv (.t L4)) rfl ?_
       refine WL.st (R.add (.t L1) (.t L0) (wi (by omega) (by omega))) rfl ?_
       refine WL.st (R.ixB sl_22 (.t L3) rfl (.t L0) (j := at_ + (k - 1)) (by omega) (by omega) (fun w hb => hb.get)) rfl ?_
       refine WL.st (R.ldp sc_5 (.t L0) (fun w hb => RdB.cell hb.get hy)) rfl ?_
       refine WL.st (R.remP (.t L0) .c (by omega) (by omega) (rfl)) rfl ?_
       refine WL.st (R.cvi Tryd.underlying5 ti_113 (.t L0) (wu64 (by omega) (by omega))) rfl ?_
       refine WL.st (R.add (.t L8) (.t L0) (wu64 (by omega) (by omega))) rfl ?_
       refine WL.as (.t L0) (E1 U2) rfl ?_
       refine WL.nil (QS.blkn (QS.next (W.del (.dr (.dr (.dr (.dr (.dr (.dr (.dr (.dr (.dr (.dr (.dr .rf))))))))))) (W.region ?_))))
       refine WL.st (R.mv (.t L0)) rfl ?_
       refine WL.st (R.sub (.t L0) .c (wi (by omega) (by omega))) rfl ?_
       refine WL.as (.t L0) U2 rfl ?_
       refine WL.nil ?_
       exact QS.at ⟨k - 1, by omega⟩ (by dsimp only; omega) (.dr (.dr (.kp (congrArg (Value.int .i64) (by dsimp only; omega)) (.kp (congrArg (Value.int .u64) (by dsimp only; rw [show n + 1 - (k - 1) = n + 1 - k + 1 by omega]; omega)) (.kp rfl (.kp rfl (.kp rfl (.kp rfl (.kp rfl (.kp rfl .nil)))))))))) .nil (fun w h hd => h)
      ·
       refine W.del (.dr .rf) (W.exit (QS.thenx (QS.thenx (QS.blkx (QS.next (W.seq (W.region ?_)))))))
       refine WL.st (R.mv (.t L1)) rfl ?_
       refine WL.st (R.mv (.t L8)) rfl ?_
       refine WL.st (R.add (.t L0) .c (wi (by omega) (by omega))) rfl ?_
       refine WL.as (.t L2) U7 rfl ?_
       refine WL.as (.t L0) U8 rfl ?_
       refine WL.as .c U9 rfl ?_
       refine WL.nil (QS.next (W.del (.dr (.dr (.dr .rf))) (W.ret ?_)))
       have hk0 : k = 0 := by omega
       subst hk0
       exact QS.fin (.inl rfl) rfl (.tmp L4 (.tmp L5 (.tmp L6 .nil))) () (by rw [numV, numL, numE, hok]; rfl) .nil (fun _ _ _ => trivial)

set_option maxHeartbeats 1000000 in
theorem ref16_Next {A : Option Addr} {b : List UInt8} {c : Nat} {at_ : Int} (hc : b.length ≤ c) (hl : b.length ≤ 140737488355328) {C : Cx} (hb : Hb C C.w0 [] (fun w => RdB w A b)) :
    Sp Tryd.prog 32 [.slice A b.length c, .int .i64 at_] C (ι := Option Addr × Nat) (fun x => .tuple #[instrV (nextS b at_).1 x.1 x.2, .int .i64 (nextS b at_).2]) (fun _ => []) (fun x w => RdI w x.1 (nextS b at_).1.widths) := by
 refine Sp.enter (N := 137) (e := entryEnv [.slice A b.length c, .int .i64 at_] 0 14) Tryd.func32 rfl rfl (Nat.le_of_ble_eq_true rfl) (entry_ok (Nat.le_of_ble_eq_true rfl) (Nat.le_of_ble_eq_true rfl)) (entry_nd _ _) hb ?_
 show W _ _ _ _ _ [(0, .slice A b.length c), (1, .int .i64 at_), (2, undef), (3, undef), (4, undef), (5, undef), (6, undef), (7, undef), (8, undef), (9, undef), (10, undef), (11, undef), (12, undef), (13, undef)] _ _
 refine W.seq (W.region ?_)
 refine WL.allocu z_59 (fun _ => U4) rfl (fun g4 => ?_)
 refine WL.as .c U5 rfl ?_
 refine WL.nil (QS.next (W.seq (W.seq (W.region ?_))))
 refine WL.st (R.mv (.t L1)) rfl ?_
 refine WL.st (R.lss (.t L0) .c) rfl ?_
 refine WL.st (R.mv (.t L0)) rfl ?_
 refine WL.cd L0 U0 U0 (fun hg16 => ?_) (fun hg16 => ?_)
 ·
  refine WL.gn rfl L0 rfl ?_
  refine WL.gn rfl L1 rfl ?_
  refine WL.gn rfl L2 rfl ?_
  refine WL.gn rfl L3 rfl ?_
  refine WL.st (R.pkt (.t L4) .c) rfl ?_
  refine WL.nil (QS.next (W.del (.kp (.dr (.dr (.dr (.dr (.dr (.dr (.dr .rf)))))))) (W.ct (.t L0) (W.del (.dr .rf) (W.seq (W.region ?_))))))
  refine WL.st (R.bld (z := [.int .i64 0, .int .i64 0, .int .i64 0, .int .i64 0, .slice none 0 0]) Tryd.underlying59 (by kernel_rfl) z_59 .nil) rfl ?_
  refine WL.sto sz_59 (.t L5) (.t L0) rfl rfl rfl C0 (by repeat constructor) ?_
  refine WL.as .c U6 rfl ?_
  refine WL.nil (QS.next (W.del (.dr .rf) (W.ret (QS.thenr ?_))))
  have hf := next_rng (b := b) (at_ := at_) (by omega)
  exact QS.fin (.inl rfl) rfl (.agg ag_59 rfl L4 H0 (.tmp L5 .nil)) (none, 0) (by rw [hf]; rfl) (.dr .nil) (fun w _ _ => by rw [hf]; exact Rd.nil)
 ·
  refine WL.gy rfl L0 (R.mv (.t L4)) rfl ?_
  refine WL.gy rfl L1 (R.mv (.t L4)) rfl ?_
  refine WL.gy rfl L2 (R.lenl sl_22 (.t L0)) rfl ?_
  refine WL.gy rfl L3 (R.geq (.t L2) (.t L0)) rfl ?_
  refine WL.st (R.pkf (.t L4) (.t L0)) rfl ?_
  refine WL.nil (QS.next (W.del (.kp (.dr (.dr (.dr (.dr (.dr (.dr (.dr .rf)))))))) ?_))
  refine W.cd (.t L0) (fun h0 => ?_) (fun h0 => ?_)
  ·
   refine W.del (.dr .rf) (W.seq (W.region ?_))
   refine WL.st (R.bld (z := [.int .i64 0, .int .i64 0, .int .i64 0, .int .i64 0, .slice none 0 0]) Tryd.underlying59 (by kernel_rfl) z_59 .nil) rfl ?_
   refine WL.sto sz_59 (.t L5) (.t L0) rfl rfl rfl C0 (by repeat constructor) ?_
   refine WL.as .c U6 rfl ?_
   refine WL.nil (QS.next (W.del (.dr .rf) (W.ret (QS.thenr ?_))))
   have hf := next_rng (b := b) (at_ := at_) (by omega)
   exact QS.fin (.inl rfl) rfl (.agg ag_59 rfl L4 H0 (.tmp L5 .nil)) (none, 0) (by rw [hf]; rfl) (.dr .nil) (fun w _ _ => by rw [hf]; exact Rd.nil)
  ·
   refine W.del (.dr .rf) (W.skip (QS.next (W.seq ?_)))
   obtain ⟨k, rfl⟩ : ∃ k : Nat, at_ = (k : Int) := ⟨at_.toNat, by omega⟩
   obtain ⟨x, hx⟩ : ∃ x, b[k]? = some x := ⟨_, List.getElem?_eq_getElem (by omega)⟩
   have hxb : x.toNat < 256 := x.toNat_lt
   have hnb := numL_bd (b.drop (k + 1))
   rw [List.length_drop] at hnb
   refine W.draw 15 mixed (by kernel_rfl) ?_
   refine HD.st (R.mv (.t L0)) rfl ?_
   refine HD.st (R.mv (.t L2)) rfl ?_
   refine HD.st (R.ixB sl_22 (.t L1) rfl (.t L0) (j := k) rfl (by omega) (fun w hb => hb.get)) rfl ?_
   refine HD.st (R.ldp sc_5 (.t L0) (fun w hb => RdB.cell hb.get hx)) rfl ?_
   refine HD.st (R.quoP (.t L0) .c (by omega) (by omega) (wu8 (by omega) (by omega))) rfl ?_
   refine HD.st (R.cvi Tryd.underlying5 ti_3 (.t L0) (wi (by omega) (by omega))) rfl ?_
   refine HD.st (R.mv (.t L6)) rfl ?_
   refine HD.st (R.mv (.t L8)) rfl ?_
   refine HD.st (R.ixB sl_22 (.t L1) rfl (.t L0) (j := k) rfl (by omega) (fun w hb => hb.get)) rfl ?_
   refine HD.st (R.ldp sc_5 (.t L0) (fun w hb => RdB.cell hb.get hx)) rfl ?_
   refine HD.st (R.remP (.t L0) .c (by omega) (by omega) (rfl)) rfl ?_
   refine HD.st (R.cvi Tryd.underlying5 ti_113 (.t L0) (wu64 (by omega) (by omega))) rfl ?_
   refine HD.up (R.as (.t L6)) (E1 U8) rfl ?_
   refine HD.up (R.as (.t L0)) (E1 U9) rfl ?_
   refine HD.up (R.as .c) (E1 (E1 U0)) rfl ?_
   refine HD.nil (WL.nil (QS.next (W.del (.dr (.dr (.dr (.dr (.dr (.dr (.dr (.dr (.dr (.dr (.dr (.dr .rf)))))))))))) (W.seq (W.seq (W.region ?_))))))
   refine WL.st (R.mv (.t L6)) rfl ?_
   refine WL.st (R.eqi (.t L0) .c) rfl ?_
   refine WL.nil (QS.next (W.del (.kp (.dr .rf)) ?_))
   refine W.cd (.t L0) (fun h1 => ?_) (fun h1 => ?_)
   ·
    refine W.del (.dr .rf) (W.seq (W.region ?_))
    refine WL.st (R.bld (z := [.int .i64 0, .int .i64 0, .int .i64 0, .int .i64 0, .slice none 0 0]) Tryd.underlying59 (by kernel_rfl) z_59 .nil) rfl ?_
    refine WL.sto sz_59 (.t L5) (.t L0) rfl rfl rfl C0 (by repeat constructor) ?_
    refine WL.as .c U6 rfl ?_
    refine WL.nil (QS.next (W.del (.dr .rf) (W.ret (QS.thenr ?_))))
    have hf := next_op0 hx (by omega)
    exact QS.fin (.inl rfl) rfl (.agg ag_59 rfl L4 H0 (.tmp L5 .nil)) (none, 0) (by rw [hf]; rfl) (.dr .nil) (fun w _ _ => by rw [hf]; exact Rd.nil)
   ·
    refine W.del (.dr .rf) (W.skip (QS.next (W.seq ?_)))
    refine W.join (ι := {p : Int × Int // (p.1 ≤ 2147483647 → nextS b k = finS b k p.2 ((x.toNat / 16 : Nat) : Int) p.1) ∧ (2147483647 < p.1 → nextS b k = (zeroI, 161)) ∧ 0 ≤ p.1 ∧ p.1 ≤ 2147483662 ∧ 1 ≤ p.2 ∧ k + p.2 ≤ b.length}) (fun z => [(0, .slice A b.length c), (1, .int .i64 k), (4, .pointer (some ⟨g4, 0, none⟩)), (5, .int .i64 0), (6, .int .i64 ((x.toNat / 16 : Nat) : Int)), (7, .int .u64 z.1.1), (8, .int .i64 z.1.2)]) (fun z => [blk g4 59 [.int .i64 0, .int .i64 0, .int .i64 0, .int .i64 0, .slice none 0 0]]) (fun z w => RdB w A b) ?_ ?_
    ·
     refine W.seq (W.region ?_)
     refine WL.st (R.mv (.t L7)) rfl ?_
     refine WL.st (R.eqi (.t L0) .c) rfl ?_
     refine WL.nil (QS.next (W.del (.kp (.dr .rf)) ?_))
     refine W.cd (.t L0) (fun h2 => ?_) (fun h2 => ?_)
     ·
      refine W.del (.dr .rf) (W.seq (W.region ?_))
      refine WL.st (R.mv (.t L0)) rfl ?_
      refine WL.st (R.mv (.t L2)) rfl ?_
      refine WL.st (R.add (.t L0) .c (wi (by omega) (by omega))) rfl ?_
      refine WL.callr gf_60 .f (.cons (.t L2) (.cons (.t L0) .nil)) (fun w hb => (ref16_Take (at_ := k + 1) (by omega) hl (hb.imp fun _ h => h))) rfl ?_
      refine WL.st (R.mv (.t L0)) rfl ?_
      refine WL.st (R.ex (.t L0) .here) rfl ?_
      refine WL.st (R.ex (.t L1) (.skip .here)) rfl ?_
      refine WL.st (R.ex (.t L2) (.skip (.skip .here))) rfl ?_
      refine WL.as (.t L2) (E1 U7) rfl ?_
      refine WL.as (.t L1) (E1 U8) rfl ?_
      refine WL.as (.t L0) (E1 U9) rfl ?_
      refine WL.nil (QS.next (W.del (.dr (.dr (.dr (.dr (.dr (.dr (.dr (.dr .rf)))))))) (W.seq (W.seq (W.region ?_)))))
      refine WL.st (R.mv (.t (D1 L1))) rfl ?_
      refine WL.st (R.nei (.t L0) .c) rfl ?_
      refine WL.nil (QS.next (W.del (.kp (.dr .rf)) ?_))
      refine W.cd (.t L0) (fun h3 => ?_) (fun h3 => ?_)
      ·
       refine W.del (.dr .rf) (W.seq (W.region ?_))
       refine WL.st (R.bld (z := [.int .i64 0, .int .i64 0, .int .i64 0, .int .i64 0, .slice none 0 0]) Tryd.underlying59 (by kernel_rfl) z_59 .nil) rfl ?_
       refine WL.st (R.mv (.t (D1 L2))) rfl ?_
       refine WL.sto sz_59 (.t L6) (.t L1) rfl rfl rfl C0 (by repeat constructor) ?_
       refine WL.as (.t L0) U7 rfl ?_
       refine WL.nil (QS.next (W.del (.dr (.dr .rf)) (W.ret (QS.thenr (QS.thenr (QS.thenr ?_))))))
       have hf := next_err hx (by omega) (by omega) (by omega)
       exact QS.fin (.inl rfl) rfl (.agg ag_59 rfl L4 H0 (.tmp L5 .nil)) (none, 0) (by rw [hf]; rfl) (.dr .nil) (fun w _ _ => by rw [hf]; exact Rd.nil)
      ·
       refine W.del (.dr .rf) (W.skip (QS.next (W.seq (W.region ?_))))
       refine WL.st (R.mv (.t L9)) rfl ?_
       refine WL.st (R.mv (.t (D1 L1))) rfl ?_
       refine WL.st (R.add .c (.t L0) (wi (by omega) (by omega))) rfl ?_
       refine WL.as (.t L2) (E1 U0) rfl ?_
       refine WL.as (.t L0) (E1 U1) rfl ?_
       refine WL.nil (QS.next (W.del (.dr (.dr (.dr .rf))) (W.seq (W.seq (W.region ?_)))))
       refine WL.st (R.mv (.t L7)) rfl ?_
       refine WL.st (R.gtr (.t L0) .c) rfl ?_
       refine WL.nil (QS.next (W.del (.kp (.dr .rf)) ?_))
       refine W.cd (.t L0) (fun h4 => ?_) (fun h4 => ?_)
       ·
        refine W.del (.dr .rf) (W.seq (W.region ?_))
        refine WL.st (R.bld (z := [.int .i64 0, .int .i64 0, .int .i64 0, .int .i64 0, .slice none 0 0]) Tryd.underlying59 (by kernel_rfl) z_59 .nil) rfl ?_
        refine WL.sto sz_59 (.t L5) (.t L0) rfl rfl rfl C0 (by repeat constructor) ?_
        refine WL.as .c U6 rfl ?_
        refine WL.nil (QS.next (W.del (.dr .rf) (W.ret (QS.thenr (QS.thenr (QS.thenr ?_))))))
        have hf := next_big hx (by omega) (by omega) (by omega) (by omega)
        exact QS.fin (.inl rfl) rfl (.agg ag_59 rfl L4 H0 (.tmp L5 .nil)) (none, 0) (by rw [hf]; rfl) (.dr .nil) (fun w _ _ => by rw [hf]; exact Rd.nil)
       ·
        refine W.del (.dr .rf) (W.skip (QS.next (W.region ?_)))
        refine WL.st (R.mv (.t L7)) rfl ?_
        refine WL.st (R.add (.t L0) .c (wu64 (by omega) (by omega))) rfl ?_
        refine WL.as (.t L0) U9 rfl ?_
        refine WL.nil ?_
        exact QS.at ⟨(numV (b.drop (k + 1)) + 15, 1 + numL (b.drop (k + 1))), fun _ => next_long hx (by omega) (by omega) (by omega) (by dsimp only at *; omega), fun _ => next_big hx (by omega) (by omega) (by omega) (by dsimp only at *; omega), by dsimp only; omega, by dsimp only; omega, by dsimp only; omega, by dsimp only; omega⟩ trivial (.dr (.dr (.kp rfl (.kp rfl (.dr (.dr (.kp rfl (.kp (congrArg (Value.int .i64) (by omega)) (.kp rfl (.kp rfl (.kp rfl (.dr (.dr (.dr (.dr (.dr .nil)))))))))))))))) (.kp rfl .nil) (fun w h hd => h)
     ·
      refine W.del (.dr .rf) (W.skip ?_)
      exact QS.at ⟨(((x.toNat % 16 : Nat) : Int), 1), fun _ => next_short hx (by omega) (by omega), fun _ => by dsimp only at *; omega, by dsimp only; omega, by dsimp only; omega, by dsimp only; omega, by dsimp only; omega⟩ trivial (.kp rfl (.kp rfl (.dr (.dr (.kp rfl (.kp rfl (.kp rfl (.kp rfl (.kp rfl (.dr (.dr (.dr (.dr (.dr .nil)))))))))))))) (.kp rfl .nil) (fun w h hd => h)
    ·
     intro z
     obtain ⟨⟨n, sz⟩, hj1, hj2, hj3, hj4, hj5, hj6⟩ := z
     dsimp only at hj1 hj2 hj3 hj4 hj5 hj6
     show QS _ _ _ _ [(0, .slice A b.length c), (1, .int .i64 k), (4, .pointer (some ⟨g4, 0, none⟩)), (5, .int .i64 0), (6, .int .i64 ((x.toNat / 16 : Nat) : Int)), (7, .int .u64 n), (8, .int .i64 sz)] [blk g4 59 [.int .i64 0, .int .i64 0, .int .i64 0, .int .i64 0, .slice none 0 0]] (fun w => RdB w A b)
     refine QS.next (W.seq (W.region ?_))
     refine WL.st (R.mv (.t L1)) rfl ?_
     refine WL.st (R.mv (.t L7)) rfl ?_
     refine WL.st (R.mv (.t L6)) rfl ?_
     refine WL.st (R.bld (z := [.int .i64 0, .int .i64 0, .int .i64 0, .int .i64 0, .slice none 0 0]) Tryd.underlying59 (by kernel_rfl) z_59 (.cons fo_59_0 fz_59_0 rfl (.t L2) rfl (by repeat constructor) (.cons fo_59_1 fz_59_1 rfl (.t L1) rfl (by repeat constructor) (.cons fo_59_2 fz_59_2 rfl (.t L0) rfl (by repeat constructor) .nil)))) rfl ?_
     refine WL.alloc z_59 rfl (fun g12 => ?_)
     refine WL.sto sz_59 (.t L0) (.t L1) rfl rfl rfl C0 (by repeat constructor) ?_
     refine WL.nil (QS.next (W.del (.kp (.dr (.dr (.dr (.dr .rf))))) (W.seq (W.seq (W.region ?_)))))
     refine WL.st (R.mv (.t L6)) rfl ?_
     refine WL.st (R.gtr (.t L0) .c) rfl ?_
     refine WL.nil (QS.next (W.del (.kp (.dr .rf)) ?_))
     refine W.cd (.t L0) (fun h5 => ?_) (fun h5 => ?_)
     ·
      refine W.del (.dr .rf) (W.seq (W.region ?_))
      refine WL.st (R.bld (z := [.int .i64 0, .int .i64 0, .int .i64 0, .int .i64 0, .slice none 0 0]) Tryd.underlying59 (by kernel_rfl) z_59 .nil) rfl ?_
      refine WL.sto sz_59 (.t L4) (.t L0) rfl rfl rfl C1 (by repeat constructor) ?_
      refine WL.as .c U5 rfl ?_
      refine WL.nil (QS.next (W.del (.dr .rf) (W.ret (QS.thenr ?_))))
      have hf := hj2 (by omega)
      exact QS.fin (.inl rfl) rfl (.agg ag_59 rfl L3 H1 (.tmp L4 .nil)) (none, 0) (by rw [hf]; rfl) (.dr (.dr .nil)) (fun w _ _ => by rw [hf]; exact Rd.nil)
     ·
      refine W.del (.dr .rf) (W.skip (QS.next (W.seq (W.seq ?_))))
      obtain ⟨kd, hkd⟩ : ∃ kd : Int, ((x.toNat / 16 : Nat) : Int) = kd := ⟨_, rfl⟩
      have hkd1 : 1 ≤ kd ∧ kd ≤ 15 := by omega
      have hfn := hj1 (by omega)
      rw [hkd] at hfn
      refine W.region ?_
      refine WL.st (R.mv (.t L5)) rfl ?_
      refine WL.nil (QS.next (W.block (W.seq (W.region ?_))))
      refine WL.st (R.eqi (.t L0) .c) rfl ?_
      refine WL.st (R.as (.t L0)) rfl ?_
      refine WL.nil (QS.next (W.del (.kp (.dr .rf)) ?_))
      refine W.cd (.t L0) (fun h6 => ?_) (fun h6 => ?_)
      ·
       refine W.del (.dr (.dr .rf)) (W.seq (W.seq (W.region ?_)))
       refine WL.st (R.mv (.t L6)) rfl ?_
       refine WL.st (R.gtr (.t L0) .c) rfl ?_
       refine WL.nil (QS.next (W.del (.kp (.dr .rf)) ?_))
       refine W.cd (.t L0) (fun h7 => ?_) (fun h7 => ?_)
       ·
        refine W.del (.dr .rf) (W.seq (W.region ?_))
        refine WL.st (R.bld (z := [.int .i64 0, .int .i64 0, .int .i64 0, .int .i64 0, .slice none 0 0]) Tryd.underlying59 (by kernel_rfl) z_59 .nil) rfl ?_
        refine WL.sto sz_59 (.t L4) (.t L0) rfl rfl rfl C1 (by repeat constructor) ?_
        refine WL.as .c U5 rfl ?_
        refine WL.nil (QS.next (W.del (.dr .rf) (W.ret (QS.thenr (QS.blkr (QS.thenr ?_))))))
        have hf : nextS b k = (_, _) := hfn.trans (fin_textE (b := b) (at_ := k) (long := sz) (kind := kd) (n := n) (by omega) (by omega))
        exact QS.fin (.inl rfl) rfl (.agg ag_59 rfl L3 H1 (.tmp L4 .nil)) (none, 0) (by rw [hf]; rfl) (.dr (.dr .nil)) (fun w _ _ => by rw [hf]; exact Rd.nil)
       ·
        refine W.del (.dr .rf) (W.skip (QS.next (W.region ?_)))
        refine WL.st (R.mv (.t L6)) rfl ?_
        refine WL.st (R.cvi Tryd.underlying113 ti_3 (.t L0) (wi (by omega) (by omega))) rfl ?_
        refine WL.st (R.add (.t L0) .c (wi (by omega) (by omega))) rfl ?_
        refine WL.st (R.fa fo_59_3 (.t L3)) rfl ?_
        refine WL.sto sz_3 (.t L0) (.t L1) rfl rfl rfl C0 (by repeat constructor) ?_
        refine WL.nil (QS.blkn (QS.next (W.del (.dr (.dr (.dr (.dr .rf)))) (W.seq (W.region ?_)))))
        refine WL.st (R.lda ag_59 (.t L0) H0 (by repeat constructor)) rfl ?_
        refine WL.sto sz_59 (.t L4) (.t L0) rfl rfl rfl C1 (by repeat constructor) ?_
        refine WL.as .c U5 rfl ?_
        refine WL.nil (QS.next (W.del (.dr .rf) (W.ret ?_)))
        first
          | (have hf : nextS b k = (_, _) := hfn.trans (fin_text (b := b) (at_ := k) (long := sz) (kind := kd) (n := n) (by omega) (by omega)); exact QS.fin (.inl rfl) rfl (.agg ag_59 rfl L3 H1 (.tmp L4 .nil)) (none, 0) (by rw [hf, hkd]; rfl) (.dr (.dr .nil)) (fun w _ _ => by rw [hf]; exact Rd.nil))
          | (have hf : nextS b k = (_, _) := hfn.trans (fin_num (b := b) (at_ := k) (long := sz) (kind := kd) (n := n) (by omega)); exact QS.fin (.inl rfl) rfl (.agg ag_59 rfl L3 H1 (.tmp L4 .nil)) (none, 0) (by rw [hf, hkd]; rfl) (.dr (.dr .nil)) (fun w _ _ => by rw [hf]; exact Rd.nil))
          | (have hf : nextS b k = (_, _) := hfn.trans (fin_para (b := b) (at_ := k) (long := sz) (kind := kd) (n := n) (by omega)); exact QS.fin (.inl rfl) rfl (.agg ag_59 rfl L3 H1 (.tmp L4 .nil)) (none, 0) (by rw [hf, hkd]; rfl) (.dr (.dr .nil)) (fun w _ _ => by rw [hf]; exact Rd.nil))
          | (have hf : nextS b k = (_, _) := hfn.trans (fin_n0 (b := b) (at_ := k) (long := sz) (kind := kd) (n := n) (by omega) (by omega)); exact QS.fin (.inl rfl) rfl (.agg ag_59 rfl L3 H1 (.tmp L4 .nil)) (none, 0) (by rw [hf, hkd]; rfl) (.dr (.dr .nil)) (fun w _ _ => by rw [hf]; exact Rd.nil))
      ·
       refine W.del (.dr .rf) (W.seq (W.seq (W.region ?_)))
       refine WL.st (R.eqi (.t L0) .c) rfl ?_
       refine WL.st (R.as (.t L0)) rfl ?_
       refine WL.nil (QS.next (W.del (.kp (.dr .rf)) ?_))
       refine W.cd (.t L0) (fun h8 => ?_) (fun h8 => ?_)
       ·
        refine W.skip (QS.next ?_)
        refine W.cdt (.t L0) h8 ?_
        refine W.del (.dr (.dr .rf)) (W.region ?_)
        refine WL.st (R.mv (.t L6)) rfl ?_
        refine WL.st (R.cvi Tryd.underlying113 ti_3 (.t L0) (wi (by omega) (by omega))) rfl ?_
        refine WL.st (R.fa fo_59_3 (.t L2)) rfl ?_
        refine WL.sto sz_3 (.t L0) (.t L1) rfl rfl rfl C0 (by repeat constructor) ?_
        refine WL.nil (QS.blkn (QS.next (W.del (.dr (.dr (.dr .rf))) (W.seq (W.region ?_)))))
        refine WL.st (R.lda ag_59 (.t L0) H0 (by repeat constructor)) rfl ?_
        refine WL.sto sz_59 (.t L4) (.t L0) rfl rfl rfl C1 (by repeat constructor) ?_
        refine WL.as .c U5 rfl ?_
        refine WL.nil (QS.next (W.del (.dr .rf) (W.ret ?_)))
        first
          | (have hf : nextS b k = (_, _) := hfn.trans (fin_text (b := b) (at_ := k) (long := sz) (kind := kd) (n := n) (by omega) (by omega)); exact QS.fin (.inl rfl) rfl (.agg ag_59 rfl L3 H1 (.tmp L4 .nil)) (none, 0) (by rw [hf, hkd]; rfl) (.dr (.dr .nil)) (fun w _ _ => by rw [hf]; exact Rd.nil))
          | (have hf : nextS b k = (_, _) := hfn.trans (fin_num (b := b) (at_ := k) (long := sz) (kind := kd) (n := n) (by omega)); exact QS.fin (.inl rfl) rfl (.agg ag_59 rfl L3 H1 (.tmp L4 .nil)) (none, 0) (by rw [hf, hkd]; rfl) (.dr (.dr .nil)) (fun w _ _ => by rw [hf]; exact Rd.nil))
          | (have hf : nextS b k = (_, _) := hfn.trans (fin_para (b := b) (at_ := k) (long := sz) (kind := kd) (n := n) (by omega)); exact QS.fin (.inl rfl) rfl (.agg ag_59 rfl L3 H1 (.tmp L4 .nil)) (none, 0) (by rw [hf, hkd]; rfl) (.dr (.dr .nil)) (fun w _ _ => by rw [hf]; exact Rd.nil))
          | (have hf : nextS b k = (_, _) := hfn.trans (fin_n0 (b := b) (at_ := k) (long := sz) (kind := kd) (n := n) (by omega) (by omega)); exact QS.fin (.inl rfl) rfl (.agg ag_59 rfl L3 H1 (.tmp L4 .nil)) (none, 0) (by rw [hf, hkd]; rfl) (.dr (.dr .nil)) (fun w _ _ => by rw [hf]; exact Rd.nil))
       ·
        refine W.seq (W.region ?_)
        refine WL.st (R.eqi (.t L1) .c) rfl ?_
        refine WL.as (.t L0) U1 rfl ?_
        refine WL.nil (QS.next (W.del (.dr .rf) ?_))
        refine W.cd (.t L0) (fun h9 => ?_) (fun h9 => ?_)
        ·
         refine W.skip (QS.next ?_)
         refine W.cdt (.t L0) h9 ?_
         refine W.del (.dr (.dr .rf)) (W.region ?_)
         refine WL.st (R.mv (.t L6)) rfl ?_
         refine WL.st (R.cvi Tryd.underlying113 ti_3 (.t L0) (wi (by omega) (by omega))) rfl ?_
         refine WL.st (R.fa fo_59_3 (.t L2)) rfl ?_
         refine WL.sto sz_3 (.t L0) (.t L1) rfl rfl rfl C0 (by repeat constructor) ?_
         refine WL.nil (QS.blkn (QS.next (W.del (.dr (.dr (.dr .rf))) (W.seq (W.region ?_)))))
         refine WL.st (R.lda ag_59 (.t L0) H0 (by repeat constructor)) rfl ?_
         refine WL.sto sz_59 (.t L4) (.t L0) rfl rfl rfl C1 (by repeat constructor) ?_
         refine WL.as .c U5 rfl ?_
         refine WL.nil (QS.next (W.del (.dr .rf) (W.ret ?_)))
         first
           | (have hf : nextS b k = (_, _) := hfn.trans (fin_text (b := b) (at_ := k) (long := sz) (kind := kd) (n := n) (by omega) (by omega)); exact QS.fin (.inl rfl) rfl (.agg ag_59 rfl L3 H1 (.tmp L4 .nil)) (none, 0) (by rw [hf, hkd]; rfl) (.dr (.dr .nil)) (fun w _ _ => by rw [hf]; exact Rd.nil))
           | (have hf : nextS b k = (_, _) := hfn.trans (fin_num (b := b) (at_ := k) (long := sz) (kind := kd) (n := n) (by omega)); exact QS.fin (.inl rfl) rfl (.agg ag_59 rfl L3 H1 (.tmp L4 .nil)) (none, 0) (by rw [hf, hkd]; rfl) (.dr (.dr .nil)) (fun w _ _ => by rw [hf]; exact Rd.nil))
           | (have hf : nextS b k = (_, _) := hfn.trans (fin_para (b := b) (at_ := k) (long := sz) (kind := kd) (n := n) (by omega)); exact QS.fin (.inl rfl) rfl (.agg ag_59 rfl L3 H1 (.tmp L4 .nil)) (none, 0) (by rw [hf, hkd]; rfl) (.dr (.dr .nil)) (fun w _ _ => by rw [hf]; exact Rd.nil))
           | (have hf : nextS b k = (_, _) := hfn.trans (fin_n0 (b := b) (at_ := k) (long := sz) (kind := kd) (n := n) (by omega) (by omega)); exact QS.fin (.inl rfl) rfl (.agg ag_59 rfl L3 H1 (.tmp L4 .nil)) (none, 0) (by rw [hf, hkd]; rfl) (.dr (.dr .nil)) (fun w _ _ => by rw [hf]; exact Rd.nil))
        ·
         refine W.seq (W.region ?_)
         refine WL.st (R.eqi (.t L1) .c) rfl ?_
         refine WL.as (.t L0) U1 rfl ?_
         refine WL.nil (QS.next (W.del (.dr .rf) ?_))
         refine W.cd (.t L0) (fun h10 => ?_) (fun h10 => ?_)
         ·
          refine W.skip (QS.next ?_)
          refine W.cdt (.t L0) h10 ?_
          refine W.del (.dr (.dr .rf)) (W.region ?_)
          refine WL.st (R.mv (.t L6)) rfl ?_
          refine WL.st (R.cvi Tryd.underlying113 ti_3 (.t L0) (wi (by omega) (by omega))) rfl ?_
          refine WL.st (R.fa fo_59_3 (.t L2)) rfl ?_
          refine WL.sto sz_3 (.t L0) (.t L1) rfl rfl rfl C0 (by repeat constructor) ?_
          refine WL.nil (QS.blkn (QS.next (W.del (.dr (.dr (.dr .rf))) (W.seq (W.region ?_)))))
          refine WL.st (R.lda ag_59 (.t L0) H0 (by repeat constructor)) rfl ?_
          refine WL.sto sz_59 (.t L4) (.t L0) rfl rfl rfl C1 (by repeat constructor) ?_
          refine WL.as .c U5 rfl ?_
          refine WL.nil (QS.next (W.del (.dr .rf) (W.ret ?_)))
          first
            | (have hf : nextS b k = (_, _) := hfn.trans (fin_text (b := b) (at_ := k) (long := sz) (kind := kd) (n := n) (by omega) (by omega)); exact QS.fin (.inl rfl) rfl (.agg ag_59 rfl L3 H1 (.tmp L4 .nil)) (none, 0) (by rw [hf, hkd]; rfl) (.dr (.dr .nil)) (fun w _ _ => by rw [hf]; exact Rd.nil))
            | (have hf : nextS b k = (_, _) := hfn.trans (fin_num (b := b) (at_ := k) (long := sz) (kind := kd) (n := n) (by omega)); exact QS.fin (.inl rfl) rfl (.agg ag_59 rfl L3 H1 (.tmp L4 .nil)) (none, 0) (by rw [hf, hkd]; rfl) (.dr (.dr .nil)) (fun w _ _ => by rw [hf]; exact Rd.nil))
            | (have hf : nextS b k = (_, _) := hfn.trans (fin_para (b := b) (at_ := k) (long := sz) (kind := kd) (n := n) (by omega)); exact QS.fin (.inl rfl) rfl (.agg ag_59 rfl L3 H1 (.tmp L4 .nil)) (none, 0) (by rw [hf, hkd]; rfl) (.dr (.dr .nil)) (fun w _ _ => by rw [hf]; exact Rd.nil))
            | (have hf : nextS b k = (_, _) := hfn.trans (fin_n0 (b := b) (at_ := k) (long := sz) (kind := kd) (n := n) (by omega) (by omega)); exact QS.fin (.inl rfl) rfl (.agg ag_59 rfl L3 H1 (.tmp L4 .nil)) (none, 0) (by rw [hf, hkd]; rfl) (.dr (.dr .nil)) (fun w _ _ => by rw [hf]; exact Rd.nil))
         ·
          refine W.region ?_
          refine WL.st (R.eqi (.t L1) .c) rfl ?_
          refine WL.as (.t L0) U1 rfl ?_
          refine WL.nil (QS.next (W.del (.dr .rf) ?_))
          refine W.cd (.t L0) (fun h11 => ?_) (fun h11 => ?_)
          ·
           refine W.del (.dr (.dr .rf)) (W.region ?_)
           refine WL.st (R.mv (.t L6)) rfl ?_
           refine WL.st (R.cvi Tryd.underlying113 ti_3 (.t L0) (wi (by omega) (by omega))) rfl ?_
           refine WL.st (R.fa fo_59_3 (.t L2)) rfl ?_
           refine WL.sto sz_3 (.t L0) (.t L1) rfl rfl rfl C0 (by repeat constructor) ?_
           refine WL.nil (QS.blkn (QS.next (W.del (.dr (.dr (.dr .rf))) (W.seq (W.region ?_)))))
           refine WL.st (R.lda ag_59 (.t L0) H0 (by repeat constructor)) rfl ?_
           refine WL.sto sz_59 (.t L4) (.t L0) rfl rfl rfl C1 (by repeat constructor) ?_
           refine WL.as .c U5 rfl ?_
           refine WL.nil (QS.next (W.del (.dr .rf) (W.ret ?_)))
           first
             | (have hf : nextS b k = (_, _) := hfn.trans (fin_text (b := b) (at_ := k) (long := sz) (kind := kd) (n := n) (by omega) (by omega)); exact QS.fin (.inl rfl) rfl (.agg ag_59 rfl L3 H1 (.tmp L4 .nil)) (none, 0) (by rw [hf, hkd]; rfl) (.dr (.dr .nil)) (fun w _ _ => by rw [hf]; exact Rd.nil))
             | (have hf : nextS b k = (_, _) := hfn.trans (fin_num (b := b) (at_ := k) (long := sz) (kind := kd) (n := n) (by omega)); exact QS.fin (.inl rfl) rfl (.agg ag_59 rfl L3 H1 (.tmp L4 .nil)) (none, 0) (by rw [hf, hkd]; rfl) (.dr (.dr .nil)) (fun w _ _ => by rw [hf]; exact Rd.nil))
             | (have hf : nextS b k = (_, _) := hfn.trans (fin_para (b := b) (at_ := k) (long := sz) (kind := kd) (n := n) (by omega)); exact QS.fin (.inl rfl) rfl (.agg ag_59 rfl L3 H1 (.tmp L4 .nil)) (none, 0) (by rw [hf, hkd]; rfl) (.dr (.dr .nil)) (fun w _ _ => by rw [hf]; exact Rd.nil))
             | (have hf : nextS b k = (_, _) := hfn.trans (fin_n0 (b := b) (at_ := k) (long := sz) (kind := kd) (n := n) (by omega) (by omega)); exact QS.fin (.inl rfl) rfl (.agg ag_59 rfl L3 H1 (.tmp L4 .nil)) (none, 0) (by rw [hf, hkd]; rfl) (.dr (.dr .nil)) (fun w _ _ => by rw [hf]; exact Rd.nil))
          ·
           refine W.del (.dr .rf) (W.seq (W.region ?_))
           refine WL.st (R.eqi (.t L0) .c) rfl ?_
           refine WL.st (R.as (.t L0)) rfl ?_
           refine WL.nil (QS.next (W.del (.kp (.dr .rf)) ?_))
           refine W.cd (.t L0) (fun h12 => ?_) (fun h12 => ?_)
           ·
            refine W.del (.dr (.dr .rf)) (W.region ?_)
            refine WL.st (R.mv (.t L6)) rfl ?_
            refine WL.st (R.cvi Tryd.underlying113 ti_3 (.t L0) (wi (by omega) (by omega))) rfl ?_
            refine WL.st (R.sub (.t L0) .c (wi (by omega) (by omega))) rfl ?_
            refine WL.st (R.fa fo_59_3 (.t L3)) rfl ?_
            refine WL.sto sz_3 (.t L0) (.t L1) rfl rfl rfl C0 (by repeat constructor) ?_
            refine WL.nil (QS.blkn (QS.next (W.del (.dr (.dr (.dr (.dr .rf)))) (W.seq (W.region ?_)))))
            refine WL.st (R.lda ag_59 (.t L0) H0 (by repeat constructor)) rfl ?_
            refine WL.sto sz_59 (.t L4) (.t L0) rfl rfl rfl C1 (by repeat constructor) ?_
            refine WL.as .c U5 rfl ?_
            refine WL.nil (QS.next (W.del (.dr .rf) (W.ret ?_)))
            first
              | (have hf : nextS b k = (_, _) := hfn.trans (fin_text (b := b) (at_ := k) (long := sz) (kind := kd) (n := n) (by omega) (by omega)); exact QS.fin (.inl rfl) rfl (.agg ag_59 rfl L3 H1 (.tmp L4 .nil)) (none, 0) (by rw [hf, hkd]; rfl) (.dr (.dr .nil)) (fun w _ _ => by rw [hf]; exact Rd.nil))
              | (have hf : nextS b k = (_, _) := hfn.trans (fin_num (b := b) (at_ := k) (long := sz) (kind := kd) (n := n) (by omega)); exact QS.fin (.inl rfl) rfl (.agg ag_59 rfl L3 H1 (.tmp L4 .nil)) (none, 0) (by rw [hf, hkd]; rfl) (.dr (.dr .nil)) (fun w _ _ => by rw [hf]; exact Rd.nil))
              | (have hf : nextS b k = (_, _) := hfn.trans (fin_para (b := b) (at_ := k) (long := sz) (kind := kd) (n := n) (by omega)); exact QS.fin (.inl rfl) rfl (.agg ag_59 rfl L3 H1 (.tmp L4 .nil)) (none, 0) (by rw [hf, hkd]; rfl) (.dr (.dr .nil)) (fun w _ _ => by rw [hf]; exact Rd.nil))
              | (have hf : nextS b k = (_, _) := hfn.trans (fin_n0 (b := b) (at_ := k) (long := sz) (kind := kd) (n := n) (by omega) (by omega)); exact QS.fin (.inl rfl) rfl (.agg ag_59 rfl L3 H1 (.tmp L4 .nil)) (none, 0) (by rw [hf, hkd]; rfl) (.dr (.dr .nil)) (fun w _ _ => by rw [hf]; exact Rd.nil))
           ·
            refine W.del (.dr .rf) (W.seq (W.region ?_))
            refine WL.st (R.eqi (.t L0) .c) rfl ?_
            refine WL.st (R.as (.t L0)) rfl ?_
            refine WL.nil (QS.next (W.del (.kp (.dr (.dr .rf))) ?_))
            refine W.cd (.t L0) (fun h13 => ?_) (fun h13 => ?_)
            ·
             refine W.del (.dr .rf) (W.seq (W.seq (W.region ?_)))
             refine WL.st (R.mv (.t L6)) rfl ?_
             refine WL.st (R.gtr (.t L0) .c) rfl ?_
             refine WL.nil (QS.next (W.del (.kp (.dr .rf)) ?_))
             refine W.cd (.t L0) (fun h14 => ?_) (fun h14 => ?_)
             ·
              refine W.del (.dr .rf) (W.seq (W.region ?_))
              refine WL.st (R.bld (z := [.int .i64 0, .int .i64 0, .int .i64 0, .int .i64 0, .slice none 0 0]) Tryd.underlying59 (by kernel_rfl) z_59 .nil) rfl ?_
              refine WL.sto sz_59 (.t L4) (.t L0) rfl rfl rfl C1 (by repeat constructor) ?_
              refine WL.as .c U5 rfl ?_
              refine WL.nil (QS.next (W.del (.dr .rf) (W.ret (QS.thenr (QS.blkr (QS.thenr ?_))))))
              have hf : nextS b k = (_, _) := hfn.trans (fin_tabE (b := b) (at_ := k) (long := sz) (kind := kd) (n := n) (by omega) (by omega))
              exact QS.fin (.inl rfl) rfl (.agg ag_59 rfl L3 H1 (.tmp L4 .nil)) (none, 0) (by rw [hf]; rfl) (.dr (.dr .nil)) (fun w _ _ => by rw [hf]; exact Rd.nil)
             ·
              refine W.del (.dr .rf) (W.skip (QS.next (W.seq (W.seq (W.region ?_)))))
              refine WL.st (R.mv (.t L2)) rfl ?_
              refine WL.st (R.mv (.t L8)) rfl ?_
              refine WL.st (R.add (.t L1) (.t L0) (wi (by omega) (by omega))) rfl ?_
              refine WL.st (R.mv (.t L9)) rfl ?_
              refine WL.st (R.cvi Tryd.underlying113 ti_3 (.t L0) (wi (by omega) (by omega))) rfl ?_
              refine WL.st (R.add (.t L2) (.t L0) (wi (by omega) (by omega))) rfl ?_
              refine WL.st (R.add (.t L0) .c (wi (by omega) (by omega))) rfl ?_
              refine WL.st (R.mv (.t L8)) rfl ?_
              refine WL.st (R.lenl sl_22 (.t L0)) rfl ?_
              refine WL.st (R.gtr (.t L2) (.t L0)) rfl ?_
              refine WL.nil (QS.next (W.del (.kp (.dr (.dr (.dr (.dr (.dr (.dr (.dr (.dr (.dr .rf)))))))))) ?_))
              refine W.cd (.t L0) (fun h15 => ?_) (fun h15 => ?_)
              ·
               refine W.del (.dr .rf) (W.seq (W.region ?_))
               refine WL.st (R.bld (z := [.int .i64 0, .int .i64 0, .int .i64 0, .int .i64 0, .slice none 0 0]) Tryd.underlying59 (by kernel_rfl) z_59 .nil) rfl ?_
               refine WL.sto sz_59 (.t L4) (.t L0) rfl rfl rfl C1 (by repeat constructor) ?_
               refine WL.as .c U5 rfl ?_
               refine WL.nil (QS.next (W.del (.dr .rf) (W.ret (QS.thenr (QS.blkr (QS.thenr ?_))))))
               have hf : nextS b k = (_, _) := hfn.trans (fin_tabT (b := b) (at_ := k) (long := sz) (kind := kd) (n := n) (by omega) (by omega) (by omega))
               exact QS.fin (.inl rfl) rfl (.agg ag_59 rfl L3 H1 (.tmp L4 .nil)) (none, 0) (by rw [hf]; rfl) (.dr (.dr .nil)) (fun w _ _ => by rw [hf]; exact Rd.nil)
              ·
               refine W.del (.dr .rf) (W.skip (QS.next (W.seq (W.seq ?_))))
               obtain ⟨fr, hfr⟩ : ∃ fr : Nat, k + sz = (fr : Int) := ⟨(k + sz).toNat, by omega⟩
               obtain ⟨m, hm⟩ : ∃ m : Nat, n + 1 = (m : Int) := ⟨(n + 1).toNat, by omega⟩
               refine W.region ?_
               refine WL.st (R.as .c) rfl ?_
               refine WL.nil (QS.next (W.block ?_))
               refine W.nilrow 3 1 ?_
               refine W.loop (ι := {p : Nat × Option Addr × Nat // p.1 ≤ m}) (fun z => [(13, .int .i64 z.1.1), (12, .pointer (some ⟨g12, 0, none⟩)), (0, .slice A b.length c), (1, .int .i64 k), (4, .pointer (some ⟨g4, 0, none⟩)), (5, .int .i64 0), (7, .int .u64 n), (8, .int .i64 sz)]) (fun z => [.row (.slice z.1.2.1 z.1.1 z.1.2.2) 3 1 z.1.1 (icells (ints ((b.drop fr).take z.1.1))), blk g12 59 [.int .i64 k, .int .i64 sz, .int .i64 ((x.toNat / 16 : Nat) : Int), .int .i64 0, .slice z.1.2.1 z.1.1 z.1.2.2], blk g4 59 [.int .i64 0, .int .i64 0, .int .i64 0, .int .i64 0, .slice none 0 0]]) (fun z w => RdB w A b) (fun z => m + 1 - z.1.1) ⟨(0, none, 0), Nat.zero_le _⟩ (.kp rfl (.kp rfl (.kp rfl (.kp rfl (.kp rfl (.kp rfl (.dr (.kp rfl (.kp rfl .nil))))))))) (.kp rfl (.kp rfl (.kp rfl .nil))) (fun w h hd => h) ?_
               intro z
               obtain ⟨⟨j, A5, c5⟩, hj⟩ := z
               dsimp only at hj
               show W _ _ _ _ _ [(13, .int .i64 j), (12, .pointer (some ⟨g12, 0, none⟩)), (0, .slice A b.length c), (1, .int .i64 k), (4, .pointer (some ⟨g4, 0, none⟩)), (5, .int .i64 0), (7, .int .u64 n), (8, .int .i64 sz)] [.row (.slice A5 j c5) 3 1 j (icells (ints ((b.drop fr).take j))), blk g12 59 [.int .i64 k, .int .i64 sz, .int .i64 ((x.toNat / 16 : Nat) : Int), .int .i64 0, .slice A5 j c5], blk g4 59 [.int .i64 0, .int .i64 0, .int .i64 0, .int .i64 0, .slice none 0 0]] (fun w => RdB w A b)
               refine W.seq (W.seq (W.region ?_))
               refine WL.st (R.mv (.t L0)) rfl ?_
               refine WL.st (R.mv (.t L7)) rfl ?_
               refine WL.st (R.cvi Tryd.underlying113 ti_3 (.t L0) (wi (by omega) (by omega))) rfl ?_
               refine WL.st (R.leq (.t L2) (.t L0)) rfl ?_
               refine WL.nil (QS.next (W.del (.kp (.dr (.dr (.dr .rf)))) ?_))
               refine W.cd (.t L0) (fun h16 => ?_) (fun h16 => ?_)
               ·
                refine W.del (.dr .rf) (W.skip (QS.next (W.seq (W.block ?_))))
                have hjm : j < m := by omega
                refine W.drawA 11 (fun i => Nat.beq i 0 || Nat.beq i 1 || Nat.beq i 2 || Nat.beq i 3 || Nat.beq i 4 || Nat.beq i 5 || Nat.beq i 6 || Nat.beq i 7 || Nat.beq i 8 || Nat.beq i 9) mixed (by kernel_rfl) (by kernel_rfl) _ rfl ?_
                show HT _ _ _ _ _ _ _ _ _ _ _ _ _
                refine HT.st (R.fa fo_59_4 (.t L1)) rfl ?_
                refine HT.st (R.ld sc_37 (.t L0) H1 rfl) rfl ?_
                refine HT.st (R.mv (.t L4)) rfl ?_
                refine HT.st (R.mv (.t L6)) rfl ?_
                refine HT.st (R.mv (.t (D1 L1))) rfl ?_
                refine HT.st (R.add (.t L1) (.t L0) (wi (by omega) (by omega))) rfl ?_
                refine HT.st (R.mv (.t L6)) rfl ?_
                refine HT.st (R.add (.t L1) (.t L0) (wi (by omega) (by omega))) rfl ?_
                obtain ⟨x124, hx124⟩ : ∃ x, (b)[fr + j]? = some x := ⟨_, List.getElem?_eq_getElem (by omega)⟩
                have hxb124 : x124.toNat < 256 := x124.toNat_lt
                have hy124 : (b.drop fr)[j]? = some x124 := by rw [List.getElem?_drop]; exact hx124
                refine HT.st (R.ixB sl_22 (.t L5) rfl (.t L0) (l := b) (j := fr + j) (by omega) (List.getElem?_eq_some_iff.1 hx124).1 (fun w hb => hb.get)) rfl ?_
                refine HT.st (R.ldp sc_5 (.t L0) (fun w hb => RdB.cell (hb.get) hx124)) rfl ?_
                refine HT.st (R.cvi Tryd.underlying5 ti_3 (.t L0) (wi (by omega) (by omega))) rfl ?_
                refine HT.bs1 sl_37 z_3 rfl (by decide) (by decide) (.t L0) rfl rfl rfl (fun g127 => ?_)
                refine WL.app' ap_37 (.t (D1 L0)) (.t L0) (fun _ _ => C1) (fun w hb => Rd.of_blk (hb.has H0) rfl) rfl (by unfold maxLen; omega) (by omega) rfl (fun A128 c128 => ?_)
                refine WL.st (R.fa fo_59_4 (.t (D1 L4))) rfl ?_
                refine WL.sto sz_37 (.t L0) (.t L1) rfl rfl rfl C2 (by repeat constructor) ?_
                refine WL.nil (QS.blkn (QS.next (W.del (.dr (.dr (.dr (.dr (.dr (.dr (.dr (.dr (.dr (.dr (.dr (.dr (.dr (.dr .rf)))))))))))))) (W.region ?_))))
                refine WL.st (R.mv (.t L0)) rfl ?_
                refine WL.st (R.add (.t L0) .c (wi (by omega) (by omega))) rfl ?_
                refine WL.as (.t L0) U2 rfl ?_
                refine WL.nil ?_
                exact QS.at ⟨(j + 1, A128, c128), by dsimp only; omega⟩ (by dsimp only; omega) (.dr (.dr (.kp rfl (.kp rfl (.kp rfl (.kp rfl (.kp rfl (.kp rfl (.kp rfl (.kp rfl .nil)))))))))) (.dr (.kp (by rw [← ints_snoc hy124]) (.kp rfl (.kp rfl .nil)))) (fun w h hd => h)
               ·
                refine W.del (.dr .rf) (W.exit (QS.thenx (QS.thenx (QS.blkx (QS.next ?_)))))
                have hmk : j = m := by omega
                have e1 : (n + 1).toNat = m := by omega
                have e2 : (k + sz).toNat = fr := by omega
                have hz : ((b.drop fr).take m).length = m := by simp; omega
                refine W.region ?_
                refine WL.st (R.mv (.t L7)) rfl ?_
                refine WL.st (R.mv (.t L7)) rfl ?_
                refine WL.st (R.cvi Tryd.underlying113 ti_3 (.t L0) (wi (by omega) (by omega))) rfl ?_
                refine WL.st (R.add (.t L2) (.t L0) (wi (by omega) (by omega))) rfl ?_
                refine WL.st (R.add (.t L0) .c (wi (by omega) (by omega))) rfl ?_
                refine WL.st (R.fa fo_59_1 (.t L6)) rfl ?_
                refine WL.sto sz_3 (.t L0) (.t L1) rfl rfl rfl C1 (by repeat constructor) ?_
                refine WL.nil (QS.blkn (QS.next (W.del (.dr (.dr (.dr (.dr (.dr (.dr .rf)))))) (W.seq (W.region ?_)))))
                refine WL.st (R.lda ag_59 (.t L1) H1 (by repeat constructor)) rfl ?_
                refine WL.sto sz_59 (.t L5) (.t L0) rfl rfl rfl C2 (by repeat constructor) ?_
                refine WL.as .c U6 rfl ?_
                refine WL.nil (QS.next (W.del (.dr .rf) (W.ret ?_)))
                subst hmk
                have hf : nextS b k = (_, _) := hfn.trans (fin_tab (b := b) (at_ := k) (long := sz) (kind := kd) (n := n) (by omega) (by omega) (by omega))
                exact QS.fin (.inl rfl) rfl (.agg ag_59 rfl L4 H2 (.tmp L5 .nil)) (A5, c5) (by rw [hf]; simp [resVal, ints_length]; omega) (.dr (.dr (.dr .nil))) (fun w _ hd => by rw [hf]; have h1 := Rd.of_row hd.1; simp only [e1, e2]; unfold RdI; rw [ints_length, hz]; exact h1)
            ·
             refine W.del (.dr .rf) (W.seq (W.region ?_))
             refine WL.st (R.mv (.t L6)) rfl ?_
             refine WL.st (R.nei (.t L0) .c) rfl ?_
             refine WL.nil (QS.next (W.del (.kp (.dr .rf)) ?_))
             refine W.cd (.t L0) (fun h17 => ?_) (fun h17 => ?_)
             ·
              refine W.del (.dr .rf) (W.seq (W.region ?_))
              refine WL.st (R.bld (z := [.int .i64 0, .int .i64 0, .int .i64 0, .int .i64 0, .slice none 0 0]) Tryd.underlying59 (by kernel_rfl) z_59 .nil) rfl ?_
              refine WL.sto sz_59 (.t L4) (.t L0) rfl rfl rfl C1 (by repeat constructor) ?_
              refine WL.as .c U5 rfl ?_
              refine WL.nil (QS.next (W.del (.dr .rf) (W.ret (QS.blkr (QS.thenr ?_)))))
              have hf : nextS b k = (_, _) := hfn.trans (fin_nE (b := b) (at_ := k) (long := sz) (kind := kd) (n := n) (by omega) (by omega))
              exact QS.fin (.inl rfl) rfl (.agg ag_59 rfl L3 H1 (.tmp L4 .nil)) (none, 0) (by rw [hf]; rfl) (.dr (.dr .nil)) (fun w _ _ => by rw [hf]; exact Rd.nil)
             ·
              refine W.del (.dr .rf) (W.skip (QS.blkn (QS.next (W.seq (W.region ?_)))))
              refine WL.st (R.lda ag_59 (.t L0) H0 (by repeat constructor)) rfl ?_
              refine WL.sto sz_59 (.t L4) (.t L0) rfl rfl rfl C1 (by repeat constructor) ?_
              refine WL.as .c U5 rfl ?_
              refine WL.nil (QS.next (W.del (.dr .rf) (W.ret ?_)))
              first
                | (have hf : nextS b k = (_, _) := hfn.trans (fin_text (b := b) (at_ := k) (long := sz) (kind := kd) (n := n) (by omega) (by omega)); exact QS.fin (.inl rfl) rfl (.agg ag_59 rfl L3 H1 (.tmp L4 .nil)) (none, 0) (by rw [hf, hkd]; rfl) (.dr (.dr .nil)) (fun w _ _ => by rw [hf]; exact Rd.nil))
                | (have hf : nextS b k = (_, _) := hfn.trans (fin_num (b := b) (at_ := k) (long := sz) (kind := kd) (n := n) (by omega)); exact QS.fin (.inl rfl) rfl (.agg ag_59 rfl L3 H1 (.tmp L4 .nil)) (none, 0) (by rw [hf, hkd]; rfl) (.dr (.dr .nil)) (fun w _ _ => by rw [hf]; exact Rd.nil))
                | (have hf : nextS b k = (_, _) := hfn.trans (fin_para (b := b) (at_ := k) (long := sz) (kind := kd) (n := n) (by omega)); exact QS.fin (.inl rfl) rfl (.agg ag_59 rfl L3 H1 (.tmp L4 .nil)) (none, 0) (by rw [hf, hkd]; rfl) (.dr (.dr .nil)) (fun w _ _ => by rw [hf]; exact Rd.nil))
                | (have hf : nextS b k = (_, _) := hfn.trans (fin_n0 (b := b) (at_ := k) (long := sz) (kind := kd) (n := n) (by omega) (by omega)); exact QS.fin (.inl rfl) rfl (.agg ag_59 rfl L3 H1 (.tmp L4 .nil)) (none, 0) (by rw [hf, hkd]; rfl) (.dr (.dr .nil)) (fun w _ _ => by rw [hf]; exact Rd.nil))

set_option maxHeartbeats 1000000 in
theorem ref16_Instrs {A : Option Addr} {b : List UInt8} {c : Nat} (hc : b.length ≤ c) (hl : b.length ≤ 140737488355328) {C : Cx} (hb : Hb C C.w0 [] (fun w => RdB w A b)) :
    Sp Tryd.prog 35 [.slice A b.length c] C (ι := {x : (Option Addr × Nat) × List (InstrS × Option Addr × Nat) // x.2.map (·.1) = (instrsS b).1}) (fun x => .tuple #[.slice x.1.1.1 (instrsS b).1.length x.1.1.2, .int .i64 (instrsS b).2.1, .int .i64 (instrsS b).2.2]) (fun _ => []) (fun x w => RdM w x.1.1.1 x.1.2) := by
 refine Sp.enter (N := 44) (e := entryEnv [.slice A b.length c] 0 9) Tryd.func35 rfl rfl (Nat.le_of_ble_eq_true rfl) (entry_ok (Nat.le_of_ble_eq_true rfl) (Nat.le_of_ble_eq_true rfl)) (entry_nd _ _) hb ?_
 show W _ _ _ _ _ [(0, .slice A b.length c), (1, undef), (2, undef), (3, undef), (4, undef), (5, undef), (6, undef), (7, undef), (8, undef)] _ _
 refine W.seq (W.region ?_)
 refine WL.as .c U2 rfl ?_
 refine WL.as .c U3 rfl ?_
 refine WL.as .c U4 rfl ?_
 refine WL.nil (QS.next (W.seq (W.seq (W.region ?_))))
 refine WL.st (R.mv (.t L0)) rfl ?_
 refine WL.st (R.lenl sl_22 (.t L0)) rfl ?_
 refine WL.st (R.gtr (.t L0) .c) rfl ?_
 refine WL.nil (QS.next (W.del (.kp (.dr (.dr .rf))) ?_))
 refine W.cd (.t L0) (fun h0 => ?_) (fun h0 => ?_)
 ·
  refine W.del (.dr .rf) (W.seq (W.region ?_))
  refine WL.as .c U2 rfl ?_
  refine WL.as .c U3 rfl ?_
  refine WL.as .c U4 rfl ?_
  refine WL.nil (QS.next (W.ret (QS.thenr ?_)))
  have hr : instrsS b = ([], 0, 2) := if_pos (by omega)
  exact QS.fin (.inl rfl) rfl (.tmp L2 (.tmp L3 (.tmp L4 .nil))) ⟨((none, 0), []), by rw [hr]; rfl⟩ (by dsimp only; rw [hr]; rfl) .nil (fun w _ _ => RdM.nil)
 ·
  refine W.del (.dr .rf) (W.skip (QS.next (W.seq (W.region ?_))))
  refine WL.as .c U5 rfl ?_
  refine WL.nil (QS.next (W.seq (W.region ?_)))
  refine WL.as .c U6 rfl ?_
  refine WL.nil (QS.next (W.seq (W.block ?_)))
  have h0 : instrsS b = instrsF b.length b 0 := if_neg (by omega)
  refine W.nilrow 59 5 ?_
  refine W.loop (ι := {p : (List (InstrS × Option Addr × Nat) × Nat × Nat) × Option Addr × Nat // behind (p.1.1.map (·.1)) (instrsF p.1.2.2 b p.1.2.1) = instrsS b ∧ b.length ≤ p.1.2.1 + p.1.2.2 ∧ p.1.2.1 ≤ b.length ∧ p.1.1.length ≤ p.1.2.1}) (fun x => [(0, .slice A b.length c), (2, .slice none 0 0), (3, .int .i64 0), (4, .int .i64 0), (5, .slice x.1.2.1 x.1.1.1.length x.1.2.2), (6, .int .i64 x.1.1.2.1)]) (fun x => [.row (.slice x.1.2.1 x.1.1.1.length x.1.2.2) 59 5 x.1.1.1.length (mcells x.1.1.1)]) (fun x w => RdB w A b ∧ (∀ q ∈ x.1.1.1, RdI w q.2.1 q.1.widths)) (fun x => b.length - x.1.1.2.1) ⟨(([], 0, b.length), none, 0), by rw [h0]; simp [behind], by simp, by simp, by simp⟩ (.kp rfl (.dr (.kp rfl (.kp rfl (.kp rfl (.kp rfl (.kp rfl (.dr (.dr .nil))))))))) (.kp rfl .nil) (fun w h hd => ⟨h, (fun q hq => absurd hq (by simp))⟩) ?_
  intro x
  obtain ⟨⟨⟨M, k, f⟩, Al, cl⟩, hi1, hi2, hi3, hi4⟩ := x
  dsimp only at hi1 hi2 hi3 hi4
  show W _ _ _ _ _ [(0, .slice A b.length c), (2, .slice none 0 0), (3, .int .i64 0), (4, .int .i64 0), (5, .slice Al M.length cl), (6, .int .i64 k)] [.row (.slice Al M.length cl) 59 5 M.length (mcells M)] (fun w => RdB w A b ∧ (∀ q ∈ M, RdI w q.2.1 q.1.widths))
  refine W.seq (W.seq (W.region ?_))
  refine WL.st (R.mv (.t L5)) rfl ?_
  refine WL.st (R.mv (.t L1)) rfl ?_
  refine WL.st (R.lenl sl_22 (.t L0)) rfl ?_
  refine WL.st (R.lss (.t L2) (.t L0)) rfl ?_
  refine WL.nil (QS.next (W.del (.kp (.dr (.dr (.dr .rf)))) ?_))
  refine W.cd (.t L0) (fun h1 => ?_) (fun h1 => ?_)
  ·
   refine W.del (.dr .rf) (W.skip (QS.next (W.block (W.seq (W.region ?_)))))
   refine WL.st (R.mv (.t L0)) rfl ?_
   refine WL.st (R.mv (.t L6)) rfl ?_
   refine WL.call gf_32 .f (.cons (.t L1) (.cons (.t L0) .nil)) (.dr .nil) (fun w hb => (ref16_Next hc hl (hb.imp fun w h => h.1))) rfl (fun x19 => ?_)
   have hno := next_ok (b := b) (k := k)
   refine WL.st (R.mv (.t L0)) rfl ?_
   refine WL.st (R.ex (.t L0) .here) rfl ?_
   refine WL.st (R.ex (.t L1) (.skip .here)) rfl ?_
   refine WL.alloc z_59 rfl (fun g7 => ?_)
   refine WL.sto sz_59 (.t L0) (.t L2) rfl rfl rfl C0 (by repeat constructor) ?_
   refine WL.st (R.as (.t L1)) rfl ?_
   refine WL.nil (QS.next (W.del (.kp (.kp (.dr (.dr (.dr (.dr (.dr (.dr .rf)))))))) (W.seq (W.seq (W.region ?_)))))
   refine WL.st (R.mv (.t L0)) rfl ?_
   refine WL.st (R.nei (.t L0) .c) rfl ?_
   refine WL.nil (QS.next (W.del (.kp (.dr .rf)) ?_))
   refine W.cd (.t L0) (fun h2 => ?_) (fun h2 => ?_)
   ·
    refine W.del (.dr .rf) (W.seq (W.region ?_))
    refine WL.st (R.mv (.t L7)) rfl ?_
    refine WL.st (R.mv (.t L1)) rfl ?_
    refine WL.as .c U5 rfl ?_
    refine WL.as (.t L1) U6 rfl ?_
    refine WL.as (.t L0) U7 rfl ?_
    refine WL.nil (QS.next (W.del (.dr (.dr .rf)) (W.ret (QS.thenr (QS.blkr (QS.thenr (QS.blkr (QS.thenr ?_))))))))
    have hr := ins_err hi1 hi2 (by omega) h2
    exact QS.fin (.inl rfl) rfl (.tmp L3 (.tmp L4 (.tmp L5 .nil))) ⟨((none, 0), []), by rw [hr]; rfl⟩ (by dsimp only; rw [hr]; rfl) (.dr (.dr .nil)) (fun w _ _ => RdM.nil)
   ·
    refine W.del (.dr .rf) (W.skip (QS.next (W.seq ?_)))
    have hno := hno (by omega)
    cases f with
    | zero => exfalso; omega
    | succ f => ?_
    refine W.region ?_
    refine WL.st (R.mv (.t L6)) rfl ?_
    refine WL.st (R.lda ag_59 (.t L2) H0 (by repeat constructor)) rfl ?_
    refine WL.bs1 sl_65 z_59 rfl (by decide) (by decide) (.t L0) rfl rfl rfl (fun g28 => ?_)
    refine WL.app' ap_65 (.t L2) (.t L0) (fun _ _ => C2) (fun w hb => Rd.of_blk (hb.has H0) rfl) rfl (by unfold maxLen; omega) (by omega) rfl (fun A29 c29 => ?_)
    refine WL.as (.t L0) (E1 U0) rfl ?_
    refine WL.nil (QS.next (W.del (.dr (.dr (.dr (.dr .rf)))) (W.seq (W.region ?_))))
    refine WL.st (R.mv (.t L7)) rfl ?_
    refine WL.st (R.fa fo_59_1 (.t L2)) rfl ?_
    refine WL.st (R.ld sc_3 (.t L0) H1 rfl) rfl ?_
    refine WL.st (R.add (.t L2) (.t L0) (wi (by omega) (by omega))) rfl ?_
    refine WL.as (.t L0) (E1 U1) rfl ?_
    refine WL.nil (QS.next (W.del (.dr (.dr (.dr (.dr .rf)))) (W.seq (W.region ?_))))
    refine WL.st (R.fa fo_59_2 (.t L1)) rfl ?_
    refine WL.st (R.ld sc_57 (.t L0) H1 rfl) rfl ?_
    refine WL.st (R.eqi (.t L0) .c) rfl ?_
    refine WL.nil (QS.next (W.del (.kp (.dr (.dr .rf))) ?_))
    refine W.cd (.t L0) (fun h3 => ?_) (fun h3 => ?_)
    ·
     refine W.del (.dr .rf) (W.seq (W.seq (W.region ?_)))
     refine WL.st (R.mv (.t L7)) rfl ?_
     refine WL.st (R.mv (.t L3)) rfl ?_
     refine WL.st (R.lenl sl_22 (.t L0)) rfl ?_
     refine WL.st (R.lss (.t L2) (.t L0)) rfl ?_
     refine WL.nil (QS.next (W.del (.kp (.dr (.dr (.dr .rf)))) ?_))
     refine W.cd (.t L0) (fun h4 => ?_) (fun h4 => ?_)
     ·
      refine W.del (.dr .rf) (W.seq (W.region ?_))
      refine WL.st (R.mv (.t L7)) rfl ?_
      refine WL.as .c U4 rfl ?_
      refine WL.as (.t L0) U5 rfl ?_
      refine WL.as .c U6 rfl ?_
      refine WL.nil (QS.next (W.del (.dr .rf) (W.ret (QS.thenr (QS.blkr (QS.thenr (QS.blkr (QS.thenr ?_))))))))
      have hr := ins_more hi1 hi2 (by omega) h2 h3 h4
      exact QS.fin (.inl rfl) rfl (.tmp L3 (.tmp L4 (.tmp L5 .nil))) ⟨((none, 0), []), by rw [hr]; rfl⟩ (by dsimp only; rw [hr]; rfl) (.dr (.dr (.dr .nil))) (fun w _ _ => RdM.nil)
     ·
      refine W.del (.dr .rf) (W.skip (QS.next (W.seq (W.region ?_))))
      refine WL.st (R.mv (.t L6)) rfl ?_
      refine WL.as (.t L0) U4 rfl ?_
      refine WL.as .c U5 rfl ?_
      refine WL.as .c U6 rfl ?_
      refine WL.nil (QS.next (W.del (.dr .rf) (W.ret (QS.blkr (QS.thenr (QS.blkr (QS.thenr ?_)))))))
      have hr := ins_halt hi1 hi2 (by omega) h2 h3 h4
      exact QS.fin (.inl rfl) rfl (.tmp L3 (.tmp L4 (.tmp L5 .nil))) ⟨((A29, c29), M ++ [((nextS b k).1, x19)]), by rw [hr]; simp⟩ (by dsimp only; rw [hr]; simp [resVal]) (.dr (.dr (.dr .nil))) (fun w h hd => ⟨by have := Rd.of_row hd.2.2.1; rw [← mcells_snoc]; simpa using this, fun q hq => by rcases List.mem_append.1 hq with hq | hq; exact h.1.2 q hq; rw [List.mem_singleton.1 hq]; exact h.2⟩)
    ·
     refine W.del (.dr .rf) (W.skip (QS.blkn ?_))
     exact QS.at ⟨((M ++ [((nextS b k).1, x19)], k + (nextS b k).1.long.toNat, f), A29, c29), by rw [List.map_append]; exact ins_next hi1 (by omega) h2 h3, by dsimp only; omega, by dsimp only; omega, by dsimp only; rw [List.length_append]; simp; omega⟩ (show b.length - (k + (nextS b k).1.long.toNat) < b.length - k by omega) (.dr (.dr (.kp rfl (.kp rfl (.kp rfl (.kp rfl (.kp (by simp) (.kp (congrArg (Value.int .i64) (show (k : Int) + (nextS b k).1.long = ((k + (nextS b k).1.long.toNat : Nat) : Int) by omega)) .nil)))))))) (.dr (.dr (.kp (by rw [← mcells_snoc]; simp) .nil))) (fun w h hd => ⟨h.1.1, (fun q hq => by rcases List.mem_append.1 hq with hq | hq; exact h.1.2 q hq; rw [List.mem_singleton.1 hq]; exact h.2)⟩)
  ·
   refine W.del (.dr .rf) (W.exit (QS.thenx (QS.thenx (QS.blkx (QS.next (W.seq (W.region ?_)))))))
   refine WL.st (R.mv (.t L5)) rfl ?_
   refine WL.as .c U2 rfl ?_
   refine WL.as (.t L0) U3 rfl ?_
   refine WL.as .c U4 rfl ?_
   refine WL.nil (QS.next (W.del (.dr .rf) (W.ret ?_)))
   have hr := ins_end hi1 hi2 (by omega)
   have hkb : k = b.length := by omega
   exact QS.fin (.inl rfl) rfl (.tmp L1 (.tmp L2 (.tmp L3 .nil))) ⟨((none, 0), []), by rw [hr]; rfl⟩ (by dsimp only; rw [hr, hkb]; rfl) (.dr .nil) (fun w _ _ => RdM.nil)

end Go.Proofs.YtpaecijilnfkhaaDoor
