/- Contracts: the machine. -/
import Derived.Test.YtpaecijilnfkhaaDoorPq
import Derived.Test.YtpaecijilnfkhaaDoorPr
import Derived.Test.YtpaecijilnfkhaaDoorTy

namespace Go.Proofs.YtpaecijilnfkhaaDoor
open Go Go.Eng Go.RowKit
@[reducible] def bo1 (b : Bool) : List Value := [.bool b]
theorem bo1_length (b : Bool) : (bo1 b).length = 1 := rfl
@[reducible] def lv5 (l : LevS) : List Value := [.bool l.table, .int .i64 l.items, .int .i64 l.wide, .int .i64 l.rows, .int .i64 l.cells]
theorem lv5_length (l : LevS) : (lv5 l).length = 5 := rfl
def zeroL : LevS := ⟨false, 0, 0, 0, 0⟩
def topS (op : List LevS) : LevS × Bool := match op[op.length - 1]? with | none => (zeroL, false) | some l => (l, true)
theorem done_eq {pa tx : Bool} {br : List Bool} {op : List LevS} : MachS.done ⟨pa, br, op, tx⟩ = (!pa && decide ((op.length : Int) = 0)) := by
  cases op with
  | nil => rfl
  | cons x r =>
    have : decide (((x :: r).length : Int) = 0) = false := decide_eq_false (by simp; omega)
    rw [this]; rfl
theorem set_at {α : Type} {l : List α} {i : Nat} {x y : α} (h : l[i]? = some x) : (l.set i y)[i]? = some y := by
  have := (List.getElem?_eq_some_iff.1 h).1
  simp [this]

theorem mach_Deep {g : Nat} {pa tx : Bool} {br : List Bool} {op : List LevS} {Ab Ao : Option Addr} {cb co : Nat} (hbl : br.length ≤ 1000000) (hol : op.length ≤ 1000000) {C : Cx} (hb : Hb C C.w0 [blk g 102 [.bool pa, .slice Ab br.length cb, .slice Ao op.length co, .bool tx], .row (.slice Ab br.length cb) 4 1 br.length (flat bo1 br), .row (.slice Ao op.length co) 159 5 op.length (flat lv5 op)] (fun _ => True)) :
    Sp Tryd.prog 69 [.pointer (some ⟨g, 0, none⟩)] C (ι := Unit) (fun _ => .int .i64 (MachS.deep (⟨pa, br, op, tx⟩ : MachS))) (fun _ => [blk g 102 [.bool pa, .slice Ab br.length cb, .slice Ao op.length co, .bool tx], .row (.slice Ab br.length cb) 4 1 br.length (flat bo1 br), .row (.slice Ao op.length co) 159 5 op.length (flat lv5 op)]) (fun _ _ => True) := by
 refine Sp.enter (N := 25) (e := entryEnv [.pointer (some ⟨g, 0, none⟩)] 0 4) Tryd.func69 rfl rfl (Nat.le_of_ble_eq_true rfl) (entry_ok (Nat.le_of_ble_eq_true rfl) (Nat.le_of_ble_eq_true rfl)) (entry_nd _ _) hb ?_
 show W _ _ _ _ _ [(0, .pointer (some ⟨g, 0, none⟩)), (1, undef), (2, undef), (3, undef)] _ _
 refine W.seq (W.region ?_)
 refine WL.as .c U2 rfl ?_
 refine WL.nil (QS.next (W.seq ?_))
 refine W.draw 14 mixed (by kernel_rfl) ?_
 refine HD.st (R.mv (.t L0)) rfl ?_
 refine HD.st (R.nc (.t L0)) rfl ?_
 refine HD.st (R.fa fo_102_0 (.t L0)) rfl ?_
 refine HD.st (R.fa fo_100_2 (.t L0)) rfl ?_
 refine HD.st (R.ld sc_98 (.t L0) H0 rfl) rfl ?_
 refine HD.st (R.lenl sl_98 (.t L0)) rfl ?_
 refine HD.st (R.mv (.t L6)) rfl ?_
 refine HD.st (R.nc (.t L0)) rfl ?_
 refine HD.st (R.fa fo_102_0 (.t L0)) rfl ?_
 refine HD.st (R.fa fo_100_1 (.t L0)) rfl ?_
 refine HD.st (R.ld sc_97 (.t L0) H0 rfl) rfl ?_
 refine HD.st (R.lenl sl_97 (.t L0)) rfl ?_
 refine HD.st (R.add (.t L6) (.t L0) (wi (by omega) (by omega))) rfl ?_
 refine HD.up (R.as (.t L0)) (E1 U6) rfl ?_
 refine HD.nil (WL.nil (QS.next (W.del (.dr (.dr (.dr (.dr (.dr (.dr (.dr (.dr (.dr (.dr (.dr (.dr (.dr .rf))))))))))))) (W.seq (W.seq (W.region ?_))))))
 refine WL.st (R.mv (.t L0)) rfl ?_
 refine WL.st (R.nc (.t L0)) rfl ?_
 refine WL.st (R.fa fo_102_0 (.t L0)) rfl ?_
 refine WL.st (R.fa fo_100_0 (.t L0)) rfl ?_
 refine WL.st (R.ld sc_4 (.t L0) H0 rfl) rfl ?_
 refine WL.nil (QS.next (W.del (.kp (.dr (.dr (.dr (.dr .rf))))) ?_))
 refine W.cb (.t L0) (fun h0 => ?_) (fun h0 => ?_)
 ·
  refine W.del (.dr .rf) (W.region ?_)
  refine WL.st (R.mv (.t L3)) rfl ?_
  refine WL.st (R.add (.t L0) .c (wi (by omega) (by omega))) rfl ?_
  refine WL.as (.t L0) U5 rfl ?_
  refine WL.nil (QS.next (W.del (.dr (.dr .rf)) (W.seq (W.region ?_))))
  refine WL.st (R.mv (.t L3)) rfl ?_
  refine WL.as (.t L0) U3 rfl ?_
  refine WL.nil (QS.next (W.del (.dr .rf) (W.ret ?_)))
  exact QS.fin (.inl rfl) rfl (.tmp L2 .nil) () (congrArg (Value.int .i64) (by simp [MachS.deep, h0])) (.kp rfl (.kp rfl (.kp rfl .nil))) (fun _ _ _ => trivial)
 ·
  refine W.del (.dr .rf) (W.skip (QS.next (W.seq (W.region ?_))))
  refine WL.st (R.mv (.t L3)) rfl ?_
  refine WL.as (.t L0) U3 rfl ?_
  refine WL.nil (QS.next (W.del (.dr .rf) (W.ret ?_)))
  exact QS.fin (.inl rfl) rfl (.tmp L2 .nil) () (congrArg (Value.int .i64) (by simp [MachS.deep, h0])) (.kp rfl (.kp rfl (.kp rfl .nil))) (fun _ _ _ => trivial)

theorem mach_Done {g : Nat} {pa tx : Bool} {br : List Bool} {op : List LevS} {Ab Ao : Option Addr} {cb co : Nat} (hbl : br.length ≤ 1000000) (hol : op.length ≤ 1000000) {C : Cx} (hb : Hb C C.w0 [blk g 102 [.bool pa, .slice Ab br.length cb, .slice Ao op.length co, .bool tx], .row (.slice Ab br.length cb) 4 1 br.length (flat bo1 br), .row (.slice Ao op.length co) 159 5 op.length (flat lv5 op)] (fun _ => True)) :
    Sp Tryd.prog 49 [.pointer (some ⟨g, 0, none⟩)] C (ι := Unit) (fun _ => .bool (MachS.done (⟨pa, br, op, tx⟩ : MachS))) (fun _ => [blk g 102 [.bool pa, .slice Ab br.length cb, .slice Ao op.length co, .bool tx], .row (.slice Ab br.length cb) 4 1 br.length (flat bo1 br), .row (.slice Ao op.length co) 159 5 op.length (flat lv5 op)]) (fun _ _ => True) := by
 refine Sp.enter (N := 18) (e := entryEnv [.pointer (some ⟨g, 0, none⟩)] 0 3) Tryd.func49 rfl rfl (Nat.le_of_ble_eq_true rfl) (entry_ok (Nat.le_of_ble_eq_true rfl) (Nat.le_of_ble_eq_true rfl)) (entry_nd _ _) hb ?_
 show W _ _ _ _ _ [(0, .pointer (some ⟨g, 0, none⟩)), (1, undef), (2, undef)] _ _
 refine W.seq (W.region ?_)
 refine WL.as .c U2 rfl ?_
 refine WL.nil (QS.next (W.seq (W.region ?_)))
 refine WL.st (R.mv (.t L0)) rfl ?_
 refine WL.st (R.nc (.t L0)) rfl ?_
 refine WL.st (R.fa fo_102_0 (.t L0)) rfl ?_
 refine WL.st (R.fa fo_100_0 (.t L0)) rfl ?_
 refine WL.st (R.ld sc_4 (.t L0) H0 rfl) rfl ?_
 refine WL.st (R.notb (.t L0)) rfl ?_
 refine WL.st (R.mv (.t L0)) rfl ?_
 refine WL.cb L0 U0 U0 (fun hg9 => ?_) (fun hg9 => ?_)
 ·
  refine WL.gy rfl L0 (R.mv (.t L7)) rfl ?_
  refine WL.gy rfl L1 (R.nc (.t L0)) rfl ?_
  refine WL.gy rfl L2 (R.fa fo_102_0 (.t L0)) rfl ?_
  refine WL.gy rfl L3 (R.fa fo_100_2 (.t L0)) rfl ?_
  refine WL.gy rfl L4 (R.ld sc_98 (.t L0) H0 rfl) rfl ?_
  refine WL.gy rfl L5 (R.lenl sl_98 (.t L0)) rfl ?_
  refine WL.gy rfl L6 (R.eqi (.t L0) .c) rfl ?_
  refine WL.st (R.pkt (.t L7) (.t L0)) rfl ?_
  refine WL.as (.t L0) (E1 U7) rfl ?_
  refine WL.nil (QS.next (W.del (.dr (.dr (.dr (.dr (.dr (.dr (.dr (.dr (.dr (.dr (.dr (.dr (.dr (.dr (.dr .rf))))))))))))))) (W.ret ?_)))
  exact QS.fin (.inl rfl) rfl (.tmp L2 .nil) () (congrArg Value.bool (by rw [done_eq]; simp_all)) (.kp rfl (.kp rfl (.kp rfl .nil))) (fun _ _ _ => trivial)
 ·
  refine WL.gn rfl L0 rfl ?_
  refine WL.gn rfl L1 rfl ?_
  refine WL.gn rfl L2 rfl ?_
  refine WL.gn rfl L3 rfl ?_
  refine WL.gn rfl L4 rfl ?_
  refine WL.gn rfl L5 rfl ?_
  refine WL.gn rfl L6 rfl ?_
  refine WL.st (R.pkf (.t L7) .c) rfl ?_
  refine WL.as (.t L0) (E1 U7) rfl ?_
  refine WL.nil (QS.next (W.del (.dr (.dr (.dr (.dr (.dr (.dr (.dr (.dr (.dr (.dr (.dr (.dr (.dr (.dr (.dr .rf))))))))))))))) (W.ret ?_)))
  exact QS.fin (.inl rfl) rfl (.tmp L2 .nil) () (congrArg Value.bool (by rw [done_eq]; simp_all)) (.kp rfl (.kp rfl (.kp rfl .nil))) (fun _ _ _ => trivial)

theorem mach_top {g : Nat} {pa tx : Bool} {br : List Bool} {op : List LevS} {Ab Ao : Option Addr} {cb co : Nat} (hbl : br.length ≤ 1000000) (hol : op.length ≤ 1000000) {C : Cx} (hb : Hb C C.w0 [blk g 102 [.bool pa, .slice Ab br.length cb, .slice Ao op.length co, .bool tx], .row (.slice Ab br.length cb) 4 1 br.length (flat bo1 br), .row (.slice Ao op.length co) 159 5 op.length (flat lv5 op)] (fun _ => True)) :
    Sp Tryd.prog 96 [.pointer (some ⟨g, 0, none⟩)] C (ι := Unit) (fun _ => .tuple #[.agg (lv5 (topS op).1).toArray, .bool (topS op).2]) (fun _ => [blk g 102 [.bool pa, .slice Ab br.length cb, .slice Ao op.length co, .bool tx], .row (.slice Ab br.length cb) 4 1 br.length (flat bo1 br), .row (.slice Ao op.length co) 159 5 op.length (flat lv5 op)]) (fun _ _ => True) := by
 refine Sp.enter (N := 23) (e := entryEnv [.pointer (some ⟨g, 0, none⟩)] 0 4) Tryd.func96 rfl rfl (Nat.le_of_ble_eq_true rfl) (entry_ok (Nat.le_of_ble_eq_true rfl) (Nat.le_of_ble_eq_true rfl)) (entry_nd _ _) hb ?_
 show W _ _ _ _ _ [(0, .pointer (some ⟨g, 0, none⟩)), (1, undef), (2, undef), (3, undef)] _ _
 refine W.seq (W.region ?_)
 refine WL.allocu z_159 (fun _ => U2) rfl (fun g2 => ?_)
 refine WL.as .c U3 rfl ?_
 refine WL.nil (QS.next (W.seq (W.seq (W.region ?_))))
 refine WL.st (R.mv (.t L0)) rfl ?_
 refine WL.st (R.nc (.t L0)) rfl ?_
 refine WL.st (R.fa fo_100_2 (.t L0)) rfl ?_
 refine WL.st (R.ld sc_98 (.t L0) H1 rfl) rfl ?_
 refine WL.st (R.lenl sl_98 (.t L0)) rfl ?_
 refine WL.st (R.eqi (.t L0) .c) rfl ?_
 refine WL.nil (QS.next (W.del (.kp (.dr (.dr (.dr (.dr (.dr .rf)))))) ?_))
 refine W.cd (.t L0) (fun h0 => ?_) (fun h0 => ?_)
 ·
  refine W.del (.dr .rf) (W.seq (W.region ?_))
  refine WL.st (R.bld (z := [.bool false, .int .i64 0, .int .i64 0, .int .i64 0, .int .i64 0]) Tryd.underlying159 (by kernel_rfl) z_159 .nil) rfl ?_
  refine WL.sto sz_159 (.t L3) (.t L0) rfl rfl rfl C0 (by repeat constructor) ?_
  refine WL.as .c U4 rfl ?_
  refine WL.nil (QS.next (W.del (.dr .rf) (W.ret (QS.thenr ?_))))
  have hr : topS op = (zeroL, false) := by rw [List.length_eq_zero_iff.1 (show op.length = 0 by omega)]; rfl
  exact QS.fin (.inl rfl) rfl (.agg ag_159 rfl L2 H0 (.tmp L3 .nil)) () (by rw [hr]; rfl) (.dr (.kp rfl (.kp rfl (.kp rfl .nil)))) (fun _ _ _ => trivial)
 ·
  refine W.del (.dr .rf) (W.skip (QS.next (W.seq ?_)))
  refine W.draw 12 mixed (by kernel_rfl) ?_
  refine HD.st (R.mv (.t L0)) rfl ?_
  refine HD.st (R.nc (.t L0)) rfl ?_
  refine HD.st (R.fa fo_100_2 (.t L0)) rfl ?_
  refine HD.st (R.ld sc_98 (.t L0) H1 rfl) rfl ?_
  refine HD.st (R.mv (.t L4)) rfl ?_
  refine HD.st (R.nc (.t L0)) rfl ?_
  refine HD.st (R.fa fo_100_2 (.t L0)) rfl ?_
  refine HD.st (R.ld sc_98 (.t L0) H1 rfl) rfl ?_
  refine HD.st (R.lenl sl_98 (.t L0)) rfl ?_
  refine HD.st (R.sub (.t L0) .c (wi (by omega) (by omega))) rfl ?_
  obtain ⟨x21, hx21⟩ : ∃ x, (op)[op.length - 1]? = some x := ⟨_, List.getElem?_eq_getElem (by omega)⟩
  refine HD.st (R.ixF sl_98 (.t L6) (by first | rfl | simp) (.t L0) (l := op) (j := op.length - 1) (by omega) (List.getElem?_eq_some_iff.1 hx21).1 (by decide) (fun w hb => (RdF.mkN lv5_length (by first | rfl | simp) (hb.rowRd H3)))) rfl ?_
  refine HD.st (R.ldpF ag_159 (.t L0) (j := op.length - 1) (k := 0) (fun w hb => (RdF.mkN lv5_length (by first | rfl | simp) (hb.rowRd H3))) hx21 (by repeat constructor) (by decide)) rfl ?_
  refine HD.nil ?_
  refine WL.sto sz_159 (.t (D1 L4)) (.t L0) rfl rfl rfl C0 (by repeat constructor) ?_
  refine WL.as .c (E1 U5) rfl ?_
  refine WL.nil (QS.next (W.del (.dr (.dr (.dr (.dr (.dr (.dr (.dr (.dr (.dr (.dr (.dr (.dr .rf)))))))))))) (W.ret ?_)))
  have hr : topS op = (x21, true) := by simp [topS, hx21]
  exact QS.fin (.inl rfl) rfl (.agg ag_159 rfl L2 H0 (.tmp L3 .nil)) () (by rw [hr]; rfl) (.dr (.kp rfl (.kp rfl (.kp rfl .nil)))) (fun _ _ _ => trivial)

theorem mach_full {l : LevS} {C : Cx} (hb : Hb C C.w0 [] (fun _ => True)) :
    Ret Tryd.prog 97 [.agg (lv5 l).toArray] C (.bool (fullS l)) := by
 refine Sp.enter (N := 13) (e := entryEnv [.agg (lv5 l).toArray] 0 3) Tryd.func97 rfl rfl (Nat.le_of_ble_eq_true rfl) (entry_ok (Nat.le_of_ble_eq_true rfl) (Nat.le_of_ble_eq_true rfl)) (entry_nd _ _) hb ?_
 show W _ _ _ _ _ [(0, .agg (lv5 l).toArray), (1, undef), (2, undef)] _ _
 refine W.seq (W.region ?_)
 refine WL.boxu (.t L0) rfl (fun _ => U1) rfl (fun g1 => ?_)
 refine WL.as .c U2 rfl ?_
 refine WL.nil (QS.next (W.seq (W.region ?_)))
 refine WL.st (R.fa fo_159_3 (.t L1)) rfl ?_
 refine WL.st (R.ld sc_3 (.t L0) H0 rfl) rfl ?_
 refine WL.st (R.eqi (.t L0) .c) rfl ?_
 refine WL.st (R.mv (.t L0)) rfl ?_
 refine WL.cd L0 U0 U0 (fun hg6 => ?_) (fun hg6 => ?_)
 ·
  refine WL.gn rfl L0 rfl ?_
  refine WL.gn rfl L1 rfl ?_
  refine WL.gn rfl L2 rfl ?_
  refine WL.gn rfl L3 rfl ?_
  refine WL.gn rfl L4 rfl ?_
  refine WL.st (R.pkt (.t L5) .c) rfl ?_
  refine WL.as (.t L0) (E1 U2) rfl ?_
  refine WL.nil (QS.next (W.del (.dr (.dr (.dr (.dr (.dr (.dr (.dr (.dr (.dr (.dr .rf)))))))))) (W.ret ?_)))
  exact QS.fin (.inl rfl) rfl (.tmp L2 .nil) () (congrArg Value.bool (by first | exact (decide_eq_true (by omega)).symm | exact decide_eq_decide.2 (by omega))) (.dr .nil) (fun _ _ _ => trivial)
 ·
  refine WL.gy rfl L0 (R.fa fo_159_4 (.t L5)) rfl ?_
  refine WL.gy rfl L1 (R.ld sc_3 (.t L0) H0 rfl) rfl ?_
  refine WL.gy rfl L2 (R.fa fo_159_2 (.t L7)) rfl ?_
  refine WL.gy rfl L3 (R.ld sc_3 (.t L0) H0 rfl) rfl ?_
  refine WL.gy rfl L4 (R.eqi (.t L2) (.t L0)) rfl ?_
  refine WL.st (R.pkf (.t L5) (.t L0)) rfl ?_
  refine WL.as (.t L0) (E1 U2) rfl ?_
  refine WL.nil (QS.next (W.del (.dr (.dr (.dr (.dr (.dr (.dr (.dr (.dr (.dr (.dr .rf)))))))))) (W.ret ?_)))
  exact QS.fin (.inl rfl) rfl (.tmp L2 .nil) () (congrArg Value.bool (by first | exact (decide_eq_true (by omega)).symm | exact decide_eq_decide.2 (by omega))) (.dr .nil) (fun _ _ _ => trivial)

theorem mach_linked {g : Nat} {pa tx : Bool} {br : List Bool} {op : List LevS} {Ab Ao : Option Addr} {cb co : Nat} (hbl : br.length ≤ 1000000) (hol : op.length ≤ 1000000) {C : Cx} (hb : Hb C C.w0 [blk g 102 [.bool pa, .slice Ab br.length cb, .slice Ao op.length co, .bool tx], .row (.slice Ab br.length cb) 4 1 br.length (flat bo1 br)] (fun _ => True)) :
    Sp Tryd.prog 95 [.pointer (some ⟨g, 0, none⟩)] C (ι := Unit) (fun _ => .bool (br.any id)) (fun _ => [blk g 102 [.bool pa, .slice Ab br.length cb, .slice Ao op.length co, .bool tx], .row (.slice Ab br.length cb) 4 1 br.length (flat bo1 br)]) (fun _ _ => True) := by
 refine Sp.enter (N := 16) (e := entryEnv [.pointer (some ⟨g, 0, none⟩)] 0 5) Tryd.func95 rfl rfl (Nat.le_of_ble_eq_true rfl) (entry_ok (Nat.le_of_ble_eq_true rfl) (Nat.le_of_ble_eq_true rfl)) (entry_nd _ _) hb ?_
 show W _ _ _ _ _ [(0, .pointer (some ⟨g, 0, none⟩)), (1, undef), (2, undef), (3, undef), (4, undef)] _ _
 refine W.seq (W.region ?_)
 refine WL.as .c U2 rfl ?_
 refine WL.nil (QS.next (W.seq (W.seq (W.region ?_))))
 refine WL.st (R.mv (.t L0)) rfl ?_
 refine WL.st (R.nc (.t L0)) rfl ?_
 refine WL.st (R.fa fo_100_1 (.t L0)) rfl ?_
 refine WL.st (R.ld sc_97 (.t L0) H0 rfl) rfl ?_
 refine WL.st (R.lenl sl_97 (.t L0)) rfl ?_
 refine WL.st (R.mv .c) rfl ?_
 refine WL.nil (QS.next (W.del (.kp (.kp (.kp (.dr (.dr (.dr .rf)))))) (W.block ?_)))
 refine W.loop (ι := {j : Nat // j ≤ br.length ∧ (br.take j).any id = false}) (fun x => [(10, .int .i64 x.1), (9, .int .i64 br.length), (8, .slice Ab br.length cb)]) (fun x => [blk g 102 [.bool pa, .slice Ab br.length cb, .slice Ao op.length co, .bool tx], .row (.slice Ab br.length cb) 4 1 br.length (flat bo1 br)]) (fun x w => True) (fun x => br.length - x.1) ⟨0, Nat.zero_le _, rfl⟩ (.kp rfl (.kp rfl (.kp rfl (.dr (.dr (.dr (.dr (.dr .nil)))))))) (.kp rfl (.kp rfl .nil)) (fun _ h _ => h) ?_
 intro x
 obtain ⟨j, hj1, hj2⟩ := x
 show W _ _ _ _ _ [(10, .int .i64 j), (9, .int .i64 br.length), (8, .slice Ab br.length cb)] [blk g 102 [.bool pa, .slice Ab br.length cb, .slice Ao op.length co, .bool tx], .row (.slice Ab br.length cb) 4 1 br.length (flat bo1 br)] (fun w => True)
 refine W.seq (W.region ?_)
 refine WL.st (R.lss (.t L0) (.t L1)) rfl ?_
 refine WL.nil (QS.next (W.seq ?_))
 refine W.cd (.t L0) (fun h0 => ?_) (fun h0 => ?_)
 ·
  refine W.del (.dr .rf) (W.skip (QS.next (W.seq (W.block (W.seq (W.region ?_))))))
  obtain ⟨x12, hx12⟩ : ∃ x, (br)[j]? = some x := ⟨_, List.getElem?_eq_getElem (by omega)⟩
  refine WL.st (R.ixF sl_97 (.t L2) (by first | rfl | simp) (.t L0) (l := br) (j := j) rfl (List.getElem?_eq_some_iff.1 hx12).1 (by decide) (fun w hb => (RdF.mkN bo1_length (by first | rfl | simp) (hb.rowRd H1)))) rfl ?_
  refine WL.st (R.ldp sc_4 (.t L0) (fun w hb => RdF.cell (k := 0) ((RdF.mkN bo1_length (by first | rfl | simp) (hb.rowRd H1))) hx12 rfl)) rfl ?_
  refine WL.st (R.as (.t L0)) rfl ?_
  refine WL.nil (QS.next (W.del (.kp (.dr (.dr .rf))) (W.seq (W.region ?_))))
  refine WL.st (R.mv (.t L0)) rfl ?_
  refine WL.nil (QS.next ?_)
  refine W.cb (.t L0) (fun h1 => ?_) (fun h1 => ?_)
  ·
   refine W.del (.dr .rf) (W.seq (W.region ?_))
   refine WL.st (R.as .c) rfl ?_
   refine WL.nil (QS.next (W.ret (QS.blkr (QS.thenr (QS.thenr (QS.blkr (QS.thenr ?_)))))))
   exact QS.fin (.inl rfl) rfl (.tmp L0 .nil) () (congrArg Value.bool (List.any_eq_true.2 ⟨x12, List.mem_of_getElem? hx12, h1⟩).symm) (.kp rfl (.kp rfl .nil)) (fun _ _ _ => trivial)
  ·
   refine W.del (.dr .rf) (W.skip (QS.blkn (QS.next (W.region ?_))))
   refine WL.st (R.add (.t L1) .c (wi (by omega) (by omega))) rfl ?_
   refine WL.up (R.mv (.t L0)) U2 rfl ?_
   refine WL.nil ?_
   exact QS.at ⟨j + 1, by omega, by rw [take_push hx12, List.any_append, hj2]; simp [h1]⟩ (by dsimp only; omega) (.dr (.dr (.kp rfl (.kp rfl (.kp rfl .nil))))) (.kp rfl (.kp rfl .nil)) (fun _ h _ => h)
 ·
  refine W.del (.dr .rf) (W.exit (QS.thenx (QS.thenx (QS.blkx (QS.next (W.del (.dr (.dr (.dr .rf))) (W.seq (W.region ?_))))))))
  refine WL.st (R.as .c) rfl ?_
  refine WL.nil (QS.next (W.ret ?_))
  exact QS.fin (.inl rfl) rfl (.tmp L0 .nil) () (congrArg Value.bool (by rw [List.take_of_length_le (by omega)] at hj2; exact hj2.symm)) (.kp rfl (.kp rfl .nil)) (fun _ _ _ => trivial)

theorem any0 {k : Int} {b : Bool} (h : ¬ k ≠ 2 ∨ b = false) : ¬ (k ≠ 2 ∧ b = true) := by rintro ⟨h1, h2⟩; rcases h with h | h; exact h h1; rw [h] at h2; cases h2

theorem mach_inline {g : Nat} {pa tx : Bool} {br : List Bool} {op : List LevS} {Ab Ao : Option Addr} {cb co : Nat} (hbl : br.length ≤ 1000000) (hol : op.length ≤ 1000000) {k n : Int} {tt : List UInt8} {wd : List Int} {Aw : Option Addr} {cw : Nat} (hk : k ≤ 7 ∨ k = 9) {C : Cx} (hb : Hb C C.w0 [blk g 102 [.bool pa, .slice Ab br.length cb, .slice Ao op.length co, .bool tx], .row (.slice Ab br.length cb) 4 1 br.length (flat bo1 br), .row (.slice Ao op.length co) 159 5 op.length (flat lv5 op)] (fun _ => True)) :
    Sp Tryd.prog 72 [.pointer (some ⟨g, 0, none⟩), .agg #[.int .i64 k, .int .i64 n, str tt, .slice Aw wd.length cw]] C (ι := (Option Addr × Nat) × Option Addr × Nat) (fun _ => .bool (inlineS (⟨pa, br, op, tx⟩ : MachS) k).1) (fun x => [blk g 102 [.bool (inlineS (⟨pa, br, op, tx⟩ : MachS) k).2.para, .slice x.1.1 (inlineS (⟨pa, br, op, tx⟩ : MachS) k).2.braces.length x.1.2, .slice x.2.1 (inlineS (⟨pa, br, op, tx⟩ : MachS) k).2.open_.length x.2.2, .bool (inlineS (⟨pa, br, op, tx⟩ : MachS) k).2.text], .row (.slice x.1.1 (inlineS (⟨pa, br, op, tx⟩ : MachS) k).2.braces.length x.1.2) 4 1 (inlineS (⟨pa, br, op, tx⟩ : MachS) k).2.braces.length (flat bo1 (inlineS (⟨pa, br, op, tx⟩ : MachS) k).2.braces), .row (.slice x.2.1 (inlineS (⟨pa, br, op, tx⟩ : MachS) k).2.open_.length x.2.2) 159 5 (inlineS (⟨pa, br, op, tx⟩ : MachS) k).2.open_.length (flat lv5 (inlineS (⟨pa, br, op, tx⟩ : MachS) k).2.open_)]) (fun _ _ => True) := by
 refine Sp.enter (N := 81) (e := entryEnv [.pointer (some ⟨g, 0, none⟩), .agg #[.int .i64 k, .int .i64 n, str tt, .slice Aw wd.length cw]] 0 7) Tryd.func72 rfl rfl (Nat.le_of_ble_eq_true rfl) (entry_ok (Nat.le_of_ble_eq_true rfl) (Nat.le_of_ble_eq_true rfl)) (entry_nd _ _) hb ?_
 show W _ _ _ _ _ [(0, .pointer (some ⟨g, 0, none⟩)), (1, .agg #[.int .i64 k, .int .i64 n, str tt, .slice Aw wd.length cw]), (2, undef), (3, undef), (4, undef), (5, undef), (6, undef)] _ _
 refine W.seq (W.region ?_)
 refine WL.boxu (.t L1) rfl (fun _ => U3) rfl (fun g3 => ?_)
 refine WL.as .c U4 rfl ?_
 refine WL.nil (QS.next (W.seq (W.region ?_)))
 refine WL.st (R.fa fo_95_0 (.t L3)) rfl ?_
 refine WL.st (R.ld sc_57 (.t L0) H0 rfl) rfl ?_
 refine WL.as (.t L0) U7 rfl ?_
 refine WL.nil (QS.next (W.del (.dr (.dr .rf)) (W.seq (W.seq (W.region ?_)))))
 refine WL.st (R.mv (.t L0)) rfl ?_
 refine WL.st (R.nc (.t L0)) rfl ?_
 refine WL.st (R.fa fo_100_0 (.t L0)) rfl ?_
 refine WL.st (R.ld sc_4 (.t L0) H1 rfl) rfl ?_
 refine WL.st (R.notb (.t L0)) rfl ?_
 refine WL.nil (QS.next (W.del (.kp (.dr (.dr (.dr (.dr .rf))))) ?_))
 refine W.cb (.t L0) (fun h0 => ?_) (fun h0 => ?_)
 ·
  refine W.del (.dr .rf) (W.seq (W.region ?_))
  refine WL.as .c U4 rfl ?_
  refine WL.nil (QS.next (W.ret (QS.thenr ?_)))
  have hr : inlineS (⟨pa, br, op, tx⟩ : MachS) k = (false, (⟨pa, br, op, tx⟩ : MachS)) := by rw [inlineS, if_pos (by simpa using h0)]
  exact QS.fin (.inl rfl) rfl (.tmp L4 .nil) ((Ab, cb), (Ao, co)) (by rw [hr]; rfl) (.dr (.kp (by rw [hr]) (.kp (by rw [hr]) (.kp (by rw [hr]) .nil)))) (fun _ _ _ => trivial)
 ·
  refine W.del (.dr .rf) (W.skip (QS.next (W.seq (W.seq (W.region ?_)))))
  refine WL.st (R.mv (.t L5)) rfl ?_
  refine WL.nil (QS.next (W.block (W.seq (W.region ?_))))
  refine WL.st (R.eqi (.t L0) .c) rfl ?_
  refine WL.st (R.as (.t L0)) rfl ?_
  refine WL.nil (QS.next (W.del (.kp (.dr .rf)) ?_))
  refine W.cd (.t L0) (fun h1 => ?_) (fun h1 => ?_)
  ·
   refine W.del (.dr (.dr .rf)) (W.seq (W.region ?_))
   refine WL.st (R.mv (.t L0)) rfl ?_
   refine WL.st (R.nc (.t L0)) rfl ?_
   refine WL.st (R.fa fo_100_3 (.t L0)) rfl ?_
   refine WL.st (R.ld sc_4 (.t L0) H1 rfl) rfl ?_
   refine WL.st (R.notb (.t L0)) rfl ?_
   refine WL.as (.t L0) U9 rfl ?_
   refine WL.nil (QS.next (W.del (.dr (.dr (.dr (.dr (.dr .rf))))) (W.ret (QS.blkr (QS.thenr ?_)))))
   have hr : inlineS (⟨pa, br, op, tx⟩ : MachS) k = (!tx, (⟨pa, br, op, tx⟩ : MachS)) := by rw [inlineS, if_neg (by simpa using h0), if_pos (by omega)]
   exact QS.fin (.inl rfl) rfl (.tmp L4 .nil) ((Ab, cb), (Ao, co)) (by rw [hr]; rfl) (.dr (.kp (by rw [hr]) (.kp (by rw [hr]) (.kp (by rw [hr]) .nil)))) (fun _ _ _ => trivial)
  ·
   refine W.del (.dr .rf) (W.seq (W.seq (W.region ?_)))
   refine WL.st (R.eqi (.t L0) .c) rfl ?_
   refine WL.st (R.as (.t L0)) rfl ?_
   refine WL.nil (QS.next (W.del (.kp (.dr .rf)) ?_))
   refine W.cd (.t L0) (fun h2 => ?_) (fun h2 => ?_)
   ·
    refine W.skip (QS.next ?_)
    refine W.cdt (.t L0) h2 ?_
    refine W.del (.dr (.dr .rf)) (W.seq (W.seq (W.region ?_)))
    refine WL.st (R.mv (.t L0)) rfl ?_
    refine WL.st (R.nc (.t L0)) rfl ?_
    refine WL.st (R.fa fo_100_1 (.t L0)) rfl ?_
    refine WL.st (R.ld sc_97 (.t L0) H1 rfl) rfl ?_
    refine WL.st (R.lenl sl_97 (.t L0)) rfl ?_
    refine WL.st (R.geq (.t L0) .c) rfl ?_
    refine WL.st (R.mv (.t L0)) rfl ?_
    refine WL.cd L0 U0 U0 (fun hg32 => ?_) (fun hg32 => ?_)
    ·
     refine WL.gn rfl L0 rfl ?_
     refine WL.gn rfl L1 rfl ?_
     refine WL.gn rfl L2 rfl ?_
     refine WL.gu rfl L0 rfl ?_
     refine WL.gu rfl L1 rfl ?_
     refine WL.gn rfl L5 rfl ?_
     refine WL.st (R.pkt (.t L6) .c) rfl ?_
     refine WL.nil (QS.next (W.del (.kp (.dr (.dr (.dr (.dr (.dr (.dr (.dr (.dr (.dr (.dr (.dr (.dr (.dr .rf)))))))))))))) (W.ct (.t L0) (W.del (.dr .rf) (W.seq (W.region ?_))))))
     refine WL.as .c U4 rfl ?_
     refine WL.nil (QS.next (W.ret (QS.thenr (QS.blkr (QS.thenr ?_)))))
     have hr : inlineS (⟨pa, br, op, tx⟩ : MachS) k = (false, (⟨pa, br, op, tx⟩ : MachS)) := by rw [inlineS, if_neg (by simpa using h0), if_neg (by omega), if_pos (by omega), if_pos (by first | exact .inl (by show 16 ≤ br.length; omega) | exact .inr ⟨hg35, h5⟩)]
     exact QS.fin (.inl rfl) rfl (.tmp L4 .nil) ((Ab, cb), (Ao, co)) (by rw [hr]; rfl) (.dr (.kp (by rw [hr]) (.kp (by rw [hr]) (.kp (by rw [hr]) .nil)))) (fun _ _ _ => trivial)
    ·
     refine WL.gy rfl L0 (R.mv (.t (D1 L2))) rfl ?_
     refine WL.gy rfl L1 (R.nei (.t L0) .c) rfl ?_
     refine WL.gy rfl L2 (R.mv (.t L0)) rfl ?_
     refine WL.cd L0 U0 U0 (fun hg35 => ?_) (fun hg35 => ?_)
     ·
      refine WL.gy rfl L0 (R.mv (.t (D1 L0))) rfl ?_
      refine WL.gyw rfl L1 ?_
      refine WL.call gf_95 .f (.cons (.t L0) .nil) (.dr (.kp rfl (.kp rfl (.dr .nil)))) (fun w hb => (mach_linked hbl hol (hb.imp fun _ _ => trivial))) rfl (fun x37 => ?_)
      refine WL.gy rfl L5 (R.pkt (.t L2) (.t L0)) rfl ?_
      refine WL.st (R.pkf (.t L6) (.t L0)) rfl ?_
      refine WL.nil (QS.next (W.del (.kp (.dr (.dr (.dr (.dr (.dr (.dr (.dr (.dr (.dr (.dr (.dr (.dr (.dr .rf)))))))))))))) ?_))
      refine W.cb (.t L0) (fun h5 => ?_) (fun h5 => ?_)
      ·
       refine W.del (.dr .rf) (W.seq (W.region ?_))
       refine WL.as .c U4 rfl ?_
       refine WL.nil (QS.next (W.ret (QS.thenr (QS.blkr (QS.thenr ?_)))))
       have hr : inlineS (⟨pa, br, op, tx⟩ : MachS) k = (false, (⟨pa, br, op, tx⟩ : MachS)) := by rw [inlineS, if_neg (by simpa using h0), if_neg (by omega), if_pos (by omega), if_pos (by first | exact .inl (by show 16 ≤ br.length; omega) | exact .inr ⟨hg35, h5⟩)]
       exact QS.fin (.inl rfl) rfl (.tmp L4 .nil) ((Ab, cb), (Ao, co)) (by rw [hr]; rfl) (.kp (by rw [hr]) (.kp (by rw [hr]) (.dr (.kp (by rw [hr]) .nil)))) (fun _ _ _ => trivial)
      ·
       refine W.del (.dr .rf) (W.skip (QS.next (W.region ?_)))
       refine WL.st (R.mv (.t L0)) rfl ?_
       refine WL.st (R.mv (.t L1)) rfl ?_
       refine WL.st (R.nc (.t L0)) rfl ?_
       refine WL.st (R.fa fo_100_1 (.t L0)) rfl ?_
       refine WL.st (R.ld sc_97 (.t L0) H0 rfl) rfl ?_
       refine WL.st (R.mv (.t (D1 L0))) rfl ?_
       refine WL.st (R.nei (.t L0) .c) rfl ?_
       refine WL.bs1 sl_97 z_4 rfl (by decide) (by decide) (.t L0) rfl rfl rfl (fun g47 => ?_)
       refine WL.app' ap_97 (.t L3) (.t L0) (fun _ _ => C2) (fun w hb => Rd.of_blk (hb.has H0) rfl) rfl (by unfold maxLen; omega) (by omega) rfl (fun A48 c48 => ?_)
       refine WL.st (R.nc (.t L8)) rfl ?_
       refine WL.st (R.fa fo_100_1 (.t L0)) rfl ?_
       refine WL.sto sz_97 (.t L0) (.t L2) rfl rfl rfl C1 (by repeat constructor) ?_
       refine WL.nil (QS.blkn (QS.next (W.del (.dr (.dr (.dr (.dr (.dr (.dr (.dr (.dr (.dr (.dr (.dr .rf))))))))))) (W.seq (W.region ?_)))))
       refine WL.as .c U4 rfl ?_
       refine WL.nil (QS.next (W.ret ?_))
       have hr : inlineS (⟨pa, br, op, tx⟩ : MachS) k = (true, ⟨pa, br ++ [decide (k ≠ 2)], op, tx⟩) := by rw [inlineS, if_neg (by simpa using h0), if_neg (by omega), if_pos (by omega), if_neg (by rintro (h | h); exact absurd (show 16 ≤ br.length from h) (by omega); exact any0 (by first | exact .inl hg35 | exact .inr h5) h)]
       exact QS.fin (.inl rfl) rfl (.tmp L4 .nil) ((A48, c48), (Ao, co)) (by rw [hr]; rfl) (.dr (.kp (by rw [hr]; simp) (.kp (by rw [hr]; exact chunk_row (by simp) (by rw [← flat_snoc])) (.dr (.kp (by rw [hr]) .nil))))) (fun _ _ _ => trivial)
     ·
      refine WL.gn rfl L0 rfl ?_
      refine WL.gn rfl L1 rfl ?_
      refine WL.gy rfl L5 (R.pkf (.t L2) .c) rfl ?_
      refine WL.st (R.pkf (.t L6) (.t L0)) rfl ?_
      refine WL.nil (QS.next (W.del (.kp (.dr (.dr (.dr (.dr (.dr (.dr (.dr (.dr (.dr (.dr (.dr (.dr (.dr .rf)))))))))))))) (W.cf (.t L0) (W.del (.dr .rf) (W.skip (QS.next (W.region ?_)))))))
      refine WL.st (R.mv (.t L0)) rfl ?_
      refine WL.st (R.mv (.t L1)) rfl ?_
      refine WL.st (R.nc (.t L0)) rfl ?_
      refine WL.st (R.fa fo_100_1 (.t L0)) rfl ?_
      refine WL.st (R.ld sc_97 (.t L0) H1 rfl) rfl ?_
      refine WL.st (R.mv (.t (D1 L0))) rfl ?_
      refine WL.st (R.nei (.t L0) .c) rfl ?_
      refine WL.bs1 sl_97 z_4 rfl (by decide) (by decide) (.t L0) rfl rfl rfl (fun g47 => ?_)
      refine WL.app' ap_97 (.t L3) (.t L0) (fun _ _ => C3) (fun w hb => Rd.of_blk (hb.has H0) rfl) rfl (by unfold maxLen; omega) (by omega) rfl (fun A48 c48 => ?_)
      refine WL.st (R.nc (.t L8)) rfl ?_
      refine WL.st (R.fa fo_100_1 (.t L0)) rfl ?_
      refine WL.sto sz_97 (.t L0) (.t L2) rfl rfl rfl C2 (by repeat constructor) ?_
      refine WL.nil (QS.blkn (QS.next (W.del (.dr (.dr (.dr (.dr (.dr (.dr (.dr (.dr (.dr (.dr (.dr .rf))))))))))) (W.seq (W.region ?_)))))
      refine WL.as .c U4 rfl ?_
      refine WL.nil (QS.next (W.ret ?_))
      have hr : inlineS (⟨pa, br, op, tx⟩ : MachS) k = (true, ⟨pa, br ++ [decide (k ≠ 2)], op, tx⟩) := by rw [inlineS, if_neg (by simpa using h0), if_neg (by omega), if_pos (by omega), if_neg (by rintro (h | h); exact absurd (show 16 ≤ br.length from h) (by omega); exact any0 (by first | exact .inl hg35 | exact .inr h5) h)]
      exact QS.fin (.inl rfl) rfl (.tmp L4 .nil) ((A48, c48), (Ao, co)) (by rw [hr]; rfl) (.dr (.dr (.kp (by rw [hr]; simp) (.kp (by rw [hr]; exact chunk_row (by simp) (by rw [← flat_snoc])) (.kp (by rw [hr]) .nil))))) (fun _ _ _ => trivial)
   ·
    refine W.seq (W.region ?_)
    refine WL.st (R.eqi (.t L1) .c) rfl ?_
    refine WL.as (.t L0) U1 rfl ?_
    refine WL.nil (QS.next (W.del (.dr .rf) ?_))
    refine W.cd (.t L0) (fun h3 => ?_) (fun h3 => ?_)
    ·
     refine W.skip (QS.next ?_)
     refine W.cdt (.t L0) h3 ?_
     refine W.del (.dr (.dr .rf)) (W.seq (W.seq (W.region ?_)))
     refine WL.st (R.mv (.t L0)) rfl ?_
     refine WL.st (R.nc (.t L0)) rfl ?_
     refine WL.st (R.fa fo_100_1 (.t L0)) rfl ?_
     refine WL.st (R.ld sc_97 (.t L0) H1 rfl) rfl ?_
     refine WL.st (R.lenl sl_97 (.t L0)) rfl ?_
     refine WL.st (R.geq (.t L0) .c) rfl ?_
     refine WL.st (R.mv (.t L0)) rfl ?_
     refine WL.cd L0 U0 U0 (fun hg32 => ?_) (fun hg32 => ?_)
     ·
      refine WL.gn rfl L0 rfl ?_
      refine WL.gn rfl L1 rfl ?_
      refine WL.gn rfl L2 rfl ?_
      refine WL.gu rfl L0 rfl ?_
      refine WL.gu rfl L1 rfl ?_
      refine WL.gn rfl L5 rfl ?_
      refine WL.st (R.pkt (.t L6) .c) rfl ?_
      refine WL.nil (QS.next (W.del (.kp (.dr (.dr (.dr (.dr (.dr (.dr (.dr (.dr (.dr (.dr (.dr (.dr (.dr .rf)))))))))))))) (W.ct (.t L0) (W.del (.dr .rf) (W.seq (W.region ?_))))))
      refine WL.as .c U4 rfl ?_
      refine WL.nil (QS.next (W.ret (QS.thenr (QS.blkr (QS.thenr ?_)))))
      have hr : inlineS (⟨pa, br, op, tx⟩ : MachS) k = (false, (⟨pa, br, op, tx⟩ : MachS)) := by rw [inlineS, if_neg (by simpa using h0), if_neg (by omega), if_pos (by omega), if_pos (by first | exact .inl (by show 16 ≤ br.length; omega) | exact .inr ⟨hg35, h5⟩)]
      exact QS.fin (.inl rfl) rfl (.tmp L4 .nil) ((Ab, cb), (Ao, co)) (by rw [hr]; rfl) (.dr (.kp (by rw [hr]) (.kp (by rw [hr]) (.kp (by rw [hr]) .nil)))) (fun _ _ _ => trivial)
     ·
      refine WL.gy rfl L0 (R.mv (.t (D1 L2))) rfl ?_
      refine WL.gy rfl L1 (R.nei (.t L0) .c) rfl ?_
      refine WL.gy rfl L2 (R.mv (.t L0)) rfl ?_
      refine WL.cd L0 U0 U0 (fun hg35 => ?_) (fun hg35 => ?_)
      ·
       refine WL.gy rfl L0 (R.mv (.t (D1 L0))) rfl ?_
       refine WL.gyw rfl L1 ?_
       refine WL.call gf_95 .f (.cons (.t L0) .nil) (.dr (.kp rfl (.kp rfl (.dr .nil)))) (fun w hb => (mach_linked hbl hol (hb.imp fun _ _ => trivial))) rfl (fun x37 => ?_)
       refine WL.gy rfl L5 (R.pkt (.t L2) (.t L0)) rfl ?_
       refine WL.st (R.pkf (.t L6) (.t L0)) rfl ?_
       refine WL.nil (QS.next (W.del (.kp (.dr (.dr (.dr (.dr (.dr (.dr (.dr (.dr (.dr (.dr (.dr (.dr (.dr .rf)))))))))))))) ?_))
       refine W.cb (.t L0) (fun h5 => ?_) (fun h5 => ?_)
       ·
        refine W.del (.dr .rf) (W.seq (W.region ?_))
        refine WL.as .c U4 rfl ?_
        refine WL.nil (QS.next (W.ret (QS.thenr (QS.blkr (QS.thenr ?_)))))
        have hr : inlineS (⟨pa, br, op, tx⟩ : MachS) k = (false, (⟨pa, br, op, tx⟩ : MachS)) := by rw [inlineS, if_neg (by simpa using h0), if_neg (by omega), if_pos (by omega), if_pos (by first | exact .inl (by show 16 ≤ br.length; omega) | exact .inr ⟨hg35, h5⟩)]
        exact QS.fin (.inl rfl) rfl (.tmp L4 .nil) ((Ab, cb), (Ao, co)) (by rw [hr]; rfl) (.kp (by rw [hr]) (.kp (by rw [hr]) (.dr (.kp (by rw [hr]) .nil)))) (fun _ _ _ => trivial)
       ·
        refine W.del (.dr .rf) (W.skip (QS.next (W.region ?_)))
        refine WL.st (R.mv (.t L0)) rfl ?_
        refine WL.st (R.mv (.t L1)) rfl ?_
        refine WL.st (R.nc (.t L0)) rfl ?_
        refine WL.st (R.fa fo_100_1 (.t L0)) rfl ?_
        refine WL.st (R.ld sc_97 (.t L0) H0 rfl) rfl ?_
        refine WL.st (R.mv (.t (D1 L0))) rfl ?_
        refine WL.st (R.nei (.t L0) .c) rfl ?_
        refine WL.bs1 sl_97 z_4 rfl (by decide) (by decide) (.t L0) rfl rfl rfl (fun g47 => ?_)
        refine WL.app' ap_97 (.t L3) (.t L0) (fun _ _ => C2) (fun w hb => Rd.of_blk (hb.has H0) rfl) rfl (by unfold maxLen; omega) (by omega) rfl (fun A48 c48 => ?_)
        refine WL.st (R.nc (.t L8)) rfl ?_
        refine WL.st (R.fa fo_100_1 (.t L0)) rfl ?_
        refine WL.sto sz_97 (.t L0) (.t L2) rfl rfl rfl C1 (by repeat constructor) ?_
        refine WL.nil (QS.blkn (QS.next (W.del (.dr (.dr (.dr (.dr (.dr (.dr (.dr (.dr (.dr (.dr (.dr .rf))))))))))) (W.seq (W.region ?_)))))
        refine WL.as .c U4 rfl ?_
        refine WL.nil (QS.next (W.ret ?_))
        have hr : inlineS (⟨pa, br, op, tx⟩ : MachS) k = (true, ⟨pa, br ++ [decide (k ≠ 2)], op, tx⟩) := by rw [inlineS, if_neg (by simpa using h0), if_neg (by omega), if_pos (by omega), if_neg (by rintro (h | h); exact absurd (show 16 ≤ br.length from h) (by omega); exact any0 (by first | exact .inl hg35 | exact .inr h5) h)]
        exact QS.fin (.inl rfl) rfl (.tmp L4 .nil) ((A48, c48), (Ao, co)) (by rw [hr]; rfl) (.dr (.kp (by rw [hr]; simp) (.kp (by rw [hr]; exact chunk_row (by simp) (by rw [← flat_snoc])) (.dr (.kp (by rw [hr]) .nil))))) (fun _ _ _ => trivial)
      ·
       refine WL.gn rfl L0 rfl ?_
       refine WL.gn rfl L1 rfl ?_
       refine WL.gy rfl L5 (R.pkf (.t L2) .c) rfl ?_
       refine WL.st (R.pkf (.t L6) (.t L0)) rfl ?_
       refine WL.nil (QS.next (W.del (.kp (.dr (.dr (.dr (.dr (.dr (.dr (.dr (.dr (.dr (.dr (.dr (.dr (.dr .rf)))))))))))))) (W.cf (.t L0) (W.del (.dr .rf) (W.skip (QS.next (W.region ?_)))))))
       refine WL.st (R.mv (.t L0)) rfl ?_
       refine WL.st (R.mv (.t L1)) rfl ?_
       refine WL.st (R.nc (.t L0)) rfl ?_
       refine WL.st (R.fa fo_100_1 (.t L0)) rfl ?_
       refine WL.st (R.ld sc_97 (.t L0) H1 rfl) rfl ?_
       refine WL.st (R.mv (.t (D1 L0))) rfl ?_
       refine WL.st (R.nei (.t L0) .c) rfl ?_
       refine WL.bs1 sl_97 z_4 rfl (by decide) (by decide) (.t L0) rfl rfl rfl (fun g47 => ?_)
       refine WL.app' ap_97 (.t L3) (.t L0) (fun _ _ => C3) (fun w hb => Rd.of_blk (hb.has H0) rfl) rfl (by unfold maxLen; omega) (by omega) rfl (fun A48 c48 => ?_)
       refine WL.st (R.nc (.t L8)) rfl ?_
       refine WL.st (R.fa fo_100_1 (.t L0)) rfl ?_
       refine WL.sto sz_97 (.t L0) (.t L2) rfl rfl rfl C2 (by repeat constructor) ?_
       refine WL.nil (QS.blkn (QS.next (W.del (.dr (.dr (.dr (.dr (.dr (.dr (.dr (.dr (.dr (.dr (.dr .rf))))))))))) (W.seq (W.region ?_)))))
       refine WL.as .c U4 rfl ?_
       refine WL.nil (QS.next (W.ret ?_))
       have hr : inlineS (⟨pa, br, op, tx⟩ : MachS) k = (true, ⟨pa, br ++ [decide (k ≠ 2)], op, tx⟩) := by rw [inlineS, if_neg (by simpa using h0), if_neg (by omega), if_pos (by omega), if_neg (by rintro (h | h); exact absurd (show 16 ≤ br.length from h) (by omega); exact any0 (by first | exact .inl hg35 | exact .inr h5) h)]
       exact QS.fin (.inl rfl) rfl (.tmp L4 .nil) ((A48, c48), (Ao, co)) (by rw [hr]; rfl) (.dr (.dr (.kp (by rw [hr]; simp) (.kp (by rw [hr]; exact chunk_row (by simp) (by rw [← flat_snoc])) (.kp (by rw [hr]) .nil))))) (fun _ _ _ => trivial)
    ·
     refine W.region ?_
     refine WL.st (R.eqi (.t L1) .c) rfl ?_
     refine WL.as (.t L0) U1 rfl ?_
     refine WL.nil (QS.next (W.del (.dr .rf) ?_))
     refine W.cd (.t L0) (fun h4 => ?_) (fun h4 => ?_)
     ·
      refine W.del (.dr (.dr .rf)) (W.seq (W.seq (W.region ?_)))
      refine WL.st (R.mv (.t L0)) rfl ?_
      refine WL.st (R.nc (.t L0)) rfl ?_
      refine WL.st (R.fa fo_100_1 (.t L0)) rfl ?_
      refine WL.st (R.ld sc_97 (.t L0) H1 rfl) rfl ?_
      refine WL.st (R.lenl sl_97 (.t L0)) rfl ?_
      refine WL.st (R.geq (.t L0) .c) rfl ?_
      refine WL.st (R.mv (.t L0)) rfl ?_
      refine WL.cd L0 U0 U0 (fun hg32 => ?_) (fun hg32 => ?_)
      ·
       refine WL.gn rfl L0 rfl ?_
       refine WL.gn rfl L1 rfl ?_
       refine WL.gn rfl L2 rfl ?_
       refine WL.gu rfl L0 rfl ?_
       refine WL.gu rfl L1 rfl ?_
       refine WL.gn rfl L5 rfl ?_
       refine WL.st (R.pkt (.t L6) .c) rfl ?_
       refine WL.nil (QS.next (W.del (.kp (.dr (.dr (.dr (.dr (.dr (.dr (.dr (.dr (.dr (.dr (.dr (.dr (.dr .rf)))))))))))))) (W.ct (.t L0) (W.del (.dr .rf) (W.seq (W.region ?_))))))
       refine WL.as .c U4 rfl ?_
       refine WL.nil (QS.next (W.ret (QS.thenr (QS.blkr (QS.thenr ?_)))))
       have hr : inlineS (⟨pa, br, op, tx⟩ : MachS) k = (false, (⟨pa, br, op, tx⟩ : MachS)) := by rw [inlineS, if_neg (by simpa using h0), if_neg (by omega), if_pos (by omega), if_pos (by first | exact .inl (by show 16 ≤ br.length; omega) | exact .inr ⟨hg35, h5⟩)]
       exact QS.fin (.inl rfl) rfl (.tmp L4 .nil) ((Ab, cb), (Ao, co)) (by rw [hr]; rfl) (.dr (.kp (by rw [hr]) (.kp (by rw [hr]) (.kp (by rw [hr]) .nil)))) (fun _ _ _ => trivial)
      ·
       refine WL.gy rfl L0 (R.mv (.t (D1 L2))) rfl ?_
       refine WL.gy rfl L1 (R.nei (.t L0) .c) rfl ?_
       refine WL.gy rfl L2 (R.mv (.t L0)) rfl ?_
       refine WL.cd L0 U0 U0 (fun hg35 => ?_) (fun hg35 => ?_)
       ·
        refine WL.gy rfl L0 (R.mv (.t (D1 L0))) rfl ?_
        refine WL.gyw rfl L1 ?_
        refine WL.call gf_95 .f (.cons (.t L0) .nil) (.dr (.kp rfl (.kp rfl (.dr .nil)))) (fun w hb => (mach_linked hbl hol (hb.imp fun _ _ => trivial))) rfl (fun x37 => ?_)
        refine WL.gy rfl L5 (R.pkt (.t L2) (.t L0)) rfl ?_
        refine WL.st (R.pkf (.t L6) (.t L0)) rfl ?_
        refine WL.nil (QS.next (W.del (.kp (.dr (.dr (.dr (.dr (.dr (.dr (.dr (.dr (.dr (.dr (.dr (.dr (.dr .rf)))))))))))))) ?_))
        refine W.cb (.t L0) (fun h5 => ?_) (fun h5 => ?_)
        ·
         refine W.del (.dr .rf) (W.seq (W.region ?_))
         refine WL.as .c U4 rfl ?_
         refine WL.nil (QS.next (W.ret (QS.thenr (QS.blkr (QS.thenr ?_)))))
         have hr : inlineS (⟨pa, br, op, tx⟩ : MachS) k = (false, (⟨pa, br, op, tx⟩ : MachS)) := by rw [inlineS, if_neg (by simpa using h0), if_neg (by omega), if_pos (by omega), if_pos (by first | exact .inl (by show 16 ≤ br.length; omega) | exact .inr ⟨hg35, h5⟩)]
         exact QS.fin (.inl rfl) rfl (.tmp L4 .nil) ((Ab, cb), (Ao, co)) (by rw [hr]; rfl) (.kp (by rw [hr]) (.kp (by rw [hr]) (.dr (.kp (by rw [hr]) .nil)))) (fun _ _ _ => trivial)
        ·
         refine W.del (.dr .rf) (W.skip (QS.next (W.region ?_)))
         refine WL.st (R.mv (.t L0)) rfl ?_
         refine WL.st (R.mv (.t L1)) rfl ?_
         refine WL.st (R.nc (.t L0)) rfl ?_
         refine WL.st (R.fa fo_100_1 (.t L0)) rfl ?_
         refine WL.st (R.ld sc_97 (.t L0) H0 rfl) rfl ?_
         refine WL.st (R.mv (.t (D1 L0))) rfl ?_
         refine WL.st (R.nei (.t L0) .c) rfl ?_
         refine WL.bs1 sl_97 z_4 rfl (by decide) (by decide) (.t L0) rfl rfl rfl (fun g47 => ?_)
         refine WL.app' ap_97 (.t L3) (.t L0) (fun _ _ => C2) (fun w hb => Rd.of_blk (hb.has H0) rfl) rfl (by unfold maxLen; omega) (by omega) rfl (fun A48 c48 => ?_)
         refine WL.st (R.nc (.t L8)) rfl ?_
         refine WL.st (R.fa fo_100_1 (.t L0)) rfl ?_
         refine WL.sto sz_97 (.t L0) (.t L2) rfl rfl rfl C1 (by repeat constructor) ?_
         refine WL.nil (QS.blkn (QS.next (W.del (.dr (.dr (.dr (.dr (.dr (.dr (.dr (.dr (.dr (.dr (.dr .rf))))))))))) (W.seq (W.region ?_)))))
         refine WL.as .c U4 rfl ?_
         refine WL.nil (QS.next (W.ret ?_))
         have hr : inlineS (⟨pa, br, op, tx⟩ : MachS) k = (true, ⟨pa, br ++ [decide (k ≠ 2)], op, tx⟩) := by rw [inlineS, if_neg (by simpa using h0), if_neg (by omega), if_pos (by omega), if_neg (by rintro (h | h); exact absurd (show 16 ≤ br.length from h) (by omega); exact any0 (by first | exact .inl hg35 | exact .inr h5) h)]
         exact QS.fin (.inl rfl) rfl (.tmp L4 .nil) ((A48, c48), (Ao, co)) (by rw [hr]; rfl) (.dr (.kp (by rw [hr]; simp) (.kp (by rw [hr]; exact chunk_row (by simp) (by rw [← flat_snoc])) (.dr (.kp (by rw [hr]) .nil))))) (fun _ _ _ => trivial)
       ·
        refine WL.gn rfl L0 rfl ?_
        refine WL.gn rfl L1 rfl ?_
        refine WL.gy rfl L5 (R.pkf (.t L2) .c) rfl ?_
        refine WL.st (R.pkf (.t L6) (.t L0)) rfl ?_
        refine WL.nil (QS.next (W.del (.kp (.dr (.dr (.dr (.dr (.dr (.dr (.dr (.dr (.dr (.dr (.dr (.dr (.dr .rf)))))))))))))) (W.cf (.t L0) (W.del (.dr .rf) (W.skip (QS.next (W.region ?_)))))))
        refine WL.st (R.mv (.t L0)) rfl ?_
        refine WL.st (R.mv (.t L1)) rfl ?_
        refine WL.st (R.nc (.t L0)) rfl ?_
        refine WL.st (R.fa fo_100_1 (.t L0)) rfl ?_
        refine WL.st (R.ld sc_97 (.t L0) H1 rfl) rfl ?_
        refine WL.st (R.mv (.t (D1 L0))) rfl ?_
        refine WL.st (R.nei (.t L0) .c) rfl ?_
        refine WL.bs1 sl_97 z_4 rfl (by decide) (by decide) (.t L0) rfl rfl rfl (fun g47 => ?_)
        refine WL.app' ap_97 (.t L3) (.t L0) (fun _ _ => C3) (fun w hb => Rd.of_blk (hb.has H0) rfl) rfl (by unfold maxLen; omega) (by omega) rfl (fun A48 c48 => ?_)
        refine WL.st (R.nc (.t L8)) rfl ?_
        refine WL.st (R.fa fo_100_1 (.t L0)) rfl ?_
        refine WL.sto sz_97 (.t L0) (.t L2) rfl rfl rfl C2 (by repeat constructor) ?_
        refine WL.nil (QS.blkn (QS.next (W.del (.dr (.dr (.dr (.dr (.dr (.dr (.dr (.dr (.dr (.dr (.dr .rf))))))))))) (W.seq (W.region ?_)))))
        refine WL.as .c U4 rfl ?_
        refine WL.nil (QS.next (W.ret ?_))
        have hr : inlineS (⟨pa, br, op, tx⟩ : MachS) k = (true, ⟨pa, br ++ [decide (k ≠ 2)], op, tx⟩) := by rw [inlineS, if_neg (by simpa using h0), if_neg (by omega), if_pos (by omega), if_neg (by rintro (h | h); exact absurd (show 16 ≤ br.length from h) (by omega); exact any0 (by first | exact .inl hg35 | exact .inr h5) h)]
        exact QS.fin (.inl rfl) rfl (.tmp L4 .nil) ((A48, c48), (Ao, co)) (by rw [hr]; rfl) (.dr (.dr (.kp (by rw [hr]; simp) (.kp (by rw [hr]; exact chunk_row (by simp) (by rw [← flat_snoc])) (.kp (by rw [hr]) .nil))))) (fun _ _ _ => trivial)
     ·
      refine W.del (.dr .rf) (W.seq (W.region ?_))
      refine WL.st (R.eqi (.t L0) .c) rfl ?_
      refine WL.st (R.as (.t L0)) rfl ?_
      refine WL.nil (QS.next (W.del (.kp (.dr .rf)) ?_))
      refine W.cd (.t L0) (fun h6 => ?_) (fun h6 => ?_)
      ·
       refine W.del (.dr (.dr .rf)) (W.seq (W.region ?_))
       refine WL.st (R.mv (.t L0)) rfl ?_
       refine WL.st (R.nc (.t L0)) rfl ?_
       refine WL.st (R.fa fo_100_1 (.t L0)) rfl ?_
       refine WL.st (R.ld sc_97 (.t L0) H1 rfl) rfl ?_
       refine WL.st (R.lenl sl_97 (.t L0)) rfl ?_
       refine WL.as (.t L0) (E1 U1) rfl ?_
       refine WL.nil (QS.next (W.del (.dr (.dr (.dr (.dr (.dr .rf))))) (W.seq (W.seq (W.region ?_)))))
       refine WL.st (R.mv (.t L6)) rfl ?_
       refine WL.st (R.eqi (.t L0) .c) rfl ?_
       refine WL.nil (QS.next (W.del (.kp (.dr .rf)) ?_))
       refine W.cd (.t L0) (fun h7 => ?_) (fun h7 => ?_)
       ·
        refine W.del (.dr .rf) (W.seq (W.region ?_))
        refine WL.as .c U4 rfl ?_
        refine WL.nil (QS.next (W.ret (QS.thenr (QS.blkr (QS.thenr ?_)))))
        have hr : inlineS (⟨pa, br, op, tx⟩ : MachS) k = (false, (⟨pa, br, op, tx⟩ : MachS)) := by rw [inlineS, if_neg (by simpa using h0), if_neg (by omega), if_neg (by omega), if_pos (by omega), if_pos (show br.length = 0 by omega)]
        exact QS.fin (.inl rfl) rfl (.tmp L4 .nil) ((Ab, cb), (Ao, co)) (by rw [hr]; rfl) (.dr (.kp (by rw [hr]) (.kp (by rw [hr]) (.kp (by rw [hr]) .nil)))) (fun _ _ _ => trivial)
       ·
        refine W.del (.dr .rf) (W.skip (QS.next (W.region ?_)))
        refine WL.st (R.mv (.t L0)) rfl ?_
        refine WL.st (R.mv (.t L1)) rfl ?_
        refine WL.st (R.nc (.t L0)) rfl ?_
        refine WL.st (R.fa fo_100_1 (.t L0)) rfl ?_
        refine WL.st (R.ld sc_97 (.t L0) H1 rfl) rfl ?_
        refine WL.st (R.mv (.t (D1 L1))) rfl ?_
        refine WL.st (R.sub (.t L0) .c (wi (by omega) (by omega))) rfl ?_
        refine WL.know (p := br.length ≤ cb) (fun w hb => capRow (hb.has H2)) (fun hcb => ?_)
        refine WL.st (R.vq (v' := .slice Ab (br.length - 1) cb) (R.sll sl_97 (.t L2) .no (.yes (.t L0) (n := br.length - 1) (by omega)) (Nat.zero_le _) (by omega)) (by rw [cutA_zero]; rfl)) rfl ?_
        refine WL.cutRow C2 (m := br.length - 1) (by omega) ?_
        refine WL.st (R.nc (.t L7)) rfl ?_
        refine WL.st (R.fa fo_100_1 (.t L0)) rfl ?_
        refine WL.sto sz_97 (.t L0) (.t L2) rfl rfl rfl C1 (by repeat constructor) ?_
        refine WL.nil (QS.blkn (QS.next (W.del (.dr (.dr (.dr (.dr (.dr (.dr (.dr (.dr (.dr (.dr .rf)))))))))) (W.seq (W.region ?_)))))
        refine WL.as .c U4 rfl ?_
        refine WL.nil (QS.next (W.ret ?_))
        have hr : inlineS (⟨pa, br, op, tx⟩ : MachS) k = (true, ⟨pa, br.take (br.length - 1), op, tx⟩) := by rw [inlineS, if_neg (by simpa using h0), if_neg (by omega), if_neg (by omega), if_pos (by omega), if_neg (show ¬ br.length = 0 by omega)]
        exact QS.fin (.inl rfl) rfl (.tmp L4 .nil) ((Ab, cb), (Ao, co)) (by rw [hr]; rfl) (.dr (.kp (by rw [hr]; simp) (.kp (by rw [hr]; exact chunk_row (by simp) (flat_take bo1_length _ _)) (.kp (by rw [hr]) .nil)))) (fun _ _ _ => trivial)
      ·
       refine W.del (.dr .rf) (W.seq (W.region ?_))
       refine WL.st (R.eqi (.t L0) .c) rfl ?_
       refine WL.st (R.as (.t L0)) rfl ?_
       refine WL.nil (QS.next (W.del (.kp (.dr (.dr .rf))) ?_))
       refine W.cd (.t L0) (fun h8 => ?_) (fun h8 => ?_)
       ·
        refine W.del (.dr .rf) (W.seq (W.seq (W.region ?_)))
        refine WL.st (R.mv (.t L0)) rfl ?_
        refine WL.st (R.nc (.t L0)) rfl ?_
        refine WL.st (R.fa fo_100_1 (.t L0)) rfl ?_
        refine WL.st (R.ld sc_97 (.t L0) H1 rfl) rfl ?_
        refine WL.st (R.lenl sl_97 (.t L0)) rfl ?_
        refine WL.st (R.gtr (.t L0) .c) rfl ?_
        refine WL.nil (QS.next (W.del (.kp (.dr (.dr (.dr (.dr (.dr .rf)))))) ?_))
        refine W.cd (.t L0) (fun h9 => ?_) (fun h9 => ?_)
        ·
         refine W.del (.dr .rf) (W.seq (W.region ?_))
         refine WL.as .c U4 rfl ?_
         refine WL.nil (QS.next (W.ret (QS.thenr (QS.blkr (QS.thenr ?_)))))
         have hr : inlineS (⟨pa, br, op, tx⟩ : MachS) k = (false, (⟨pa, br, op, tx⟩ : MachS)) := by rw [inlineS, if_neg (by simpa using h0), if_neg (by omega), if_neg (by omega), if_neg (by omega), if_pos (by omega), if_pos (show 0 < br.length by omega)]
         exact QS.fin (.inl rfl) rfl (.tmp L4 .nil) ((Ab, cb), (Ao, co)) (by rw [hr]; rfl) (.dr (.kp (by rw [hr]) (.kp (by rw [hr]) (.kp (by rw [hr]) .nil)))) (fun _ _ _ => trivial)
        ·
         refine W.del (.dr .rf) (W.skip (QS.next (W.region ?_)))
         refine WL.st (R.mv (.t L0)) rfl ?_
         refine WL.st (R.nc (.t L0)) rfl ?_
         refine WL.st (R.fa fo_100_0 (.t L0)) rfl ?_
         refine WL.sto sz_4 (.t L0) .c rfl rfl rfl C1 (by repeat constructor) ?_
         refine WL.nil (QS.blkn (QS.next (W.del (.dr (.dr (.dr .rf))) (W.seq (W.region ?_)))))
         refine WL.as .c U4 rfl ?_
         refine WL.nil (QS.next (W.ret ?_))
         have hr : inlineS (⟨pa, br, op, tx⟩ : MachS) k = (true, ⟨false, br, op, tx⟩) := by rw [inlineS, if_neg (by simpa using h0), if_neg (by omega), if_neg (by omega), if_neg (by omega), if_pos (by omega), if_neg (show ¬ 0 < br.length by omega)]
         exact QS.fin (.inl rfl) rfl (.tmp L4 .nil) ((Ab, cb), (Ao, co)) (by rw [hr]; rfl) (.dr (.kp (by rw [hr]) (.kp (by rw [hr]) (.kp (by rw [hr]) .nil)))) (fun _ _ _ => trivial)
       ·
        refine W.del (.dr .rf) (W.skip (QS.blkn (QS.next (W.seq (W.region ?_)))))
        refine WL.as .c U4 rfl ?_
        refine WL.nil (QS.next (W.ret ?_))
        have hr : inlineS (⟨pa, br, op, tx⟩ : MachS) k = (true, (⟨pa, br, op, tx⟩ : MachS)) := by rw [inlineS, if_neg (by simpa using h0), if_neg (by omega), if_neg (by omega), if_neg (by omega), if_neg (by omega)]
        exact QS.fin (.inl rfl) rfl (.tmp L4 .nil) ((Ab, cb), (Ao, co)) (by rw [hr]; rfl) (.dr (.kp (by rw [hr]) (.kp (by rw [hr]) (.kp (by rw [hr]) .nil)))) (fun _ _ _ => trivial)

theorem topS_0 {op : List LevS} (h : op[op.length - 1]? = none) : topS op = (zeroL, false) := by simp [topS, h]
theorem topS_1 {op : List LevS} {l : LevS} (h : op[op.length - 1]? = some l) : topS op = (l, true) := by simp [topS, h]

set_option maxHeartbeats 1000000 in
theorem mach_block {g : Nat} {pa tx : Bool} {br : List Bool} {op : List LevS} {Ab Ao : Option Addr} {cb co : Nat} (hbl : br.length ≤ 1000000) (hol : op.length ≤ 1000000) {k n : Int} {tt : List UInt8} {wd : List Int} {Aw : Option Addr} {cw : Nat} (hwl : wd.length ≤ 1000000) (hk : ¬ (k ≤ 7 ∨ k = 9)) (hlv : ∀ l ∈ op, -1000000 ≤ l.items ∧ l.items ≤ 1000000 ∧ -1000000 ≤ l.rows ∧ l.rows ≤ 1000000 ∧ -1000000 ≤ l.cells ∧ l.cells ≤ 1000000) {C : Cx} (hb : Hb C C.w0 [blk g 102 [.bool pa, .slice Ab br.length cb, .slice Ao op.length co, .bool tx], .row (.slice Ab br.length cb) 4 1 br.length (flat bo1 br), .row (.slice Ao op.length co) 159 5 op.length (flat lv5 op)] (fun _ => True)) :
    Sp Tryd.prog 73 [.pointer (some ⟨g, 0, none⟩), .agg #[.int .i64 k, .int .i64 n, str tt, .slice Aw wd.length cw]] C (ι := (Option Addr × Nat) × Option Addr × Nat) (fun _ => .bool (blockS (⟨pa, br, op, tx⟩ : MachS) k wd.length).1) (fun x => [blk g 102 [.bool (blockS (⟨pa, br, op, tx⟩ : MachS) k wd.length).2.para, .slice x.1.1 (blockS (⟨pa, br, op, tx⟩ : MachS) k wd.length).2.braces.length x.1.2, .slice x.2.1 (blockS (⟨pa, br, op, tx⟩ : MachS) k wd.length).2.open_.length x.2.2, .bool (blockS (⟨pa, br, op, tx⟩ : MachS) k wd.length).2.text], .row (.slice x.1.1 (blockS (⟨pa, br, op, tx⟩ : MachS) k wd.length).2.braces.length x.1.2) 4 1 (blockS (⟨pa, br, op, tx⟩ : MachS) k wd.length).2.braces.length (flat bo1 (blockS (⟨pa, br, op, tx⟩ : MachS) k wd.length).2.braces), .row (.slice x.2.1 (blockS (⟨pa, br, op, tx⟩ : MachS) k wd.length).2.open_.length x.2.2) 159 5 (blockS (⟨pa, br, op, tx⟩ : MachS) k wd.length).2.open_.length (flat lv5 (blockS (⟨pa, br, op, tx⟩ : MachS) k wd.length).2.open_)]) (fun _ _ => True) := by
 refine Sp.enter (N := 188) (e := entryEnv [.pointer (some ⟨g, 0, none⟩), .agg #[.int .i64 k, .int .i64 n, str tt, .slice Aw wd.length cw]] 0 8) Tryd.func73 rfl rfl (Nat.le_of_ble_eq_true rfl) (entry_ok (Nat.le_of_ble_eq_true rfl) (Nat.le_of_ble_eq_true rfl)) (entry_nd _ _) hb ?_
 show W _ _ _ _ _ [(0, .pointer (some ⟨g, 0, none⟩)), (1, .agg #[.int .i64 k, .int .i64 n, str tt, .slice Aw wd.length cw]), (2, undef), (3, undef), (4, undef), (5, undef), (6, undef), (7, undef)] _ _
 refine W.seq (W.region ?_)
 refine WL.boxu (.t L1) rfl (fun _ => U3) rfl (fun g3 => ?_)
 refine WL.as .c U4 rfl ?_
 refine WL.nil (QS.next (W.seq (W.seq (W.region ?_))))
 refine WL.st (R.mv (.t L0)) rfl ?_
 refine WL.st (R.nc (.t L0)) rfl ?_
 refine WL.st (R.fa fo_100_0 (.t L0)) rfl ?_
 refine WL.st (R.ld sc_4 (.t L0) H1 rfl) rfl ?_
 refine WL.nil (QS.next (W.del (.kp (.dr (.dr (.dr .rf)))) ?_))
 refine W.cb (.t L0) (fun h0 => ?_) (fun h0 => ?_)
 ·
  refine W.del (.dr .rf) (W.seq (W.region ?_))
  refine WL.as .c U4 rfl ?_
  refine WL.nil (QS.next (W.ret (QS.thenr ?_)))
  have hr : blockS (⟨pa, br, op, tx⟩ : MachS) k wd.length = (false, (⟨pa, br, op, tx⟩ : MachS)) := by rw [blockS, if_pos (by simpa using h0)]
  exact QS.fin (.inl rfl) rfl (.tmp L4 .nil) ((Ab, cb), (Ao, co)) (by rw [hr]; rfl) (.dr (.kp (by rw [hr]) (.kp (by rw [hr]) (.kp (by rw [hr]) .nil)))) (fun _ _ _ => trivial)
 ·
  refine W.del (.dr .rf) (W.skip (QS.next (W.seq (W.region ?_))))
  refine WL.st (R.mv (.t L0)) rfl ?_
  refine WL.call gf_96 .f (.cons (.t L0) .nil) (.dr (.kp rfl (.kp rfl (.kp rfl .nil)))) (fun w hb => (mach_top hbl hol (hb.imp fun _ _ => trivial))) rfl (fun x14 => ?_)
  rcases hop : op[op.length - 1]? with _ | ⟨⟨_ | _, li, lw, lr, lc⟩⟩
  ·
   refine WL.rw L0 (v' := .tuple #[.agg #[.bool false, .int .i64 0, .int .i64 0, .int .i64 0, .int .i64 0], .bool false]) (by rw [topS_0 hop]; rfl) U0 ?_
   have htop_ : MachS.top (⟨pa, br, op, tx⟩ : MachS) = none := hop
   have hn0 : op.length = 0 := by have := List.getElem?_eq_none_iff.1 hop; omega
   refine WL.st (R.mv (.t L0)) rfl ?_
   refine WL.st (R.ex (.t L0) .here) rfl ?_
   refine WL.st (R.ex (.t L1) (.skip .here)) rfl ?_
   refine WL.allocu z_159 (fun _ => (E1 U0)) rfl (fun g5 => ?_)
   refine WL.sto sz_159 (.t (D1 L0)) (.t L1) rfl rfl rfl C0 (by repeat constructor) ?_
   refine WL.as (.t L0) (E1 U1) rfl ?_
   refine WL.nil (QS.next (W.del (.dr (.dr (.dr (.dr (.dr .rf))))) (W.seq (W.region ?_))))
   refine WL.st (R.mv (.t L0)) rfl ?_
   refine WL.st (R.nc (.t L0)) rfl ?_
   refine WL.st (R.fa fo_100_2 (.t L0)) rfl ?_
   refine WL.st (R.ld sc_98 (.t L0) H1 rfl) rfl ?_
   refine WL.st (R.lenl sl_98 (.t L0)) rfl ?_
   refine WL.st (R.sub (.t L0) .c (wi (by omega) (by omega))) rfl ?_
   refine WL.as (.t L0) (E1 U3) rfl ?_
   refine WL.nil (QS.next (W.del (.dr (.dr (.dr (.dr (.dr (.dr .rf)))))) (W.seq (W.seq (W.region ?_)))))
   refine WL.st (R.fa fo_95_0 (.t L3)) rfl ?_
   refine WL.st (R.ld sc_57 (.t L0) H4 rfl) rfl ?_
   refine WL.nil (QS.next (W.del (.kp (.dr .rf)) (W.block (W.seq (W.region ?_)))))
   refine WL.st (R.eqi (.t L0) .c) rfl ?_
   refine WL.st (R.as (.t L0)) rfl ?_
   refine WL.nil (QS.next (W.del (.kp (.dr .rf)) ?_))
   refine W.cd (.t L0) (fun h1 => ?_) (fun h1 => ?_)
   ·
    refine W.del (.dr (.dr .rf)) (W.seq (W.seq (W.region ?_)))
    refine WL.st (R.mv (.t L6)) rfl ?_
    refine WL.st (R.mv (.t L0)) rfl ?_
    refine WL.gn rfl L0 rfl ?_
    refine WL.gn rfl L1 rfl ?_
    refine WL.gn rfl L2 rfl ?_
    refine WL.gu rfl L0 rfl ?_
    refine WL.gu rfl L1 rfl ?_
    refine WL.gu rfl L2 rfl ?_
    refine WL.gu rfl L3 rfl ?_
    refine WL.gu rfl L0 rfl ?_
    refine WL.gu rfl L1 rfl ?_
    refine WL.gu rfl L2 rfl ?_
    refine WL.gu rfl L3 rfl ?_
    refine WL.gu rfl L4 rfl ?_
    refine WL.gu rfl L9 rfl ?_
    refine WL.gn rfl (D1 L3) rfl ?_
    refine WL.gn rfl (D1 L4) rfl ?_
    refine WL.gu rfl L0 rfl ?_
    refine WL.gu rfl L1 rfl ?_
    refine WL.gu rfl L2 rfl ?_
    refine WL.gu rfl L3 rfl ?_
    refine WL.gu rfl L0 rfl ?_
    refine WL.gu rfl L1 rfl ?_
    refine WL.gu rfl L2 rfl ?_
    refine WL.gu rfl L7 rfl ?_
    refine WL.gn rfl (D1 (D1 L3)) rfl ?_
    refine WL.st (R.pkf (.t (D1 (D1 L4))) .c) rfl ?_
    refine WL.nil (QS.next (W.del (.kp (.dr (.dr (.dr (.dr (.dr (.dr (.dr (.dr (.dr (.dr (.dr (.dr (.dr (.dr (.dr (.dr (.dr (.dr (.dr (.dr (.dr (.dr (.dr (.dr (.dr (.dr .rf))))))))))))))))))))))))))) (W.cf (.t L0) (W.del (.dr .rf) (W.skip (QS.next (W.seq (W.seq (W.region ?_)))))))))
    refine WL.st (R.mv (.t L6)) rfl ?_
    refine WL.nil (QS.next (W.cf (.t L0) (W.del (.dr .rf) (W.skip (QS.next (W.region ?_))))))
    refine WL.st (R.mv (.t L0)) rfl ?_
    refine WL.st (R.nc (.t L0)) rfl ?_
    refine WL.st (R.fa fo_100_0 (.t L0)) rfl ?_
    refine WL.sto sz_4 (.t L0) .c rfl rfl rfl C1 (by repeat constructor) ?_
    refine WL.nil (QS.blkn (QS.next (W.del (.dr (.dr (.dr .rf))) (W.seq (W.region ?_)))))
    refine WL.as .c U4 rfl ?_
    refine WL.nil (QS.next (W.ret ?_))
    have hr : blockS (⟨pa, br, op, tx⟩ : MachS) k wd.length = (true, ⟨true, br, op, tx⟩) := by unfold blockS; rw [if_neg (by simpa using h0), if_pos (by omega)]; rw [htop_]; (try dsimp only)
    exact QS.fin (.inl rfl) rfl (.tmp L4 .nil) ((Ab, cb), (Ao, co)) (by rw [hr]; rfl) (.dr (.kp (by rw [hr]) (.kp (by rw [hr]) (.kp (by rw [hr]) (.dr .nil))))) (fun _ _ _ => trivial)
   ·
    refine W.del (.dr .rf) (W.seq (W.region ?_))
    refine WL.st (R.eqi (.t L0) .c) rfl ?_
    refine WL.st (R.as (.t L0)) rfl ?_
    refine WL.nil (QS.next (W.del (.kp (.dr .rf)) ?_))
    refine W.cd (.t L0) (fun h4 => ?_) (fun h4 => ?_)
    ·
     refine W.del (.dr (.dr .rf)) (W.seq (W.seq (W.region ?_)))
     refine WL.st (R.mv (.t L6)) rfl ?_
     refine WL.st (R.mv (.t L0)) rfl ?_
     refine WL.gn rfl L0 rfl ?_
     refine WL.gn rfl L1 rfl ?_
     refine WL.gn rfl L2 rfl ?_
     refine WL.gu rfl L0 rfl ?_
     refine WL.gu rfl L1 rfl ?_
     refine WL.gu rfl L2 rfl ?_
     refine WL.gn rfl L6 rfl ?_
     refine WL.st (R.pkf (.t L7) .c) rfl ?_
     refine WL.st (R.mv (.t L0)) rfl ?_
     refine WL.gy rfl L0 (R.mv (.t (D1 L1))) rfl ?_
     refine WL.gy rfl L1 (R.nc (.t L0)) rfl ?_
     refine WL.gy rfl L2 (R.fa fo_100_2 (.t L0)) rfl ?_
     refine WL.gy rfl L3 (R.ld sc_98 (.t L0) H1 rfl) rfl ?_
     refine WL.gy rfl L4 (R.lenl sl_98 (.t L0)) rfl ?_
     refine WL.gy rfl L5 (R.geq (.t L0) .c) rfl ?_
     refine WL.st (R.pkf (.t L6) (.t L0)) rfl ?_
     refine WL.nil (QS.next (W.del (.kp (.dr (.dr (.dr (.dr (.dr (.dr (.dr (.dr (.dr (.dr (.dr (.dr (.dr (.dr (.dr (.dr (.dr .rf)))))))))))))))))) ?_))
     refine W.cd (.t L0) (fun h5 => ?_) (fun h5 => ?_)
     ·
      exfalso; omega
     ·
      refine W.del (.dr .rf) (W.skip (QS.next (W.region ?_)))
      refine WL.st (R.mv (.t L0)) rfl ?_
      refine WL.st (R.mv (.t L1)) rfl ?_
      refine WL.st (R.nc (.t L0)) rfl ?_
      refine WL.st (R.fa fo_100_2 (.t L0)) rfl ?_
      refine WL.st (R.ld sc_98 (.t L0) H1 rfl) rfl ?_
      refine WL.st (R.bld (z := [.bool false, .int .i64 0, .int .i64 0, .int .i64 0, .int .i64 0]) Tryd.underlying159 (by kernel_rfl) z_159 .nil) rfl ?_
      refine WL.bs1 sl_98 z_159 rfl (by decide) (by decide) (.t L0) rfl rfl rfl (fun g95 => ?_)
      refine WL.app' ap_98 (.t L2) (.t L0) (fun _ _ => C4) (fun w hb => Rd.of_blk (hb.has H0) rfl) rfl (by unfold maxLen; omega) (by omega) rfl (fun A96 c96 => ?_)
      refine WL.st (R.nc (.t L7)) rfl ?_
      refine WL.st (R.fa fo_100_2 (.t L0)) rfl ?_
      refine WL.sto sz_98 (.t L0) (.t L2) rfl rfl rfl C2 (by repeat constructor) ?_
      refine WL.nil (QS.blkn (QS.next (W.del (.dr (.dr (.dr (.dr (.dr (.dr (.dr (.dr (.dr (.dr .rf)))))))))) (W.seq (W.region ?_)))))
      refine WL.as .c U4 rfl ?_
      refine WL.nil (QS.next (W.ret ?_))
      have hr : blockS (⟨pa, br, op, tx⟩ : MachS) k wd.length = (true, ⟨pa, br, op ++ [⟨false, 0, 0, 0, 0⟩], tx⟩) := by unfold blockS; rw [if_neg (by simpa using h0), if_neg (by omega), if_pos (by omega)]; rw [htop_]; (try dsimp only)
      exact QS.fin (.inl rfl) rfl (.tmp L4 .nil) ((Ab, cb), (A96, c96)) (by rw [hr]; rfl) (.dr (.dr (.kp (by rw [hr]; simp) (.kp (by rw [hr]) (.kp (by rw [hr]; exact chunk_row (by simp) (by rw [← flat_snoc])) (.dr .nil)))))) (fun _ _ _ => trivial)
    ·
     refine W.del (.dr .rf) (W.seq (W.region ?_))
     refine WL.st (R.eqi (.t L0) .c) rfl ?_
     refine WL.st (R.as (.t L0)) rfl ?_
     refine WL.nil (QS.next (W.del (.kp (.dr .rf)) ?_))
     refine W.cd (.t L0) (fun h6 => ?_) (fun h6 => ?_)
     ·
      refine W.del (.dr (.dr .rf)) (W.seq (W.seq (W.region ?_)))
      refine WL.st (R.mv (.t L6)) rfl ?_
      refine WL.st (R.notb (.t L0)) rfl ?_
      refine WL.st (R.mv (.t L0)) rfl ?_
      refine WL.gn rfl L0 rfl ?_
      refine WL.gn rfl L1 rfl ?_
      refine WL.st (R.pkt (.t L2) .c) rfl ?_
      refine WL.nil (QS.next (W.del (.kp (.dr (.dr (.dr (.dr (.dr .rf)))))) (W.ct (.t L0) (W.del (.dr .rf) (W.seq (W.region ?_))))))
      refine WL.as .c U4 rfl ?_
      refine WL.nil (QS.next (W.ret (QS.thenr (QS.blkr (QS.thenr ?_)))))
      have hr : blockS (⟨pa, br, op, tx⟩ : MachS) k wd.length = (false, (⟨pa, br, op, tx⟩ : MachS)) := by unfold blockS; rw [if_neg (by simpa using h0), if_neg (by omega), if_neg (by omega), if_pos (by omega)]; rw [htop_]; (try dsimp only)
      exact QS.fin (.inl rfl) rfl (.tmp L4 .nil) ((Ab, cb), (Ao, co)) (by rw [hr]; rfl) (.dr (.kp (by rw [hr]) (.kp (by rw [hr]) (.kp (by rw [hr]) (.dr .nil))))) (fun _ _ _ => trivial)
     ·
      refine W.del (.dr .rf) (W.seq (W.region ?_))
      refine WL.st (R.eqi (.t L0) .c) rfl ?_
      refine WL.st (R.as (.t L0)) rfl ?_
      refine WL.nil (QS.next (W.del (.kp (.dr .rf)) ?_))
      refine W.cd (.t L0) (fun h8 => ?_) (fun h8 => ?_)
      ·
       refine W.del (.dr (.dr .rf)) (W.seq (W.seq (W.region ?_)))
       refine WL.st (R.mv (.t L6)) rfl ?_
       refine WL.nil (QS.next (W.cf (.t L0) (W.del (.dr .rf) (W.skip (QS.next ?_)))))
       refine W.any mixed (n := 14) rfl ?_
       refine WA.take (i := 0) rfl (by kernel_rfl) (by kernel_rfl) (by kernel_rfl) (fun _ _ _ => (R.mv (.t L0))) rfl ?_
       refine WA.take (i := 1) rfl (by kernel_rfl) (by kernel_rfl) (by kernel_rfl) (fun _ _ _ => (R.mv (.t L1))) rfl ?_
       refine WA.take (i := 2) rfl (by kernel_rfl) (by kernel_rfl) (by kernel_rfl) (fun _ _ _ => (R.nc (.t L0))) rfl ?_
       refine WA.take (i := 3) rfl (by kernel_rfl) (by kernel_rfl) (by kernel_rfl) (fun _ _ _ => (R.fa fo_100_2 (.t L0))) rfl ?_
       refine WA.take (i := 5) rfl (by kernel_rfl) (by kernel_rfl) (by kernel_rfl) (fun _ _ _ => (R.fa fo_95_3 (.t L7))) rfl ?_
       refine WA.more [4, 6] (by kernel_rfl) (List.cons_ne_nil _ _) ⟨⟨_, rfl, ?_⟩, ⟨_, rfl, ?_⟩, trivial⟩
       ·
        refine WL.st (R.ld sc_98 (.t L1) H1 rfl) rfl ?_
        refine WL.nil (WA.next ?_)
        refine WA.more [6] (by kernel_rfl) (List.cons_ne_nil _ _) ⟨⟨_, rfl, ?_⟩, trivial⟩
        refine WL.st (R.ld sc_37 (.t L1) H4 rfl) rfl ?_
        refine WL.nil (WA.next ?_)
        refine WA.take (i := 7) rfl (by kernel_rfl) (by kernel_rfl) (by kernel_rfl) (fun _ _ _ => (R.lenl sl_37 (.t L0))) rfl ?_
        refine WA.take (i := 8) rfl (by kernel_rfl) (by kernel_rfl) (by kernel_rfl) (fun _ _ _ => (R.bld (z := [.bool false, .int .i64 0, .int .i64 0, .int .i64 0, .int .i64 0]) Tryd.underlying159 (by kernel_rfl) z_159 (.cons fo_159_0 fz_159_0 rfl .c rfl (by repeat constructor) (.cons fo_159_2 fz_159_2 rfl (.t L0) rfl (by repeat constructor) .nil)))) rfl ?_
        refine WA.more [9] (by kernel_rfl) (List.cons_ne_nil _ _) ⟨⟨_, rfl, ?_⟩, trivial⟩
        refine WL.bs1 sl_98 z_159 rfl (by decide) (by decide) (.t L0) rfl rfl rfl (fun g130 => ?_)
        refine WL.nil (WA.next ?_)
        refine WA.more [10] (by kernel_rfl) (List.cons_ne_nil _ _) ⟨⟨_, rfl, ?_⟩, trivial⟩
        refine WL.app' ap_98 (.t L4) (.t L0) (fun _ _ => C4) (fun w hb => Rd.of_blk (hb.has H0) rfl) rfl (by unfold maxLen; omega) (by omega) rfl (fun A131 c131 => ?_)
        refine WL.nil (WA.next ?_)
        refine WA.take (i := 11) rfl (by kernel_rfl) (by kernel_rfl) (by kernel_rfl) (fun _ _ _ => (R.nc (.t (D1 L0)))) rfl ?_
        refine WA.take (i := 12) rfl (by kernel_rfl) (by kernel_rfl) (by kernel_rfl) (fun _ _ _ => (R.fa fo_100_2 (.t L0))) rfl ?_
        refine WA.more [13] (by kernel_rfl) (List.cons_ne_nil _ _) ⟨⟨_, rfl, ?_⟩, trivial⟩
        refine WL.sto sz_98 (.t L0) (.t L2) rfl rfl rfl C2 (by repeat constructor) ?_
        refine WL.nil (WA.next ?_)
        refine WA.done (by kernel_rfl) ?_
        refine QS.blkn (QS.next (W.del (.dr (.dr (.dr (.dr (.dr (.dr (.dr (.dr (.dr (.dr (.dr (.dr (.dr .rf))))))))))))) (W.seq (W.region ?_))))
        refine WL.as .c U4 rfl ?_
        refine WL.nil (QS.next (W.ret ?_))
        have hr : blockS (⟨pa, br, op, tx⟩ : MachS) k wd.length = (true, ⟨pa, br, op ++ [⟨true, 0, wd.length, 0, 0⟩], tx⟩) := by unfold blockS; rw [if_neg (by simpa using h0), if_neg (by omega), if_neg (by omega), if_neg (by omega), if_pos (by omega)]; rw [htop_]; (try dsimp only)
        exact QS.fin (.inl rfl) rfl (.tmp L4 .nil) ((Ab, cb), (A131, c131)) (by rw [hr]; rfl) (.dr (.dr (.kp (by rw [hr]; simp) (.kp (by rw [hr]) (.kp (by rw [hr]; exact chunk_row (by simp) (by rw [← flat_snoc])) (.dr .nil)))))) (fun _ _ _ => trivial)
       ·
        refine WL.st (R.ld sc_37 (.t L0) H4 rfl) rfl ?_
        refine WL.nil (WA.next ?_)
        refine WA.take (i := 7) rfl (by kernel_rfl) (by kernel_rfl) (by kernel_rfl) (fun _ _ _ => (R.lenl sl_37 (.t L0))) rfl ?_
        refine WA.take (i := 8) rfl (by kernel_rfl) (by kernel_rfl) (by kernel_rfl) (fun _ _ _ => (R.bld (z := [.bool false, .int .i64 0, .int .i64 0, .int .i64 0, .int .i64 0]) Tryd.underlying159 (by kernel_rfl) z_159 (.cons fo_159_0 fz_159_0 rfl .c rfl (by repeat constructor) (.cons fo_159_2 fz_159_2 rfl (.t L0) rfl (by repeat constructor) .nil)))) rfl ?_
        refine WA.more [4, 9] (by kernel_rfl) (List.cons_ne_nil _ _) ⟨⟨_, rfl, ?_⟩, ⟨_, rfl, ?_⟩, trivial⟩
        ·
         refine WL.st (R.ld sc_98 (.t L4) H1 rfl) rfl ?_
         refine WL.nil (WA.next ?_)
         refine WA.more [9] (by kernel_rfl) (List.cons_ne_nil _ _) ⟨⟨_, rfl, ?_⟩, trivial⟩
         refine WL.bs1 sl_98 z_159 rfl (by decide) (by decide) (.t L1) rfl rfl rfl (fun g130 => ?_)
         refine WL.nil (WA.next ?_)
         refine WA.more [10] (by kernel_rfl) (List.cons_ne_nil _ _) ⟨⟨_, rfl, ?_⟩, trivial⟩
         refine WL.app' ap_98 (.t L1) (.t L0) (fun _ _ => C4) (fun w hb => Rd.of_blk (hb.has H0) rfl) rfl (by unfold maxLen; omega) (by omega) rfl (fun A131 c131 => ?_)
         refine WL.nil (WA.next ?_)
         refine WA.take (i := 11) rfl (by kernel_rfl) (by kernel_rfl) (by kernel_rfl) (fun _ _ _ => (R.nc (.t (D1 L0)))) rfl ?_
         refine WA.take (i := 12) rfl (by kernel_rfl) (by kernel_rfl) (by kernel_rfl) (fun _ _ _ => (R.fa fo_100_2 (.t L0))) rfl ?_
         refine WA.more [13] (by kernel_rfl) (List.cons_ne_nil _ _) ⟨⟨_, rfl, ?_⟩, trivial⟩
         refine WL.sto sz_98 (.t L0) (.t L2) rfl rfl rfl C2 (by repeat constructor) ?_
         refine WL.nil (WA.next ?_)
         refine WA.done (by kernel_rfl) ?_
         refine QS.blkn (QS.next (W.del (.dr (.dr (.dr (.dr (.dr (.dr (.dr (.dr (.dr (.dr (.dr (.dr (.dr .rf))))))))))))) (W.seq (W.region ?_))))
         refine WL.as .c U4 rfl ?_
         refine WL.nil (QS.next (W.ret ?_))
         have hr : blockS (⟨pa, br, op, tx⟩ : MachS) k wd.length = (true, ⟨pa, br, op ++ [⟨true, 0, wd.length, 0, 0⟩], tx⟩) := by unfold blockS; rw [if_neg (by simpa using h0), if_neg (by omega), if_neg (by omega), if_neg (by omega), if_pos (by omega)]; rw [htop_]; (try dsimp only)
         exact QS.fin (.inl rfl) rfl (.tmp L4 .nil) ((Ab, cb), (A131, c131)) (by rw [hr]; rfl) (.dr (.dr (.kp (by rw [hr]; simp) (.kp (by rw [hr]) (.kp (by rw [hr]; exact chunk_row (by simp) (by rw [← flat_snoc])) (.dr .nil)))))) (fun _ _ _ => trivial)
        ·
         refine WL.bs1 sl_98 z_159 rfl (by decide) (by decide) (.t L0) rfl rfl rfl (fun g130 => ?_)
         refine WL.nil (WA.next ?_)
         refine WA.more [4] (by kernel_rfl) (List.cons_ne_nil _ _) ⟨⟨_, rfl, ?_⟩, trivial⟩
         refine WL.st (R.ld sc_98 (.t L5) H2 rfl) rfl ?_
         refine WL.nil (WA.next ?_)
         refine WA.more [10] (by kernel_rfl) (List.cons_ne_nil _ _) ⟨⟨_, rfl, ?_⟩, trivial⟩
         refine WL.app' ap_98 (.t L0) (.t L1) (fun _ _ => C4) (fun w hb => Rd.of_blk (hb.has H0) rfl) rfl (by unfold maxLen; omega) (by omega) rfl (fun A131 c131 => ?_)
         refine WL.nil (WA.next ?_)
         refine WA.take (i := 11) rfl (by kernel_rfl) (by kernel_rfl) (by kernel_rfl) (fun _ _ _ => (R.nc (.t (D1 L0)))) rfl ?_
         refine WA.take (i := 12) rfl (by kernel_rfl) (by kernel_rfl) (by kernel_rfl) (fun _ _ _ => (R.fa fo_100_2 (.t L0))) rfl ?_
         refine WA.more [13] (by kernel_rfl) (List.cons_ne_nil _ _) ⟨⟨_, rfl, ?_⟩, trivial⟩
         refine WL.sto sz_98 (.t L0) (.t L2) rfl rfl rfl C2 (by repeat constructor) ?_
         refine WL.nil (WA.next ?_)
         refine WA.done (by kernel_rfl) ?_
         refine QS.blkn (QS.next (W.del (.dr (.dr (.dr (.dr (.dr (.dr (.dr (.dr (.dr (.dr (.dr (.dr (.dr .rf))))))))))))) (W.seq (W.region ?_))))
         refine WL.as .c U4 rfl ?_
         refine WL.nil (QS.next (W.ret ?_))
         have hr : blockS (⟨pa, br, op, tx⟩ : MachS) k wd.length = (true, ⟨pa, br, op ++ [⟨true, 0, wd.length, 0, 0⟩], tx⟩) := by unfold blockS; rw [if_neg (by simpa using h0), if_neg (by omega), if_neg (by omega), if_neg (by omega), if_pos (by omega)]; rw [htop_]; (try dsimp only)
         exact QS.fin (.inl rfl) rfl (.tmp L4 .nil) ((Ab, cb), (A131, c131)) (by rw [hr]; rfl) (.dr (.dr (.kp (by rw [hr]; simp) (.kp (by rw [hr]) (.kp (by rw [hr]; exact chunk_row (by simp) (by rw [← flat_snoc])) (.dr .nil)))))) (fun _ _ _ => trivial)
      ·
       refine W.del (.dr .rf) (W.seq (W.region ?_))
       refine WL.st (R.eqi (.t L0) .c) rfl ?_
       refine WL.st (R.as (.t L0)) rfl ?_
       refine WL.nil (QS.next (W.del (.kp (.dr .rf)) ?_))
       refine W.cd (.t L0) (fun h10 => ?_) (fun h10 => ?_)
       ·
        refine W.del (.dr (.dr .rf)) (W.seq (W.seq (W.region ?_)))
        refine WL.st (R.mv (.t L6)) rfl ?_
        refine WL.st (R.notb (.t L0)) rfl ?_
        refine WL.st (R.mv (.t L0)) rfl ?_
        refine WL.gn rfl L0 rfl ?_
        refine WL.gn rfl L1 rfl ?_
        refine WL.gn rfl L2 rfl ?_
        refine WL.st (R.pkt (.t L3) .c) rfl ?_
        refine WL.st (R.mv (.t L0)) rfl ?_
        refine WL.gn rfl L0 rfl ?_
        refine WL.gn rfl L1 rfl ?_
        refine WL.gn rfl L2 rfl ?_
        refine WL.st (R.pkt (.t L3) .c) rfl ?_
        refine WL.nil (QS.next (W.del (.kp (.dr (.dr (.dr (.dr (.dr (.dr (.dr (.dr (.dr (.dr (.dr .rf)))))))))))) (W.ct (.t L0) (W.del (.dr .rf) (W.seq (W.region ?_))))))
        refine WL.as .c U4 rfl ?_
        refine WL.nil (QS.next (W.ret (QS.thenr (QS.blkr (QS.thenr ?_)))))
        have hr : blockS (⟨pa, br, op, tx⟩ : MachS) k wd.length = (false, (⟨pa, br, op, tx⟩ : MachS)) := by unfold blockS; rw [if_neg (by simpa using h0), if_neg (by omega), if_neg (by omega), if_neg (by omega), if_neg (by omega), if_pos (by omega)]; rw [htop_]; (try dsimp only)
        exact QS.fin (.inl rfl) rfl (.tmp L4 .nil) ((Ab, cb), (Ao, co)) (by rw [hr]; rfl) (.dr (.kp (by rw [hr]) (.kp (by rw [hr]) (.kp (by rw [hr]) (.dr .nil))))) (fun _ _ _ => trivial)
       ·
        refine W.del (.dr .rf) (W.seq (W.region ?_))
        refine WL.st (R.eqi (.t L0) .c) rfl ?_
        refine WL.st (R.as (.t L0)) rfl ?_
        refine WL.nil (QS.next (W.del (.kp (.dr (.dr .rf))) ?_))
        refine W.cd (.t L0) (fun h12 => ?_) (fun h12 => ?_)
        ·
         refine W.del (.dr .rf) (W.seq (W.seq (W.region ?_)))
         refine WL.st (R.mv (.t L6)) rfl ?_
         refine WL.st (R.notb (.t L0)) rfl ?_
         refine WL.st (R.mv (.t L0)) rfl ?_
         refine WL.gn rfl L0 rfl ?_
         refine WL.gn rfl L1 rfl ?_
         refine WL.gn rfl L2 rfl ?_
         refine WL.gu rfl L0 rfl ?_
         refine WL.gu rfl L1 rfl ?_
         refine WL.gu rfl L2 rfl ?_
         refine WL.gn rfl L6 rfl ?_
         refine WL.st (R.pkt (.t L7) .c) rfl ?_
         refine WL.nil (QS.next (W.del (.kp (.dr (.dr (.dr (.dr (.dr (.dr (.dr (.dr (.dr (.dr .rf))))))))))) (W.ct (.t L0) (W.del (.dr .rf) (W.seq (W.region ?_))))))
         refine WL.as .c U4 rfl ?_
         refine WL.nil (QS.next (W.ret (QS.thenr (QS.blkr (QS.thenr ?_)))))
         have hr : blockS (⟨pa, br, op, tx⟩ : MachS) k wd.length = (false, (⟨pa, br, op, tx⟩ : MachS)) := by unfold blockS; rw [if_neg (by simpa using h0), if_neg (by omega), if_neg (by omega), if_neg (by omega), if_neg (by omega), if_neg (by omega), if_pos (by omega)]; rw [htop_]; (try dsimp only)
         exact QS.fin (.inl rfl) rfl (.tmp L4 .nil) ((Ab, cb), (Ao, co)) (by rw [hr]; rfl) (.dr (.kp (by rw [hr]) (.kp (by rw [hr]) (.kp (by rw [hr]) (.dr .nil))))) (fun _ _ _ => trivial)
        ·
         refine W.del (.dr .rf) (W.skip (QS.blkn (QS.next (W.seq (W.region ?_)))))
         refine WL.as .c U4 rfl ?_
         refine WL.nil (QS.next (W.ret ?_))
         have hr : blockS (⟨pa, br, op, tx⟩ : MachS) k wd.length = (true, (⟨pa, br, op, tx⟩ : MachS)) := by rw [blockS, if_neg (by simpa using h0), if_neg (by omega), if_neg (by omega), if_neg (by omega), if_neg (by omega), if_neg (by omega), if_neg (by omega)]
         exact QS.fin (.inl rfl) rfl (.tmp L4 .nil) ((Ab, cb), (Ao, co)) (by rw [hr]; rfl) (.dr (.kp (by rw [hr]) (.kp (by rw [hr]) (.kp (by rw [hr]) (.dr .nil))))) (fun _ _ _ => trivial)
  ·
   refine WL.rw L0 (v' := .tuple #[.agg #[.bool false, .int .i64 li, .int .i64 lw, .int .i64 lr, .int .i64 lc], .bool true]) (by rw [topS_1 hop]) U0 ?_
   have htop_ : MachS.top (⟨pa, br, op, tx⟩ : MachS) = some ⟨false, li, lw, lr, lc⟩ := hop
   have hn1 : 1 ≤ op.length := by have := (List.getElem?_eq_some_iff.1 hop).1; omega
   have hlb : -1000000 ≤ li ∧ li ≤ 1000000 ∧ -1000000 ≤ lr ∧ lr ≤ 1000000 ∧ -1000000 ≤ lc ∧ lc ≤ 1000000 := hlv _ (List.mem_of_getElem? hop)
   refine WL.st (R.mv (.t L0)) rfl ?_
   refine WL.st (R.ex (.t L0) .here) rfl ?_
   refine WL.st (R.ex (.t L1) (.skip .here)) rfl ?_
   refine WL.allocu z_159 (fun _ => (E1 U0)) rfl (fun g5 => ?_)
   refine WL.sto sz_159 (.t (D1 L0)) (.t L1) rfl rfl rfl C0 (by repeat constructor) ?_
   refine WL.as (.t L0) (E1 U1) rfl ?_
   refine WL.nil (QS.next (W.del (.dr (.dr (.dr (.dr (.dr .rf))))) (W.seq (W.region ?_))))
   refine WL.st (R.mv (.t L0)) rfl ?_
   refine WL.st (R.nc (.t L0)) rfl ?_
   refine WL.st (R.fa fo_100_2 (.t L0)) rfl ?_
   refine WL.st (R.ld sc_98 (.t L0) H1 rfl) rfl ?_
   refine WL.st (R.lenl sl_98 (.t L0)) rfl ?_
   refine WL.st (R.sub (.t L0) .c (wi (by omega) (by omega))) rfl ?_
   refine WL.as (.t L0) (E1 U3) rfl ?_
   refine WL.nil (QS.next (W.del (.dr (.dr (.dr (.dr (.dr (.dr .rf)))))) (W.seq (W.seq (W.region ?_)))))
   refine WL.st (R.fa fo_95_0 (.t L3)) rfl ?_
   refine WL.st (R.ld sc_57 (.t L0) H4 rfl) rfl ?_
   refine WL.nil (QS.next (W.del (.kp (.dr .rf)) (W.block (W.seq (W.region ?_)))))
   refine WL.st (R.eqi (.t L0) .c) rfl ?_
   refine WL.st (R.as (.t L0)) rfl ?_
   refine WL.nil (QS.next (W.del (.kp (.dr .rf)) ?_))
   refine W.cd (.t L0) (fun h1 => ?_) (fun h1 => ?_)
   ·
    refine W.del (.dr (.dr .rf)) (W.seq (W.seq (W.region ?_)))
    refine WL.st (R.mv (.t L6)) rfl ?_
    refine WL.st (R.mv (.t L0)) rfl ?_
    refine WL.gy rfl L0 (R.fa fo_159_0 (.t L7)) rfl ?_
    refine WL.gy rfl L1 (R.ld sc_4 (.t L0) H0 rfl) rfl ?_
    refine WL.gy rfl L2 (R.mv (.t L0)) rfl ?_
    refine WL.gn rfl L0 rfl ?_
    refine WL.gn rfl L1 rfl ?_
    refine WL.gn rfl L2 rfl ?_
    refine WL.gn rfl L3 rfl ?_
    refine WL.gu rfl L0 rfl ?_
    refine WL.gu rfl L1 rfl ?_
    refine WL.gu rfl L2 rfl ?_
    refine WL.gu rfl L3 rfl ?_
    refine WL.gu rfl L4 rfl ?_
    refine WL.gn rfl L9 rfl ?_
    refine WL.gy rfl (D1 L3) (R.pkf (.t (D1 L0)) .c) rfl ?_
    refine WL.gy rfl (D1 L4) (R.mv (.t L0)) rfl ?_
    refine WL.gy rfl L0 (R.fa fo_159_0 (.t (D1 (D1 L2)))) rfl ?_
    refine WL.gy rfl L1 (R.ld sc_4 (.t L0) H0 rfl) rfl ?_
    refine WL.gy rfl L2 (R.notb (.t L0)) rfl ?_
    refine WL.gy rfl L3 (R.mv (.t L0)) rfl ?_
    refine WL.gy rfl L0 (R.fa fo_159_1 (.t (D1 (D1 L6)))) rfl ?_
    refine WL.gy rfl L1 (R.ld sc_3 (.t L0) H0 rfl) rfl ?_
    refine WL.gy rfl L2 (R.eqi (.t L0) .c) rfl ?_
    refine WL.gy rfl L7 (R.pkt (.t L3) (.t L0)) rfl ?_
    refine WL.gy rfl (D1 (D1 L3)) (R.pkf (.t L8) (.t L0)) rfl ?_
    refine WL.st (R.pkt (.t (D1 (D1 L4))) (.t L0)) rfl ?_
    refine WL.nil (QS.next (W.del (.kp (.dr (.dr (.dr (.dr (.dr (.dr (.dr (.dr (.dr (.dr (.dr (.dr (.dr (.dr (.dr (.dr (.dr (.dr (.dr (.dr (.dr (.dr (.dr (.dr (.dr (.dr .rf))))))))))))))))))))))))))) ?_))
    refine W.cd (.t L0) (fun h2 => ?_) (fun h2 => ?_)
    ·
     refine W.del (.dr .rf) (W.seq (W.region ?_))
     refine WL.as .c U4 rfl ?_
     refine WL.nil (QS.next (W.ret (QS.thenr (QS.blkr (QS.thenr ?_)))))
     have hr : blockS (⟨pa, br, op, tx⟩ : MachS) k wd.length = (false, (⟨pa, br, op, tx⟩ : MachS)) := by unfold blockS; rw [if_neg (by simpa using h0), if_pos (by omega)]; rw [htop_]; (try dsimp only); rw [if_pos (by first | (simp; done) | (simp; omega) | omega)]
     exact QS.fin (.inl rfl) rfl (.tmp L4 .nil) ((Ab, cb), (Ao, co)) (by rw [hr]; rfl) (.dr (.kp (by rw [hr]) (.kp (by rw [hr]) (.kp (by rw [hr]) (.dr .nil))))) (fun _ _ _ => trivial)
    ·
     refine W.del (.dr .rf) (W.skip (QS.next (W.seq (W.seq (W.region ?_)))))
     refine WL.st (R.mv (.t L6)) rfl ?_
     refine WL.nil (QS.next (W.ct (.t L0) (W.del (.dr .rf) (W.region ?_))))
     refine WL.st (R.mv (.t L0)) rfl ?_
     refine WL.st (R.nc (.t L0)) rfl ?_
     refine WL.st (R.fa fo_100_2 (.t L0)) rfl ?_
     refine WL.st (R.ld sc_98 (.t L0) H1 rfl) rfl ?_
     refine WL.st (R.mv (.t (D1 L1))) rfl ?_
     obtain ⟨x60, hx60⟩ : ∃ x, (op)[op.length - 1]? = some x := ⟨_, List.getElem?_eq_getElem (by omega)⟩
     have hxe60 : (⟨false, li, lw, lr, lc⟩ : LevS) = x60 := by rw [hop] at hx60; injection hx60
     subst hxe60
     have hlq60 : -1000000 ≤ (⟨false, li, lw, lr, lc⟩ : LevS).items ∧ (⟨false, li, lw, lr, lc⟩ : LevS).items ≤ 1000000 ∧ -1000000 ≤ (⟨false, li, lw, lr, lc⟩ : LevS).rows ∧ (⟨false, li, lw, lr, lc⟩ : LevS).rows ≤ 1000000 ∧ -1000000 ≤ (⟨false, li, lw, lr, lc⟩ : LevS).cells ∧ (⟨false, li, lw, lr, lc⟩ : LevS).cells ≤ 1000000 := hlb
     refine WL.st (R.ixF sl_98 (.t L1) (by first | rfl | simp) (.t L0) (l := op) (j := op.length - 1) (by omega) (List.getElem?_eq_some_iff.1 hx60).1 (by decide) (fun w hb => (RdF.mkN lv5_length (by first | rfl | simp) (hb.rowRd H3)))) rfl ?_
     refine WL.st (R.fapk fo_159_4 (.t L0) (j := (op.length - 1) * 5) (k := 0) (k2 := 4) rfl (fun w hb => RdF.ne ((RdF.mkN lv5_length (by first | rfl | simp) (hb.rowRd H3))) (List.getElem?_eq_some_iff.1 hx60).1 (by decide))) rfl ?_
     refine WL.st (R.ldp sc_3 (.t L0) (fun w hb => RdF.cell (k := 4) ((RdF.mkN lv5_length (by first | rfl | simp) (hb.rowRd H3))) hx60 rfl)) rfl ?_
     refine WL.st (R.add (.t L0) .c (wi (by omega) (by omega))) rfl ?_
     obtain ⟨x64, hx64⟩ : ∃ x, (op)[op.length - 1]? = some x := ⟨_, List.getElem?_eq_getElem (by omega)⟩
     have hxe64 : (⟨false, li, lw, lr, lc⟩ : LevS) = x64 := by rw [hop] at hx64; injection hx64
     subst hxe64
     have hlq64 : -1000000 ≤ (⟨false, li, lw, lr, lc⟩ : LevS).items ∧ (⟨false, li, lw, lr, lc⟩ : LevS).items ≤ 1000000 ∧ -1000000 ≤ (⟨false, li, lw, lr, lc⟩ : LevS).rows ∧ (⟨false, li, lw, lr, lc⟩ : LevS).rows ≤ 1000000 ∧ -1000000 ≤ (⟨false, li, lw, lr, lc⟩ : LevS).cells ∧ (⟨false, li, lw, lr, lc⟩ : LevS).cells ≤ 1000000 := hlb
     refine WL.st (R.ixF sl_98 (.t L5) (by first | rfl | simp) (.t L4) (l := op) (j := op.length - 1) (by omega) (List.getElem?_eq_some_iff.1 hx64).1 (by decide) (fun w hb => (RdF.mkN lv5_length (by first | rfl | simp) (hb.rowRd H3)))) rfl ?_
     refine WL.st (R.fapk fo_159_4 (.t L0) (j := (op.length - 1) * 5) (k := 0) (k2 := 4) rfl (fun w hb => RdF.ne ((RdF.mkN lv5_length (by first | rfl | simp) (hb.rowRd H3))) (List.getElem?_eq_some_iff.1 hx64).1 (by decide))) rfl ?_
     refine WL.stoR (j := (op.length - 1) * 5 + 4) sz_3 (.t L0) (.t L2) rfl rfl rfl C3 (flat_put0 (f := lv5) (l := op) (y := ⟨false, li, lw, lr, lc + 1⟩) lv5_length hx64 (by repeat constructor)) (by have h9 := (List.getElem?_eq_some_iff.1 hx64).1; rw [flat_length lv5_length]; have h8 := Nat.mul_le_mul_right 5 (Nat.succ_le_of_lt h9); rw [Nat.succ_mul] at h8; omega) ?_
     refine WL.nil (QS.next (W.del (.dr (.dr (.dr (.dr (.dr (.dr (.dr (.dr (.dr (.dr (.dr .rf))))))))))) (W.region ?_)))
     refine WL.st (R.mv (.t L0)) rfl ?_
     refine WL.st (R.nc (.t L0)) rfl ?_
     refine WL.st (R.fa fo_100_0 (.t L0)) rfl ?_
     refine WL.sto sz_4 (.t L0) .c rfl rfl rfl C1 (by repeat constructor) ?_
     refine WL.nil (QS.blkn (QS.next (W.del (.dr (.dr (.dr .rf))) (W.seq (W.region ?_)))))
     refine WL.as .c U4 rfl ?_
     refine WL.nil (QS.next (W.ret ?_))
     have hr : blockS (⟨pa, br, op, tx⟩ : MachS) k wd.length = (true, ⟨true, br, op.set (op.length - 1) ⟨false, li, lw, lr, lc + 1⟩, tx⟩) := by unfold blockS; rw [if_neg (by simpa using h0), if_pos (by omega)]; rw [htop_]; (try dsimp only); rw [if_neg (by first | (simp; done) | (simp; omega) | omega)]
     exact QS.fin (.inl rfl) rfl (.tmp L4 .nil) ((Ab, cb), (Ao, co)) (by rw [hr]; rfl) (.dr (.kp (by rw [hr]; simp) (.kp (by rw [hr]) (.kp (by rw [hr]; exact chunk_row (by simp) rfl) (.dr .nil))))) (fun _ _ _ => trivial)
   ·
    refine W.del (.dr .rf) (W.seq (W.region ?_))
    refine WL.st (R.eqi (.t L0) .c) rfl ?_
    refine WL.st (R.as (.t L0)) rfl ?_
    refine WL.nil (QS.next (W.del (.kp (.dr .rf)) ?_))
    refine W.cd (.t L0) (fun h4 => ?_) (fun h4 => ?_)
    ·
     refine W.del (.dr (.dr .rf)) (W.seq (W.seq (W.region ?_)))
     refine WL.st (R.mv (.t L6)) rfl ?_
     refine WL.st (R.mv (.t L0)) rfl ?_
     refine WL.gy rfl L0 (R.fa fo_159_0 (.t L7)) rfl ?_
     refine WL.gy rfl L1 (R.ld sc_4 (.t L0) H0 rfl) rfl ?_
     refine WL.gy rfl L2 (R.mv (.t L0)) rfl ?_
     refine WL.gy rfl L0 (R.fa fo_159_1 (.t (D1 L0))) rfl ?_
     refine WL.gy rfl L1 (R.ld sc_3 (.t L0) H0 rfl) rfl ?_
     refine WL.gy rfl L2 (R.eqi (.t L0) .c) rfl ?_
     refine WL.gy rfl L6 (R.pkf (.t L3) (.t L0)) rfl ?_
     refine WL.st (R.pkt (.t L7) (.t L0)) rfl ?_
     refine WL.st (R.mv (.t L0)) rfl ?_
     refine WL.cd L0 U0 U0 (fun hg81 => ?_) (fun hg81 => ?_)
     ·
      refine WL.gn rfl L0 rfl ?_
      refine WL.gn rfl L1 rfl ?_
      refine WL.gn rfl L2 rfl ?_
      refine WL.gn rfl L3 rfl ?_
      refine WL.gn rfl L4 rfl ?_
      refine WL.gn rfl L5 rfl ?_
      refine WL.st (R.pkt (.t L6) .c) rfl ?_
      refine WL.nil (QS.next (W.del (.kp (.dr (.dr (.dr (.dr (.dr (.dr (.dr (.dr (.dr (.dr (.dr (.dr (.dr (.dr (.dr (.dr (.dr .rf)))))))))))))))))) (W.ct (.t L0) (W.del (.dr .rf) (W.seq (W.region ?_))))))
      refine WL.as .c U4 rfl ?_
      refine WL.nil (QS.next (W.ret (QS.thenr (QS.blkr (QS.thenr ?_)))))
      have hr : blockS (⟨pa, br, op, tx⟩ : MachS) k wd.length = (false, (⟨pa, br, op, tx⟩ : MachS)) := by unfold blockS; rw [if_neg (by simpa using h0), if_neg (by omega), if_pos (by omega)]; rw [htop_]; (try dsimp only); rw [if_pos (by first | (left; right; omega) | (left; right; dsimp only; omega) | (right; omega) | (right; dsimp only; omega))]
      exact QS.fin (.inl rfl) rfl (.tmp L4 .nil) ((Ab, cb), (Ao, co)) (by rw [hr]; rfl) (.dr (.kp (by rw [hr]) (.kp (by rw [hr]) (.kp (by rw [hr]) (.dr .nil))))) (fun _ _ _ => trivial)
     ·
      refine WL.gy rfl L0 (R.mv (.t (D1 L1))) rfl ?_
      refine WL.gy rfl L1 (R.nc (.t L0)) rfl ?_
      refine WL.gy rfl L2 (R.fa fo_100_2 (.t L0)) rfl ?_
      refine WL.gy rfl L3 (R.ld sc_98 (.t L0) H1 rfl) rfl ?_
      refine WL.gy rfl L4 (R.lenl sl_98 (.t L0)) rfl ?_
      refine WL.gy rfl L5 (R.geq (.t L0) .c) rfl ?_
      refine WL.st (R.pkf (.t L6) (.t L0)) rfl ?_
      refine WL.nil (QS.next (W.del (.kp (.dr (.dr (.dr (.dr (.dr (.dr (.dr (.dr (.dr (.dr (.dr (.dr (.dr (.dr (.dr (.dr (.dr .rf)))))))))))))))))) ?_))
      refine W.cd (.t L0) (fun h5 => ?_) (fun h5 => ?_)
      ·
       refine W.del (.dr .rf) (W.seq (W.region ?_))
       refine WL.as .c U4 rfl ?_
       refine WL.nil (QS.next (W.ret (QS.thenr (QS.blkr (QS.thenr ?_)))))
       have hr : blockS (⟨pa, br, op, tx⟩ : MachS) k wd.length = (false, (⟨pa, br, op, tx⟩ : MachS)) := by unfold blockS; rw [if_neg (by simpa using h0), if_neg (by omega), if_pos (by omega)]; rw [htop_]; (try dsimp only); rw [if_pos (by first | (left; right; omega) | (left; right; dsimp only; omega) | (right; omega) | (right; dsimp only; omega))]
       exact QS.fin (.inl rfl) rfl (.tmp L4 .nil) ((Ab, cb), (Ao, co)) (by rw [hr]; rfl) (.dr (.kp (by rw [hr]) (.kp (by rw [hr]) (.kp (by rw [hr]) (.dr .nil))))) (fun _ _ _ => trivial)
      ·
       refine W.del (.dr .rf) (W.skip (QS.next (W.region ?_)))
       refine WL.st (R.mv (.t L0)) rfl ?_
       refine WL.st (R.mv (.t L1)) rfl ?_
       refine WL.st (R.nc (.t L0)) rfl ?_
       refine WL.st (R.fa fo_100_2 (.t L0)) rfl ?_
       refine WL.st (R.ld sc_98 (.t L0) H1 rfl) rfl ?_
       refine WL.st (R.bld (z := [.bool false, .int .i64 0, .int .i64 0, .int .i64 0, .int .i64 0]) Tryd.underlying159 (by kernel_rfl) z_159 .nil) rfl ?_
       refine WL.bs1 sl_98 z_159 rfl (by decide) (by decide) (.t L0) rfl rfl rfl (fun g95 => ?_)
       refine WL.app' ap_98 (.t L2) (.t L0) (fun _ _ => C4) (fun w hb => Rd.of_blk (hb.has H0) rfl) rfl (by unfold maxLen; omega) (by omega) rfl (fun A96 c96 => ?_)
       refine WL.st (R.nc (.t L7)) rfl ?_
       refine WL.st (R.fa fo_100_2 (.t L0)) rfl ?_
       refine WL.sto sz_98 (.t L0) (.t L2) rfl rfl rfl C2 (by repeat constructor) ?_
       refine WL.nil (QS.blkn (QS.next (W.del (.dr (.dr (.dr (.dr (.dr (.dr (.dr (.dr (.dr (.dr .rf)))))))))) (W.seq (W.region ?_)))))
       refine WL.as .c U4 rfl ?_
       refine WL.nil (QS.next (W.ret ?_))
       have hr : blockS (⟨pa, br, op, tx⟩ : MachS) k wd.length = (true, ⟨pa, br, op ++ [⟨false, 0, 0, 0, 0⟩], tx⟩) := by unfold blockS; rw [if_neg (by simpa using h0), if_neg (by omega), if_pos (by omega)]; rw [htop_]; (try dsimp only); rw [if_neg (by first | (simp; done) | (simp; omega) | omega)]
       exact QS.fin (.inl rfl) rfl (.tmp L4 .nil) ((Ab, cb), (A96, c96)) (by rw [hr]; rfl) (.dr (.dr (.kp (by rw [hr]; simp) (.kp (by rw [hr]) (.kp (by rw [hr]; exact chunk_row (by simp) (by rw [← flat_snoc])) (.dr .nil)))))) (fun _ _ _ => trivial)
    ·
     refine W.del (.dr .rf) (W.seq (W.region ?_))
     refine WL.st (R.eqi (.t L0) .c) rfl ?_
     refine WL.st (R.as (.t L0)) rfl ?_
     refine WL.nil (QS.next (W.del (.kp (.dr .rf)) ?_))
     refine W.cd (.t L0) (fun h6 => ?_) (fun h6 => ?_)
     ·
      refine W.del (.dr (.dr .rf)) (W.seq (W.seq (W.region ?_)))
      refine WL.st (R.mv (.t L6)) rfl ?_
      refine WL.st (R.notb (.t L0)) rfl ?_
      refine WL.st (R.mv (.t L0)) rfl ?_
      refine WL.gy rfl L0 (R.fa fo_159_0 (.t L8)) rfl ?_
      refine WL.gy rfl L1 (R.ld sc_4 (.t L0) H0 rfl) rfl ?_
      refine WL.st (R.pkf (.t L2) (.t L0)) rfl ?_
      refine WL.nil (QS.next (W.del (.kp (.dr (.dr (.dr (.dr (.dr .rf)))))) (W.cf (.t L0) (W.del (.dr .rf) (W.skip (QS.next (W.region ?_)))))))
      refine WL.st (R.mv (.t L0)) rfl ?_
      refine WL.st (R.nc (.t L0)) rfl ?_
      refine WL.st (R.fa fo_100_2 (.t L0)) rfl ?_
      refine WL.st (R.ld sc_98 (.t L0) H1 rfl) rfl ?_
      refine WL.st (R.mv (.t (D1 L1))) rfl ?_
      obtain ⟨x112, hx112⟩ : ∃ x, (op)[op.length - 1]? = some x := ⟨_, List.getElem?_eq_getElem (by omega)⟩
      have hxe112 : (⟨false, li, lw, lr, lc⟩ : LevS) = x112 := by rw [hop] at hx112; injection hx112
      subst hxe112
      have hlq112 : -1000000 ≤ (⟨false, li, lw, lr, lc⟩ : LevS).items ∧ (⟨false, li, lw, lr, lc⟩ : LevS).items ≤ 1000000 ∧ -1000000 ≤ (⟨false, li, lw, lr, lc⟩ : LevS).rows ∧ (⟨false, li, lw, lr, lc⟩ : LevS).rows ≤ 1000000 ∧ -1000000 ≤ (⟨false, li, lw, lr, lc⟩ : LevS).cells ∧ (⟨false, li, lw, lr, lc⟩ : LevS).cells ≤ 1000000 := hlb
      refine WL.st (R.ixF sl_98 (.t L1) (by first | rfl | simp) (.t L0) (l := op) (j := op.length - 1) (by omega) (List.getElem?_eq_some_iff.1 hx112).1 (by decide) (fun w hb => (RdF.mkN lv5_length (by first | rfl | simp) (hb.rowRd H3)))) rfl ?_
      refine WL.st (R.fapk fo_159_1 (.t L0) (j := (op.length - 1) * 5) (k := 0) (k2 := 1) rfl (fun w hb => RdF.ne ((RdF.mkN lv5_length (by first | rfl | simp) (hb.rowRd H3))) (List.getElem?_eq_some_iff.1 hx112).1 (by decide))) rfl ?_
      refine WL.st (R.ldp sc_3 (.t L0) (fun w hb => RdF.cell (k := 1) ((RdF.mkN lv5_length (by first | rfl | simp) (hb.rowRd H3))) hx112 rfl)) rfl ?_
      refine WL.st (R.add (.t L0) .c (wi (by omega) (by omega))) rfl ?_
      obtain ⟨x116, hx116⟩ : ∃ x, (op)[op.length - 1]? = some x := ⟨_, List.getElem?_eq_getElem (by omega)⟩
      have hxe116 : (⟨false, li, lw, lr, lc⟩ : LevS) = x116 := by rw [hop] at hx116; injection hx116
      subst hxe116
      have hlq116 : -1000000 ≤ (⟨false, li, lw, lr, lc⟩ : LevS).items ∧ (⟨false, li, lw, lr, lc⟩ : LevS).items ≤ 1000000 ∧ -1000000 ≤ (⟨false, li, lw, lr, lc⟩ : LevS).rows ∧ (⟨false, li, lw, lr, lc⟩ : LevS).rows ≤ 1000000 ∧ -1000000 ≤ (⟨false, li, lw, lr, lc⟩ : LevS).cells ∧ (⟨false, li, lw, lr, lc⟩ : LevS).cells ≤ 1000000 := hlb
      refine WL.st (R.ixF sl_98 (.t L5) (by first | rfl | simp) (.t L4) (l := op) (j := op.length - 1) (by omega) (List.getElem?_eq_some_iff.1 hx116).1 (by decide) (fun w hb => (RdF.mkN lv5_length (by first | rfl | simp) (hb.rowRd H3)))) rfl ?_
      refine WL.st (R.fapk fo_159_1 (.t L0) (j := (op.length - 1) * 5) (k := 0) (k2 := 1) rfl (fun w hb => RdF.ne ((RdF.mkN lv5_length (by first | rfl | simp) (hb.rowRd H3))) (List.getElem?_eq_some_iff.1 hx116).1 (by decide))) rfl ?_
      refine WL.stoR (j := (op.length - 1) * 5 + 1) sz_3 (.t L0) (.t L2) rfl rfl rfl C3 (flat_put0 (f := lv5) (l := op) (y := ⟨false, li + 1, lw, lr, lc⟩) lv5_length hx116 (by repeat constructor)) (by have h9 := (List.getElem?_eq_some_iff.1 hx116).1; rw [flat_length lv5_length]; have h8 := Nat.mul_le_mul_right 5 (Nat.succ_le_of_lt h9); rw [Nat.succ_mul] at h8; omega) ?_
      refine WL.nil (QS.blkn (QS.next (W.del (.dr (.dr (.dr (.dr (.dr (.dr (.dr (.dr (.dr (.dr (.dr .rf))))))))))) (W.seq (W.region ?_)))))
      refine WL.as .c U4 rfl ?_
      refine WL.nil (QS.next (W.ret ?_))
      have hr : blockS (⟨pa, br, op, tx⟩ : MachS) k wd.length = (true, ⟨pa, br, op.set (op.length - 1) ⟨false, li + 1, lw, lr, lc⟩, tx⟩) := by unfold blockS; rw [if_neg (by simpa using h0), if_neg (by omega), if_neg (by omega), if_pos (by omega)]; rw [htop_]; (try dsimp only); rw [if_neg (by decide)]
      exact QS.fin (.inl rfl) rfl (.tmp L4 .nil) ((Ab, cb), (Ao, co)) (by rw [hr]; rfl) (.dr (.kp (by rw [hr]; simp) (.kp (by rw [hr]) (.kp (by rw [hr]; exact chunk_row (by simp) rfl) (.dr .nil))))) (fun _ _ _ => trivial)
     ·
      refine W.del (.dr .rf) (W.seq (W.region ?_))
      refine WL.st (R.eqi (.t L0) .c) rfl ?_
      refine WL.st (R.as (.t L0)) rfl ?_
      refine WL.nil (QS.next (W.del (.kp (.dr .rf)) ?_))
      refine W.cd (.t L0) (fun h8 => ?_) (fun h8 => ?_)
      ·
       refine W.del (.dr (.dr .rf)) (W.seq (W.seq (W.region ?_)))
       refine WL.st (R.mv (.t L6)) rfl ?_
       refine WL.nil (QS.next (W.ct (.t L0) (W.del (.dr .rf) (W.seq (W.region ?_)))))
       refine WL.as .c U4 rfl ?_
       refine WL.nil (QS.next (W.ret (QS.thenr (QS.blkr (QS.thenr ?_)))))
       have hr : blockS (⟨pa, br, op, tx⟩ : MachS) k wd.length = (false, (⟨pa, br, op, tx⟩ : MachS)) := by unfold blockS; rw [if_neg (by simpa using h0), if_neg (by omega), if_neg (by omega), if_neg (by omega), if_pos (by omega)]; rw [htop_]; (try dsimp only)
       exact QS.fin (.inl rfl) rfl (.tmp L4 .nil) ((Ab, cb), (Ao, co)) (by rw [hr]; rfl) (.dr (.kp (by rw [hr]) (.kp (by rw [hr]) (.kp (by rw [hr]) (.dr .nil))))) (fun _ _ _ => trivial)
      ·
       refine W.del (.dr .rf) (W.seq (W.region ?_))
       refine WL.st (R.eqi (.t L0) .c) rfl ?_
       refine WL.st (R.as (.t L0)) rfl ?_
       refine WL.nil (QS.next (W.del (.kp (.dr .rf)) ?_))
       refine W.cd (.t L0) (fun h10 => ?_) (fun h10 => ?_)
       ·
        refine W.del (.dr (.dr .rf)) (W.seq (W.seq (W.region ?_)))
        refine WL.st (R.mv (.t L6)) rfl ?_
        refine WL.st (R.notb (.t L0)) rfl ?_
        refine WL.st (R.mv (.t L0)) rfl ?_
        refine WL.gy rfl L0 (R.fa fo_159_0 (.t L8)) rfl ?_
        refine WL.gy rfl L1 (R.ld sc_4 (.t L0) H0 rfl) rfl ?_
        refine WL.gy rfl L2 (R.notb (.t L0)) rfl ?_
        refine WL.st (R.pkf (.t L3) (.t L0)) rfl ?_
        refine WL.st (R.mv (.t L0)) rfl ?_
        refine WL.gn rfl L0 rfl ?_
        refine WL.gn rfl L1 rfl ?_
        refine WL.gn rfl L2 rfl ?_
        refine WL.st (R.pkt (.t L3) .c) rfl ?_
        refine WL.nil (QS.next (W.del (.kp (.dr (.dr (.dr (.dr (.dr (.dr (.dr (.dr (.dr (.dr (.dr .rf)))))))))))) (W.ct (.t L0) (W.del (.dr .rf) (W.seq (W.region ?_))))))
        refine WL.as .c U4 rfl ?_
        refine WL.nil (QS.next (W.ret (QS.thenr (QS.blkr (QS.thenr ?_)))))
        have hr : blockS (⟨pa, br, op, tx⟩ : MachS) k wd.length = (false, (⟨pa, br, op, tx⟩ : MachS)) := by unfold blockS; rw [if_neg (by simpa using h0), if_neg (by omega), if_neg (by omega), if_neg (by omega), if_neg (by omega), if_pos (by omega)]; rw [htop_]; (try dsimp only); rw [if_pos (by simp)]
        exact QS.fin (.inl rfl) rfl (.tmp L4 .nil) ((Ab, cb), (Ao, co)) (by rw [hr]; rfl) (.dr (.kp (by rw [hr]) (.kp (by rw [hr]) (.kp (by rw [hr]) (.dr .nil))))) (fun _ _ _ => trivial)
       ·
        refine W.del (.dr .rf) (W.seq (W.region ?_))
        refine WL.st (R.eqi (.t L0) .c) rfl ?_
        refine WL.st (R.as (.t L0)) rfl ?_
        refine WL.nil (QS.next (W.del (.kp (.dr (.dr .rf))) ?_))
        refine W.cd (.t L0) (fun h12 => ?_) (fun h12 => ?_)
        ·
         refine W.del (.dr .rf) (W.seq (W.seq (W.region ?_)))
         refine WL.st (R.mv (.t L6)) rfl ?_
         refine WL.st (R.notb (.t L0)) rfl ?_
         refine WL.st (R.mv (.t L0)) rfl ?_
         refine WL.gy rfl L0 (R.fa fo_159_0 (.t L8)) rfl ?_
         refine WL.gy rfl L1 (R.ld sc_4 (.t L0) H0 rfl) rfl ?_
         refine WL.gy rfl L2 (R.mv (.t L0)) rfl ?_
         refine WL.gn rfl L0 rfl ?_
         refine WL.gn rfl L1 rfl ?_
         refine WL.gn rfl L2 rfl ?_
         refine WL.gy rfl L6 (R.pkf (.t L3) .c) rfl ?_
         refine WL.st (R.pkf (.t L7) (.t L0)) rfl ?_
         refine WL.nil (QS.next (W.del (.kp (.dr (.dr (.dr (.dr (.dr (.dr (.dr (.dr (.dr (.dr .rf))))))))))) (W.cf (.t L0) (W.del (.dr .rf) (W.skip (QS.next (W.region ?_)))))))
         refine WL.st (R.mv (.t L0)) rfl ?_
         refine WL.st (R.mv (.t L1)) rfl ?_
         refine WL.st (R.nc (.t L0)) rfl ?_
         refine WL.st (R.fa fo_100_2 (.t L0)) rfl ?_
         refine WL.st (R.ld sc_98 (.t L0) H1 rfl) rfl ?_
         refine WL.st (R.mv (.t (D1 L2))) rfl ?_
         refine WL.know (p := op.length ≤ co) (fun w hb => capRow (hb.has H3)) (fun hco => ?_)
         refine WL.st (R.vq (v' := .slice Ao (op.length - 1) co) (R.sll sl_98 (.t L1) .no (.yes (.t L0) (n := op.length - 1) (by omega)) (Nat.zero_le _) (by omega)) (by rw [cutA_zero]; rfl)) rfl ?_
         refine WL.cutRow C3 (m := op.length - 1) (by omega) ?_
         refine WL.st (R.nc (.t L6)) rfl ?_
         refine WL.st (R.fa fo_100_2 (.t L0)) rfl ?_
         refine WL.sto sz_98 (.t L0) (.t L2) rfl rfl rfl C1 (by repeat constructor) ?_
         refine WL.nil (QS.blkn (QS.next (W.del (.dr (.dr (.dr (.dr (.dr (.dr (.dr (.dr (.dr .rf))))))))) (W.seq (W.region ?_)))))
         refine WL.as .c U4 rfl ?_
         refine WL.nil (QS.next (W.ret ?_))
         have hr : blockS (⟨pa, br, op, tx⟩ : MachS) k wd.length = (true, ⟨pa, br, op.take (op.length - 1), tx⟩) := by unfold blockS; rw [if_neg (by simpa using h0), if_neg (by omega), if_neg (by omega), if_neg (by omega), if_neg (by omega), if_neg (by omega), if_pos (by omega)]; rw [htop_]; (try dsimp only); rw [if_neg (by simp)]
         exact QS.fin (.inl rfl) rfl (.tmp L4 .nil) ((Ab, cb), (Ao, co)) (by rw [hr]; rfl) (.dr (.kp (by rw [hr]; simp) (.kp (by rw [hr]) (.kp (by rw [hr]; exact chunk_row (by simp) (flat_take lv5_length _ _)) (.dr .nil))))) (fun _ _ _ => trivial)
        ·
         refine W.del (.dr .rf) (W.skip (QS.blkn (QS.next (W.seq (W.region ?_)))))
         refine WL.as .c U4 rfl ?_
         refine WL.nil (QS.next (W.ret ?_))
         have hr : blockS (⟨pa, br, op, tx⟩ : MachS) k wd.length = (true, (⟨pa, br, op, tx⟩ : MachS)) := by rw [blockS, if_neg (by simpa using h0), if_neg (by omega), if_neg (by omega), if_neg (by omega), if_neg (by omega), if_neg (by omega), if_neg (by omega)]
         exact QS.fin (.inl rfl) rfl (.tmp L4 .nil) ((Ab, cb), (Ao, co)) (by rw [hr]; rfl) (.dr (.kp (by rw [hr]) (.kp (by rw [hr]) (.kp (by rw [hr]) (.dr .nil))))) (fun _ _ _ => trivial)
  ·
   refine WL.rw L0 (v' := .tuple #[.agg #[.bool true, .int .i64 li, .int .i64 lw, .int .i64 lr, .int .i64 lc], .bool true]) (by rw [topS_1 hop]) U0 ?_
   have htop_ : MachS.top (⟨pa, br, op, tx⟩ : MachS) = some ⟨true, li, lw, lr, lc⟩ := hop
   have hn1 : 1 ≤ op.length := by have := (List.getElem?_eq_some_iff.1 hop).1; omega
   have hlb : -1000000 ≤ li ∧ li ≤ 1000000 ∧ -1000000 ≤ lr ∧ lr ≤ 1000000 ∧ -1000000 ≤ lc ∧ lc ≤ 1000000 := hlv _ (List.mem_of_getElem? hop)
   refine WL.st (R.mv (.t L0)) rfl ?_
   refine WL.st (R.ex (.t L0) .here) rfl ?_
   refine WL.st (R.ex (.t L1) (.skip .here)) rfl ?_
   refine WL.allocu z_159 (fun _ => (E1 U0)) rfl (fun g5 => ?_)
   refine WL.sto sz_159 (.t (D1 L0)) (.t L1) rfl rfl rfl C0 (by repeat constructor) ?_
   refine WL.as (.t L0) (E1 U1) rfl ?_
   refine WL.nil (QS.next (W.del (.dr (.dr (.dr (.dr (.dr .rf))))) (W.seq (W.region ?_))))
   refine WL.st (R.mv (.t L0)) rfl ?_
   refine WL.st (R.nc (.t L0)) rfl ?_
   refine WL.st (R.fa fo_100_2 (.t L0)) rfl ?_
   refine WL.st (R.ld sc_98 (.t L0) H1 rfl) rfl ?_
   refine WL.st (R.lenl sl_98 (.t L0)) rfl ?_
   refine WL.st (R.sub (.t L0) .c (wi (by omega) (by omega))) rfl ?_
   refine WL.as (.t L0) (E1 U3) rfl ?_
   refine WL.nil (QS.next (W.del (.dr (.dr (.dr (.dr (.dr (.dr .rf)))))) (W.seq (W.seq (W.region ?_)))))
   refine WL.st (R.fa fo_95_0 (.t L3)) rfl ?_
   refine WL.st (R.ld sc_57 (.t L0) H4 rfl) rfl ?_
   refine WL.nil (QS.next (W.del (.kp (.dr .rf)) (W.block (W.seq (W.region ?_)))))
   refine WL.st (R.eqi (.t L0) .c) rfl ?_
   refine WL.st (R.as (.t L0)) rfl ?_
   refine WL.nil (QS.next (W.del (.kp (.dr .rf)) ?_))
   refine W.cd (.t L0) (fun h1 => ?_) (fun h1 => ?_)
   ·
    refine W.del (.dr (.dr .rf)) (W.seq (W.seq (W.region ?_)))
    refine WL.st (R.mv (.t L6)) rfl ?_
    refine WL.st (R.mv (.t L0)) rfl ?_
    refine WL.gy rfl L0 (R.fa fo_159_0 (.t L7)) rfl ?_
    refine WL.gy rfl L1 (R.ld sc_4 (.t L0) H0 rfl) rfl ?_
    refine WL.gy rfl L2 (R.mv (.t L0)) rfl ?_
    refine WL.gy rfl L0 (R.fa fo_159_3 (.t (D1 L0))) rfl ?_
    refine WL.gy rfl L1 (R.ld sc_3 (.t L0) H0 rfl) rfl ?_
    refine WL.gy rfl L2 (R.eqi (.t L0) .c) rfl ?_
    refine WL.gy rfl L3 (R.mv (.t L0)) rfl ?_
    refine WL.cd L0 U0 U0 (fun hg35 => ?_) (fun hg35 => ?_)
    ·
     refine WL.gn rfl L0 rfl ?_
     refine WL.gn rfl L1 rfl ?_
     refine WL.gn rfl L2 rfl ?_
     refine WL.gn rfl L3 rfl ?_
     refine WL.gn rfl L4 rfl ?_
     refine WL.gy rfl L9 (R.pkt (.t L5) .c) rfl ?_
     refine WL.gy rfl (D1 L3) (R.pkt (.t (D1 L0)) (.t L0)) rfl ?_
     refine WL.gy rfl (D1 L4) (R.mv (.t L0)) rfl ?_
     refine WL.gn rfl L0 rfl ?_
     refine WL.gn rfl L1 rfl ?_
     refine WL.gn rfl L2 rfl ?_
     refine WL.gn rfl L3 rfl ?_
     refine WL.gu rfl L0 rfl ?_
     refine WL.gu rfl L1 rfl ?_
     refine WL.gu rfl L2 rfl ?_
     refine WL.gn rfl L7 rfl ?_
     refine WL.gy rfl (D1 (D1 L3)) (R.pkt (.t L8) .c) rfl ?_
     refine WL.st (R.pkt (.t (D1 (D1 L4))) (.t L0)) rfl ?_
     refine WL.nil (QS.next (W.del (.kp (.dr (.dr (.dr (.dr (.dr (.dr (.dr (.dr (.dr (.dr (.dr (.dr (.dr (.dr (.dr (.dr (.dr (.dr (.dr (.dr (.dr (.dr (.dr (.dr (.dr (.dr .rf))))))))))))))))))))))))))) (W.ct (.t L0) (W.del (.dr .rf) (W.seq (W.region ?_))))))
     refine WL.as .c U4 rfl ?_
     refine WL.nil (QS.next (W.ret (QS.thenr (QS.blkr (QS.thenr ?_)))))
     have hr : blockS (⟨pa, br, op, tx⟩ : MachS) k wd.length = (false, (⟨pa, br, op, tx⟩ : MachS)) := by unfold blockS; rw [if_neg (by simpa using h0), if_pos (by omega)]; rw [htop_]; (try dsimp only); rw [if_pos (by first | (simp; done) | (simp; omega) | omega)]
     exact QS.fin (.inl rfl) rfl (.tmp L4 .nil) ((Ab, cb), (Ao, co)) (by rw [hr]; rfl) (.dr (.kp (by rw [hr]) (.kp (by rw [hr]) (.kp (by rw [hr]) (.dr .nil))))) (fun _ _ _ => trivial)
    ·
     refine WL.gy rfl L0 (R.fa fo_159_4 (.t (D1 L4))) rfl ?_
     refine WL.gy rfl L1 (R.ld sc_3 (.t L0) H0 rfl) rfl ?_
     refine WL.gy rfl L2 (R.fa fo_159_2 (.t (D1 L6))) rfl ?_
     refine WL.gy rfl L3 (R.ld sc_3 (.t L0) H0 rfl) rfl ?_
     refine WL.gy rfl L4 (R.geq (.t L2) (.t L0)) rfl ?_
     refine WL.gy rfl L9 (R.pkf (.t L5) (.t L0)) rfl ?_
     refine WL.gy rfl (D1 L3) (R.pkt (.t (D1 L0)) (.t L0)) rfl ?_
     refine WL.gy rfl (D1 L4) (R.mv (.t L0)) rfl ?_
     refine WL.cd L0 U0 U0 (fun hg43 => ?_) (fun hg43 => ?_)
     ·
      refine WL.gn rfl L0 rfl ?_
      refine WL.gn rfl L1 rfl ?_
      refine WL.gn rfl L2 rfl ?_
      refine WL.gn rfl L3 rfl ?_
      refine WL.gu rfl L0 rfl ?_
      refine WL.gu rfl L1 rfl ?_
      refine WL.gu rfl L2 rfl ?_
      refine WL.gn rfl L7 rfl ?_
      refine WL.gy rfl (D1 (D1 L3)) (R.pkt (.t L8) .c) rfl ?_
      refine WL.st (R.pkt (.t (D1 (D1 L4))) (.t L0)) rfl ?_
      refine WL.nil (QS.next (W.del (.kp (.dr (.dr (.dr (.dr (.dr (.dr (.dr (.dr (.dr (.dr (.dr (.dr (.dr (.dr (.dr (.dr (.dr (.dr (.dr (.dr (.dr (.dr (.dr (.dr (.dr (.dr .rf))))))))))))))))))))))))))) (W.ct (.t L0) (W.del (.dr .rf) (W.seq (W.region ?_))))))
      refine WL.as .c U4 rfl ?_
      refine WL.nil (QS.next (W.ret (QS.thenr (QS.blkr (QS.thenr ?_)))))
      have hr : blockS (⟨pa, br, op, tx⟩ : MachS) k wd.length = (false, (⟨pa, br, op, tx⟩ : MachS)) := by unfold blockS; rw [if_neg (by simpa using h0), if_pos (by omega)]; rw [htop_]; (try dsimp only); rw [if_pos (by first | (simp; done) | (simp; omega) | omega)]
      exact QS.fin (.inl rfl) rfl (.tmp L4 .nil) ((Ab, cb), (Ao, co)) (by rw [hr]; rfl) (.dr (.kp (by rw [hr]) (.kp (by rw [hr]) (.kp (by rw [hr]) (.dr .nil))))) (fun _ _ _ => trivial)
     ·
      refine WL.gy rfl L0 (R.fa fo_159_0 (.t (D1 (D1 L2)))) rfl ?_
      refine WL.gy rfl L1 (R.ld sc_4 (.t L0) H0 rfl) rfl ?_
      refine WL.gy rfl L2 (R.notb (.t L0)) rfl ?_
      refine WL.gy rfl L3 (R.mv (.t L0)) rfl ?_
      refine WL.gn rfl L0 rfl ?_
      refine WL.gn rfl L1 rfl ?_
      refine WL.gn rfl L2 rfl ?_
      refine WL.gy rfl L7 (R.pkf (.t L3) .c) rfl ?_
      refine WL.gy rfl (D1 (D1 L3)) (R.pkf (.t L8) (.t L0)) rfl ?_
      refine WL.st (R.pkt (.t (D1 (D1 L4))) (.t L0)) rfl ?_
      refine WL.nil (QS.next (W.del (.kp (.dr (.dr (.dr (.dr (.dr (.dr (.dr (.dr (.dr (.dr (.dr (.dr (.dr (.dr (.dr (.dr (.dr (.dr (.dr (.dr (.dr (.dr (.dr (.dr (.dr (.dr .rf))))))))))))))))))))))))))) (W.cf (.t L0) (W.del (.dr .rf) (W.skip (QS.next (W.seq (W.seq (W.region ?_)))))))))
      refine WL.st (R.mv (.t L6)) rfl ?_
      refine WL.nil (QS.next (W.ct (.t L0) (W.del (.dr .rf) (W.region ?_))))
      refine WL.st (R.mv (.t L0)) rfl ?_
      refine WL.st (R.nc (.t L0)) rfl ?_
      refine WL.st (R.fa fo_100_2 (.t L0)) rfl ?_
      refine WL.st (R.ld sc_98 (.t L0) H1 rfl) rfl ?_
      refine WL.st (R.mv (.t (D1 L1))) rfl ?_
      obtain ⟨x60, hx60⟩ : ∃ x, (op)[op.length - 1]? = some x := ⟨_, List.getElem?_eq_getElem (by omega)⟩
      have hxe60 : (⟨true, li, lw, lr, lc⟩ : LevS) = x60 := by rw [hop] at hx60; injection hx60
      subst hxe60
      have hlq60 : -1000000 ≤ (⟨true, li, lw, lr, lc⟩ : LevS).items ∧ (⟨true, li, lw, lr, lc⟩ : LevS).items ≤ 1000000 ∧ -1000000 ≤ (⟨true, li, lw, lr, lc⟩ : LevS).rows ∧ (⟨true, li, lw, lr, lc⟩ : LevS).rows ≤ 1000000 ∧ -1000000 ≤ (⟨true, li, lw, lr, lc⟩ : LevS).cells ∧ (⟨true, li, lw, lr, lc⟩ : LevS).cells ≤ 1000000 := hlb
      refine WL.st (R.ixF sl_98 (.t L1) (by first | rfl | simp) (.t L0) (l := op) (j := op.length - 1) (by omega) (List.getElem?_eq_some_iff.1 hx60).1 (by decide) (fun w hb => (RdF.mkN lv5_length (by first | rfl | simp) (hb.rowRd H3)))) rfl ?_
      refine WL.st (R.fapk fo_159_4 (.t L0) (j := (op.length - 1) * 5) (k := 0) (k2 := 4) rfl (fun w hb => RdF.ne ((RdF.mkN lv5_length (by first | rfl | simp) (hb.rowRd H3))) (List.getElem?_eq_some_iff.1 hx60).1 (by decide))) rfl ?_
      refine WL.st (R.ldp sc_3 (.t L0) (fun w hb => RdF.cell (k := 4) ((RdF.mkN lv5_length (by first | rfl | simp) (hb.rowRd H3))) hx60 rfl)) rfl ?_
      refine WL.st (R.add (.t L0) .c (wi (by omega) (by omega))) rfl ?_
      obtain ⟨x64, hx64⟩ : ∃ x, (op)[op.length - 1]? = some x := ⟨_, List.getElem?_eq_getElem (by omega)⟩
      have hxe64 : (⟨true, li, lw, lr, lc⟩ : LevS) = x64 := by rw [hop] at hx64; injection hx64
      subst hxe64
      have hlq64 : -1000000 ≤ (⟨true, li, lw, lr, lc⟩ : LevS).items ∧ (⟨true, li, lw, lr, lc⟩ : LevS).items ≤ 1000000 ∧ -1000000 ≤ (⟨true, li, lw, lr, lc⟩ : LevS).rows ∧ (⟨true, li, lw, lr, lc⟩ : LevS).rows ≤ 1000000 ∧ -1000000 ≤ (⟨true, li, lw, lr, lc⟩ : LevS).cells ∧ (⟨true, li, lw, lr, lc⟩ : LevS).cells ≤ 1000000 := hlb
      refine WL.st (R.ixF sl_98 (.t L5) (by first | rfl | simp) (.t L4) (l := op) (j := op.length - 1) (by omega) (List.getElem?_eq_some_iff.1 hx64).1 (by decide) (fun w hb => (RdF.mkN lv5_length (by first | rfl | simp) (hb.rowRd H3)))) rfl ?_
      refine WL.st (R.fapk fo_159_4 (.t L0) (j := (op.length - 1) * 5) (k := 0) (k2 := 4) rfl (fun w hb => RdF.ne ((RdF.mkN lv5_length (by first | rfl | simp) (hb.rowRd H3))) (List.getElem?_eq_some_iff.1 hx64).1 (by decide))) rfl ?_
      refine WL.stoR (j := (op.length - 1) * 5 + 4) sz_3 (.t L0) (.t L2) rfl rfl rfl C3 (flat_put0 (f := lv5) (l := op) (y := ⟨true, li, lw, lr, lc + 1⟩) lv5_length hx64 (by repeat constructor)) (by have h9 := (List.getElem?_eq_some_iff.1 hx64).1; rw [flat_length lv5_length]; have h8 := Nat.mul_le_mul_right 5 (Nat.succ_le_of_lt h9); rw [Nat.succ_mul] at h8; omega) ?_
      refine WL.nil (QS.next (W.del (.dr (.dr (.dr (.dr (.dr (.dr (.dr (.dr (.dr (.dr (.dr .rf))))))))))) (W.region ?_)))
      refine WL.st (R.mv (.t L0)) rfl ?_
      refine WL.st (R.nc (.t L0)) rfl ?_
      refine WL.st (R.fa fo_100_0 (.t L0)) rfl ?_
      refine WL.sto sz_4 (.t L0) .c rfl rfl rfl C1 (by repeat constructor) ?_
      refine WL.nil (QS.blkn (QS.next (W.del (.dr (.dr (.dr .rf))) (W.seq (W.region ?_)))))
      refine WL.as .c U4 rfl ?_
      refine WL.nil (QS.next (W.ret ?_))
      have hr : blockS (⟨pa, br, op, tx⟩ : MachS) k wd.length = (true, ⟨true, br, op.set (op.length - 1) ⟨true, li, lw, lr, lc + 1⟩, tx⟩) := by unfold blockS; rw [if_neg (by simpa using h0), if_pos (by omega)]; rw [htop_]; (try dsimp only); rw [if_neg (by first | (simp; done) | (simp; omega) | omega)]
      exact QS.fin (.inl rfl) rfl (.tmp L4 .nil) ((Ab, cb), (Ao, co)) (by rw [hr]; rfl) (.dr (.kp (by rw [hr]; simp) (.kp (by rw [hr]) (.kp (by rw [hr]; exact chunk_row (by simp) rfl) (.dr .nil))))) (fun _ _ _ => trivial)
   ·
    refine W.del (.dr .rf) (W.seq (W.region ?_))
    refine WL.st (R.eqi (.t L0) .c) rfl ?_
    refine WL.st (R.as (.t L0)) rfl ?_
    refine WL.nil (QS.next (W.del (.kp (.dr .rf)) ?_))
    refine W.cd (.t L0) (fun h4 => ?_) (fun h4 => ?_)
    ·
     refine W.del (.dr (.dr .rf)) (W.seq (W.seq (W.region ?_)))
     refine WL.st (R.mv (.t L6)) rfl ?_
     refine WL.st (R.mv (.t L0)) rfl ?_
     refine WL.gy rfl L0 (R.fa fo_159_0 (.t L7)) rfl ?_
     refine WL.gy rfl L1 (R.ld sc_4 (.t L0) H0 rfl) rfl ?_
     refine WL.gy rfl L2 (R.mv (.t L0)) rfl ?_
     refine WL.gn rfl L0 rfl ?_
     refine WL.gn rfl L1 rfl ?_
     refine WL.gn rfl L2 rfl ?_
     refine WL.gy rfl L6 (R.pkt (.t L3) .c) rfl ?_
     refine WL.st (R.pkt (.t L7) (.t L0)) rfl ?_
     refine WL.st (R.mv (.t L0)) rfl ?_
     refine WL.gn rfl L0 rfl ?_
     refine WL.gn rfl L1 rfl ?_
     refine WL.gn rfl L2 rfl ?_
     refine WL.gn rfl L3 rfl ?_
     refine WL.gn rfl L4 rfl ?_
     refine WL.gn rfl L5 rfl ?_
     refine WL.st (R.pkt (.t L6) .c) rfl ?_
     refine WL.nil (QS.next (W.del (.kp (.dr (.dr (.dr (.dr (.dr (.dr (.dr (.dr (.dr (.dr (.dr (.dr (.dr (.dr (.dr (.dr (.dr .rf)))))))))))))))))) (W.ct (.t L0) (W.del (.dr .rf) (W.seq (W.region ?_))))))
     refine WL.as .c U4 rfl ?_
     refine WL.nil (QS.next (W.ret (QS.thenr (QS.blkr (QS.thenr ?_)))))
     have hr : blockS (⟨pa, br, op, tx⟩ : MachS) k wd.length = (false, (⟨pa, br, op, tx⟩ : MachS)) := by unfold blockS; rw [if_neg (by simpa using h0), if_neg (by omega), if_pos (by omega)]; rw [htop_]; (try dsimp only); rw [if_pos (by simp)]
     exact QS.fin (.inl rfl) rfl (.tmp L4 .nil) ((Ab, cb), (Ao, co)) (by rw [hr]; rfl) (.dr (.kp (by rw [hr]) (.kp (by rw [hr]) (.kp (by rw [hr]) (.dr .nil))))) (fun _ _ _ => trivial)
    ·
     refine W.del (.dr .rf) (W.seq (W.region ?_))
     refine WL.st (R.eqi (.t L0) .c) rfl ?_
     refine WL.st (R.as (.t L0)) rfl ?_
     refine WL.nil (QS.next (W.del (.kp (.dr .rf)) ?_))
     refine W.cd (.t L0) (fun h6 => ?_) (fun h6 => ?_)
     ·
      refine W.del (.dr (.dr .rf)) (W.seq (W.seq (W.region ?_)))
      refine WL.st (R.mv (.t L6)) rfl ?_
      refine WL.st (R.notb (.t L0)) rfl ?_
      refine WL.st (R.mv (.t L0)) rfl ?_
      refine WL.gy rfl L0 (R.fa fo_159_0 (.t L8)) rfl ?_
      refine WL.gy rfl L1 (R.ld sc_4 (.t L0) H0 rfl) rfl ?_
      refine WL.st (R.pkf (.t L2) (.t L0)) rfl ?_
      refine WL.nil (QS.next (W.del (.kp (.dr (.dr (.dr (.dr (.dr .rf)))))) (W.ct (.t L0) (W.del (.dr .rf) (W.seq (W.region ?_))))))
      refine WL.as .c U4 rfl ?_
      refine WL.nil (QS.next (W.ret (QS.thenr (QS.blkr (QS.thenr ?_)))))
      have hr : blockS (⟨pa, br, op, tx⟩ : MachS) k wd.length = (false, (⟨pa, br, op, tx⟩ : MachS)) := by unfold blockS; rw [if_neg (by simpa using h0), if_neg (by omega), if_neg (by omega), if_pos (by omega)]; rw [htop_]; (try dsimp only); rw [if_pos rfl]
      exact QS.fin (.inl rfl) rfl (.tmp L4 .nil) ((Ab, cb), (Ao, co)) (by rw [hr]; rfl) (.dr (.kp (by rw [hr]) (.kp (by rw [hr]) (.kp (by rw [hr]) (.dr .nil))))) (fun _ _ _ => trivial)
     ·
      refine W.del (.dr .rf) (W.seq (W.region ?_))
      refine WL.st (R.eqi (.t L0) .c) rfl ?_
      refine WL.st (R.as (.t L0)) rfl ?_
      refine WL.nil (QS.next (W.del (.kp (.dr .rf)) ?_))
      refine W.cd (.t L0) (fun h8 => ?_) (fun h8 => ?_)
      ·
       refine W.del (.dr (.dr .rf)) (W.seq (W.seq (W.region ?_)))
       refine WL.st (R.mv (.t L6)) rfl ?_
       refine WL.nil (QS.next (W.ct (.t L0) (W.del (.dr .rf) (W.seq (W.region ?_)))))
       refine WL.as .c U4 rfl ?_
       refine WL.nil (QS.next (W.ret (QS.thenr (QS.blkr (QS.thenr ?_)))))
       have hr : blockS (⟨pa, br, op, tx⟩ : MachS) k wd.length = (false, (⟨pa, br, op, tx⟩ : MachS)) := by unfold blockS; rw [if_neg (by simpa using h0), if_neg (by omega), if_neg (by omega), if_neg (by omega), if_pos (by omega)]; rw [htop_]; (try dsimp only)
       exact QS.fin (.inl rfl) rfl (.tmp L4 .nil) ((Ab, cb), (Ao, co)) (by rw [hr]; rfl) (.dr (.kp (by rw [hr]) (.kp (by rw [hr]) (.kp (by rw [hr]) (.dr .nil))))) (fun _ _ _ => trivial)
      ·
       refine W.del (.dr .rf) (W.seq (W.region ?_))
       refine WL.st (R.eqi (.t L0) .c) rfl ?_
       refine WL.st (R.as (.t L0)) rfl ?_
       refine WL.nil (QS.next (W.del (.kp (.dr .rf)) ?_))
       refine W.cd (.t L0) (fun h10 => ?_) (fun h10 => ?_)
       ·
        refine W.del (.dr (.dr .rf)) (W.seq (W.seq (W.region ?_)))
        refine WL.st (R.mv (.t L6)) rfl ?_
        refine WL.st (R.notb (.t L0)) rfl ?_
        refine WL.st (R.mv (.t L0)) rfl ?_
        refine WL.gy rfl L0 (R.fa fo_159_0 (.t L8)) rfl ?_
        refine WL.gy rfl L1 (R.ld sc_4 (.t L0) H0 rfl) rfl ?_
        refine WL.gy rfl L2 (R.notb (.t L0)) rfl ?_
        refine WL.st (R.pkf (.t L3) (.t L0)) rfl ?_
        refine WL.st (R.mv (.t L0)) rfl ?_
        refine WL.gy rfl L0 (R.lda ag_159 (.t (D1 L3)) H0 (by repeat constructor)) rfl ?_
        refine WL.gyw rfl L1 ?_
        refine WL.callr gf_97 .f (.cons (.t L0) .nil) (fun w hb => (mach_full (l := ⟨true, li, lw, lr, lc⟩) (hb.imp fun _ _ => trivial))) rfl ?_
        refine WL.gy rfl L2 (R.notb (.t L0)) rfl ?_
        refine WL.st (R.pkf (.t L3) (.t L0)) rfl ?_
        refine WL.nil (QS.next (W.del (.kp (.dr (.dr (.dr (.dr (.dr (.dr (.dr (.dr (.dr (.dr (.dr .rf)))))))))))) ?_))
        refine W.cb (.t L0) (fun h11 => ?_) (fun h11 => ?_)
        ·
         refine W.del (.dr .rf) (W.seq (W.region ?_))
         refine WL.as .c U4 rfl ?_
         refine WL.nil (QS.next (W.ret (QS.thenr (QS.blkr (QS.thenr ?_)))))
         have hr : blockS (⟨pa, br, op, tx⟩ : MachS) k wd.length = (false, (⟨pa, br, op, tx⟩ : MachS)) := by unfold blockS; rw [if_neg (by simpa using h0), if_neg (by omega), if_neg (by omega), if_neg (by omega), if_neg (by omega), if_pos (by omega)]; rw [htop_]; (try dsimp only); rw [if_pos (by simp_all)]
         exact QS.fin (.inl rfl) rfl (.tmp L4 .nil) ((Ab, cb), (Ao, co)) (by rw [hr]; rfl) (.dr (.kp (by rw [hr]) (.kp (by rw [hr]) (.kp (by rw [hr]) (.dr .nil))))) (fun _ _ _ => trivial)
        ·
         refine W.del (.dr .rf) (W.skip (QS.next (W.seq (W.region ?_))))
         refine WL.st (R.mv (.t L0)) rfl ?_
         refine WL.st (R.nc (.t L0)) rfl ?_
         refine WL.st (R.fa fo_100_2 (.t L0)) rfl ?_
         refine WL.st (R.ld sc_98 (.t L0) H1 rfl) rfl ?_
         refine WL.st (R.mv (.t (D1 L1))) rfl ?_
         obtain ⟨x153, hx153⟩ : ∃ x, (op)[op.length - 1]? = some x := ⟨_, List.getElem?_eq_getElem (by omega)⟩
         have hxe153 : (⟨true, li, lw, lr, lc⟩ : LevS) = x153 := by rw [hop] at hx153; injection hx153
         subst hxe153
         have hlq153 : -1000000 ≤ (⟨true, li, lw, lr, lc⟩ : LevS).items ∧ (⟨true, li, lw, lr, lc⟩ : LevS).items ≤ 1000000 ∧ -1000000 ≤ (⟨true, li, lw, lr, lc⟩ : LevS).rows ∧ (⟨true, li, lw, lr, lc⟩ : LevS).rows ≤ 1000000 ∧ -1000000 ≤ (⟨true, li, lw, lr, lc⟩ : LevS).cells ∧ (⟨true, li, lw, lr, lc⟩ : LevS).cells ≤ 1000000 := hlb
         refine WL.st (R.ixF sl_98 (.t L1) (by first | rfl | simp) (.t L0) (l := op) (j := op.length - 1) (by omega) (List.getElem?_eq_some_iff.1 hx153).1 (by decide) (fun w hb => (RdF.mkN lv5_length (by first | rfl | simp) (hb.rowRd H3)))) rfl ?_
         refine WL.st (R.fapk fo_159_3 (.t L0) (j := (op.length - 1) * 5) (k := 0) (k2 := 3) rfl (fun w hb => RdF.ne ((RdF.mkN lv5_length (by first | rfl | simp) (hb.rowRd H3))) (List.getElem?_eq_some_iff.1 hx153).1 (by decide))) rfl ?_
         refine WL.st (R.ldp sc_3 (.t L0) (fun w hb => RdF.cell (k := 3) ((RdF.mkN lv5_length (by first | rfl | simp) (hb.rowRd H3))) hx153 rfl)) rfl ?_
         refine WL.st (R.add (.t L0) .c (wi (by omega) (by omega))) rfl ?_
         obtain ⟨x157, hx157⟩ : ∃ x, (op)[op.length - 1]? = some x := ⟨_, List.getElem?_eq_getElem (by omega)⟩
         have hxe157 : (⟨true, li, lw, lr, lc⟩ : LevS) = x157 := by rw [hop] at hx157; injection hx157
         subst hxe157
         have hlq157 : -1000000 ≤ (⟨true, li, lw, lr, lc⟩ : LevS).items ∧ (⟨true, li, lw, lr, lc⟩ : LevS).items ≤ 1000000 ∧ -1000000 ≤ (⟨true, li, lw, lr, lc⟩ : LevS).rows ∧ (⟨true, li, lw, lr, lc⟩ : LevS).rows ≤ 1000000 ∧ -1000000 ≤ (⟨true, li, lw, lr, lc⟩ : LevS).cells ∧ (⟨true, li, lw, lr, lc⟩ : LevS).cells ≤ 1000000 := hlb
         refine WL.st (R.ixF sl_98 (.t L5) (by first | rfl | simp) (.t L4) (l := op) (j := op.length - 1) (by omega) (List.getElem?_eq_some_iff.1 hx157).1 (by decide) (fun w hb => (RdF.mkN lv5_length (by first | rfl | simp) (hb.rowRd H3)))) rfl ?_
         refine WL.st (R.fapk fo_159_3 (.t L0) (j := (op.length - 1) * 5) (k := 0) (k2 := 3) rfl (fun w hb => RdF.ne ((RdF.mkN lv5_length (by first | rfl | simp) (hb.rowRd H3))) (List.getElem?_eq_some_iff.1 hx157).1 (by decide))) rfl ?_
         refine WL.stoR (j := (op.length - 1) * 5 + 3) sz_3 (.t L0) (.t L2) rfl rfl rfl C3 (flat_put0 (f := lv5) (l := op) (y := ⟨true, li, lw, lr + 1, lc⟩) lv5_length hx157 (by repeat constructor)) (by have h9 := (List.getElem?_eq_some_iff.1 hx157).1; rw [flat_length lv5_length]; have h8 := Nat.mul_le_mul_right 5 (Nat.succ_le_of_lt h9); rw [Nat.succ_mul] at h8; omega) ?_
         refine WL.nil (QS.next (W.del (.dr (.dr (.dr (.dr (.dr (.dr (.dr (.dr (.dr (.dr (.dr .rf))))))))))) (W.region ?_)))
         refine WL.st (R.mv (.t L0)) rfl ?_
         refine WL.st (R.nc (.t L0)) rfl ?_
         refine WL.st (R.fa fo_100_2 (.t L0)) rfl ?_
         refine WL.st (R.ld sc_98 (.t L0) H1 rfl) rfl ?_
         refine WL.st (R.mv (.t (D1 L1))) rfl ?_
         obtain ⟨x164, hx164⟩ : ∃ x, ((op.set (op.length - 1) (⟨true, li, lw, lr + 1, lc⟩)))[op.length - 1]? = some x := ⟨_, List.getElem?_eq_getElem (by simp; omega)⟩
         have hxe164 : (⟨true, li, lw, lr + 1, lc⟩ : LevS) = x164 := by rw [set_at hop] at hx164; injection hx164
         subst hxe164
         refine WL.st (R.ixF sl_98 (.t L1) (by first | rfl | simp) (.t L0) (l := (op.set (op.length - 1) (⟨true, li, lw, lr + 1, lc⟩))) (j := op.length - 1) (by omega) (List.getElem?_eq_some_iff.1 hx164).1 (by decide) (fun w hb => (RdF.mkN lv5_length (by first | rfl | simp) (hb.rowRd H3)))) rfl ?_
         refine WL.st (R.fapk fo_159_4 (.t L0) (j := (op.length - 1) * 5) (k := 0) (k2 := 4) rfl (fun w hb => RdF.ne ((RdF.mkN lv5_length (by first | rfl | simp) (hb.rowRd H3))) (List.getElem?_eq_some_iff.1 hx164).1 (by decide))) rfl ?_
         refine WL.stoR (j := (op.length - 1) * 5 + 4) sz_3 (.t L0) .c rfl rfl rfl C3 (flat_put0 (f := lv5) (l := (op.set (op.length - 1) (⟨true, li, lw, lr + 1, lc⟩))) (y := ⟨true, li, lw, lr + 1, 0⟩) lv5_length hx164 (by repeat constructor)) (by have h9 := (List.getElem?_eq_some_iff.1 hx164).1; rw [flat_length lv5_length]; have h8 := Nat.mul_le_mul_right 5 (Nat.succ_le_of_lt h9); rw [Nat.succ_mul] at h8; omega) ?_
         refine WL.nil (QS.blkn (QS.next (W.del (.dr (.dr (.dr (.dr (.dr (.dr (.dr .rf))))))) (W.seq (W.region ?_)))))
         refine WL.as .c U4 rfl ?_
         refine WL.nil (QS.next (W.ret ?_))
         have hr : blockS (⟨pa, br, op, tx⟩ : MachS) k wd.length = (true, ⟨pa, br, op.set (op.length - 1) ⟨true, li, lw, lr + 1, 0⟩, tx⟩) := by unfold blockS; rw [if_neg (by simpa using h0), if_neg (by omega), if_neg (by omega), if_neg (by omega), if_neg (by omega), if_pos (by omega)]; rw [htop_]; (try dsimp only); rw [if_neg (by simp_all)]
         exact QS.fin (.inl rfl) rfl (.tmp L4 .nil) ((Ab, cb), (Ao, co)) (by rw [hr]; rfl) (.dr (.kp (by rw [hr]; simp) (.kp (by rw [hr]) (.kp (by rw [hr]; exact chunk_row (by simp) (by simp)) (.dr .nil))))) (fun _ _ _ => trivial)
       ·
        refine W.del (.dr .rf) (W.seq (W.region ?_))
        refine WL.st (R.eqi (.t L0) .c) rfl ?_
        refine WL.st (R.as (.t L0)) rfl ?_
        refine WL.nil (QS.next (W.del (.kp (.dr (.dr .rf))) ?_))
        refine W.cd (.t L0) (fun h12 => ?_) (fun h12 => ?_)
        ·
         refine W.del (.dr .rf) (W.seq (W.seq (W.region ?_)))
         refine WL.st (R.mv (.t L6)) rfl ?_
         refine WL.st (R.notb (.t L0)) rfl ?_
         refine WL.st (R.mv (.t L0)) rfl ?_
         refine WL.gy rfl L0 (R.fa fo_159_0 (.t L8)) rfl ?_
         refine WL.gy rfl L1 (R.ld sc_4 (.t L0) H0 rfl) rfl ?_
         refine WL.gy rfl L2 (R.mv (.t L0)) rfl ?_
         refine WL.gy rfl L0 (R.lda ag_159 (.t (D1 L1)) H0 (by repeat constructor)) rfl ?_
         refine WL.gyw rfl L1 ?_
         refine WL.callr gf_97 .f (.cons (.t L0) .nil) (fun w hb => (mach_full (l := ⟨true, li, lw, lr, lc⟩) (hb.imp fun _ _ => trivial))) rfl ?_
         refine WL.gy rfl L2 (R.notb (.t L0)) rfl ?_
         refine WL.gy rfl L6 (R.pkt (.t L3) (.t L0)) rfl ?_
         refine WL.st (R.pkf (.t L7) (.t L0)) rfl ?_
         refine WL.nil (QS.next (W.del (.kp (.dr (.dr (.dr (.dr (.dr (.dr (.dr (.dr (.dr (.dr .rf))))))))))) ?_))
         refine W.cb (.t L0) (fun h13 => ?_) (fun h13 => ?_)
         ·
          refine W.del (.dr .rf) (W.seq (W.region ?_))
          refine WL.as .c U4 rfl ?_
          refine WL.nil (QS.next (W.ret (QS.thenr (QS.blkr (QS.thenr ?_)))))
          have hr : blockS (⟨pa, br, op, tx⟩ : MachS) k wd.length = (false, (⟨pa, br, op, tx⟩ : MachS)) := by unfold blockS; rw [if_neg (by simpa using h0), if_neg (by omega), if_neg (by omega), if_neg (by omega), if_neg (by omega), if_neg (by omega), if_pos (by omega)]; rw [htop_]; (try dsimp only); rw [if_pos (by simp_all)]
          exact QS.fin (.inl rfl) rfl (.tmp L4 .nil) ((Ab, cb), (Ao, co)) (by rw [hr]; rfl) (.dr (.kp (by rw [hr]) (.kp (by rw [hr]) (.kp (by rw [hr]) (.dr .nil))))) (fun _ _ _ => trivial)
         ·
          refine W.del (.dr .rf) (W.skip (QS.next (W.region ?_)))
          refine WL.st (R.mv (.t L0)) rfl ?_
          refine WL.st (R.mv (.t L1)) rfl ?_
          refine WL.st (R.nc (.t L0)) rfl ?_
          refine WL.st (R.fa fo_100_2 (.t L0)) rfl ?_
          refine WL.st (R.ld sc_98 (.t L0) H1 rfl) rfl ?_
          refine WL.st (R.mv (.t (D1 L2))) rfl ?_
          refine WL.know (p := op.length ≤ co) (fun w hb => capRow (hb.has H3)) (fun hco => ?_)
          refine WL.st (R.vq (v' := .slice Ao (op.length - 1) co) (R.sll sl_98 (.t L1) .no (.yes (.t L0) (n := op.length - 1) (by omega)) (Nat.zero_le _) (by omega)) (by rw [cutA_zero]; rfl)) rfl ?_
          refine WL.cutRow C3 (m := op.length - 1) (by omega) ?_
          refine WL.st (R.nc (.t L6)) rfl ?_
          refine WL.st (R.fa fo_100_2 (.t L0)) rfl ?_
          refine WL.sto sz_98 (.t L0) (.t L2) rfl rfl rfl C1 (by repeat constructor) ?_
          refine WL.nil (QS.blkn (QS.next (W.del (.dr (.dr (.dr (.dr (.dr (.dr (.dr (.dr (.dr .rf))))))))) (W.seq (W.region ?_)))))
          refine WL.as .c U4 rfl ?_
          refine WL.nil (QS.next (W.ret ?_))
          have hr : blockS (⟨pa, br, op, tx⟩ : MachS) k wd.length = (true, ⟨pa, br, op.take (op.length - 1), tx⟩) := by unfold blockS; rw [if_neg (by simpa using h0), if_neg (by omega), if_neg (by omega), if_neg (by omega), if_neg (by omega), if_neg (by omega), if_pos (by omega)]; rw [htop_]; (try dsimp only); rw [if_neg (by simp_all)]
          exact QS.fin (.inl rfl) rfl (.tmp L4 .nil) ((Ab, cb), (Ao, co)) (by rw [hr]; rfl) (.dr (.kp (by rw [hr]; simp) (.kp (by rw [hr]) (.kp (by rw [hr]; exact chunk_row (by simp) (flat_take lv5_length _ _)) (.dr .nil))))) (fun _ _ _ => trivial)
        ·
         refine W.del (.dr .rf) (W.skip (QS.blkn (QS.next (W.seq (W.region ?_)))))
         refine WL.as .c U4 rfl ?_
         refine WL.nil (QS.next (W.ret ?_))
         have hr : blockS (⟨pa, br, op, tx⟩ : MachS) k wd.length = (true, (⟨pa, br, op, tx⟩ : MachS)) := by rw [blockS, if_neg (by simpa using h0), if_neg (by omega), if_neg (by omega), if_neg (by omega), if_neg (by omega), if_neg (by omega), if_neg (by omega)]
         exact QS.fin (.inl rfl) rfl (.tmp L4 .nil) ((Ab, cb), (Ao, co)) (by rw [hr]; rfl) (.dr (.kp (by rw [hr]) (.kp (by rw [hr]) (.kp (by rw [hr]) (.dr .nil))))) (fun _ _ _ => trivial)

theorem mach_Step {g : Nat} {pa tx : Bool} {br : List Bool} {op : List LevS} {Ab Ao : Option Addr} {cb co : Nat} (hbl : br.length ≤ 1000000) (hol : op.length ≤ 1000000) {k n : Int} {tt : List UInt8} {wd : List Int} {Aw : Option Addr} {cw : Nat} (hwl : wd.length ≤ 1000000) (hlv : ∀ l ∈ op, -1000000 ≤ l.items ∧ l.items ≤ 1000000 ∧ -1000000 ≤ l.rows ∧ l.rows ≤ 1000000 ∧ -1000000 ≤ l.cells ∧ l.cells ≤ 1000000) {C : Cx} (hb : Hb C C.w0 [blk g 102 [.bool pa, .slice Ab br.length cb, .slice Ao op.length co, .bool tx], .row (.slice Ab br.length cb) 4 1 br.length (flat bo1 br), .row (.slice Ao op.length co) 159 5 op.length (flat lv5 op)] (fun _ => True)) :
    Sp Tryd.prog 48 [.pointer (some ⟨g, 0, none⟩), .agg #[.int .i64 k, .int .i64 n, str tt, .slice Aw wd.length cw]] C (ι := (Option Addr × Nat) × Option Addr × Nat) (fun _ => .bool (machStep (⟨pa, br, op, tx⟩ : MachS) k wd.length).1) (fun x => [blk g 102 [.bool (machStep (⟨pa, br, op, tx⟩ : MachS) k wd.length).2.para, .slice x.1.1 (machStep (⟨pa, br, op, tx⟩ : MachS) k wd.length).2.braces.length x.1.2, .slice x.2.1 (machStep (⟨pa, br, op, tx⟩ : MachS) k wd.length).2.open_.length x.2.2, .bool (machStep (⟨pa, br, op, tx⟩ : MachS) k wd.length).2.text], .row (.slice x.1.1 (machStep (⟨pa, br, op, tx⟩ : MachS) k wd.length).2.braces.length x.1.2) 4 1 (machStep (⟨pa, br, op, tx⟩ : MachS) k wd.length).2.braces.length (flat bo1 (machStep (⟨pa, br, op, tx⟩ : MachS) k wd.length).2.braces), .row (.slice x.2.1 (machStep (⟨pa, br, op, tx⟩ : MachS) k wd.length).2.open_.length x.2.2) 159 5 (machStep (⟨pa, br, op, tx⟩ : MachS) k wd.length).2.open_.length (flat lv5 (machStep (⟨pa, br, op, tx⟩ : MachS) k wd.length).2.open_)]) (fun _ _ => True) := by
 refine Sp.enter (N := 32) (e := entryEnv [.pointer (some ⟨g, 0, none⟩), .agg #[.int .i64 k, .int .i64 n, str tt, .slice Aw wd.length cw]] 0 7) Tryd.func48 rfl rfl (Nat.le_of_ble_eq_true rfl) (entry_ok (Nat.le_of_ble_eq_true rfl) (Nat.le_of_ble_eq_true rfl)) (entry_nd _ _) hb ?_
 show W _ _ _ _ _ [(0, .pointer (some ⟨g, 0, none⟩)), (1, .agg #[.int .i64 k, .int .i64 n, str tt, .slice Aw wd.length cw]), (2, undef), (3, undef), (4, undef), (5, undef), (6, undef)] _ _
 refine W.seq (W.region ?_)
 refine WL.boxu (.t L1) rfl (fun _ => U3) rfl (fun g3 => ?_)
 refine WL.as .c U4 rfl ?_
 refine WL.nil (QS.next (W.seq (W.region ?_)))
 refine WL.st (R.fa fo_95_0 (.t L3)) rfl ?_
 refine WL.st (R.ld sc_57 (.t L0) H0 rfl) rfl ?_
 refine WL.as (.t L0) U7 rfl ?_
 refine WL.nil (QS.next (W.del (.dr (.dr .rf)) (W.seq (W.region ?_))))
 refine WL.as .c U6 rfl ?_
 refine WL.nil (QS.next (W.seq (W.seq (W.region ?_))))
 refine WL.st (R.mv (.t L5)) rfl ?_
 refine WL.st (R.leq (.t L0) .c) rfl ?_
 refine WL.st (R.mv (.t L0)) rfl ?_
 refine WL.cd L0 U0 U0 (fun hg11 => ?_) (fun hg11 => ?_)
 ·
  refine WL.gn rfl L0 rfl ?_
  refine WL.gn rfl L1 rfl ?_
  refine WL.st (R.pkt (.t L2) .c) rfl ?_
  refine WL.nil (QS.next (W.del (.kp (.dr (.dr (.dr (.dr (.dr .rf)))))) (W.ct (.t L0) (W.del (.dr .rf) ?_))))
  have h0_ : k ≤ 7 ∨ k = 9 := by omega
  refine W.draw 4 mixed (by kernel_rfl) ?_
  refine HD.st (R.mv (.t L0)) rfl ?_
  refine HD.st (R.nc (.t L0)) rfl ?_
  refine HD.st (R.fa fo_102_0 (.t L0)) rfl ?_
  refine HD.st (R.lda ag_95 (.t L6) H0 (by repeat constructor)) rfl ?_
  refine HD.nil ?_
  refine WL.call gf_72 .f (.cons (.t L1) (.cons (.t L0) .nil)) (.dr (.kp rfl (.kp rfl (.kp rfl .nil)))) (fun w hb => (mach_inline hbl hol h0_ (hb.imp fun _ _ => trivial))) rfl (fun x19 => ?_)
  refine WL.as (.t L0) (E1 U1) rfl ?_
  refine WL.nil (QS.next (W.del (.dr (.dr (.dr (.dr (.dr .rf))))) (W.seq (W.region ?_))))
  refine WL.st (R.mv (.t L0)) rfl ?_
  refine WL.st (R.mv (.t L6)) rfl ?_
  refine WL.st (R.eqi (.t L0) .c) rfl ?_
  refine WL.st (R.nc (.t L2)) rfl ?_
  refine WL.st (R.fa fo_102_0 (.t L0)) rfl ?_
  refine WL.st (R.fa fo_100_3 (.t L0)) rfl ?_
  refine WL.sto sz_4 (.t L0) (.t L3) rfl rfl rfl C0 (by repeat constructor) ?_
  refine WL.nil (QS.next (W.del (.dr (.dr (.dr (.dr (.dr (.dr .rf)))))) (W.seq (W.region ?_))))
  refine WL.st (R.mv (.t L6)) rfl ?_
  refine WL.as (.t L0) U5 rfl ?_
  refine WL.nil (QS.next (W.del (.dr .rf) (W.ret ?_)))
  have hr : machStep (⟨pa, br, op, tx⟩ : MachS) k wd.length = ((inlineS (⟨pa, br, op, tx⟩ : MachS) k).1, { (inlineS (⟨pa, br, op, tx⟩ : MachS) k).2 with text := decide (k = 1) }) := by rw [machStep]; simp only [if_pos h0_]
  exact QS.fin (.inl rfl) rfl (.tmp L4 .nil) x19 (by rw [hr]; rfl) (.kp (by rw [hr]) (.kp (by rw [hr]) (.kp (by rw [hr]) (.dr .nil)))) (fun _ _ _ => trivial)
 ·
  refine WL.gy rfl L0 (R.mv (.t L8)) rfl ?_
  refine WL.gy rfl L1 (R.eqi (.t L0) .c) rfl ?_
  refine WL.st (R.pkf (.t L2) (.t L0)) rfl ?_
  refine WL.nil (QS.next (W.del (.kp (.dr (.dr (.dr (.dr (.dr .rf)))))) ?_))
  refine W.cd (.t L0) (fun h0 => ?_) (fun h0 => ?_)
  ·
   refine W.del (.dr .rf) ?_
   have h0_ : k ≤ 7 ∨ k = 9 := by omega
   refine W.draw 4 mixed (by kernel_rfl) ?_
   refine HD.st (R.mv (.t L0)) rfl ?_
   refine HD.st (R.nc (.t L0)) rfl ?_
   refine HD.st (R.fa fo_102_0 (.t L0)) rfl ?_
   refine HD.st (R.lda ag_95 (.t L6) H0 (by repeat constructor)) rfl ?_
   refine HD.nil ?_
   refine WL.call gf_72 .f (.cons (.t L1) (.cons (.t L0) .nil)) (.dr (.kp rfl (.kp rfl (.kp rfl .nil)))) (fun w hb => (mach_inline hbl hol h0_ (hb.imp fun _ _ => trivial))) rfl (fun x19 => ?_)
   refine WL.as (.t L0) (E1 U1) rfl ?_
   refine WL.nil (QS.next (W.del (.dr (.dr (.dr (.dr (.dr .rf))))) (W.seq (W.region ?_))))
   refine WL.st (R.mv (.t L0)) rfl ?_
   refine WL.st (R.mv (.t L6)) rfl ?_
   refine WL.st (R.eqi (.t L0) .c) rfl ?_
   refine WL.st (R.nc (.t L2)) rfl ?_
   refine WL.st (R.fa fo_102_0 (.t L0)) rfl ?_
   refine WL.st (R.fa fo_100_3 (.t L0)) rfl ?_
   refine WL.sto sz_4 (.t L0) (.t L3) rfl rfl rfl C0 (by repeat constructor) ?_
   refine WL.nil (QS.next (W.del (.dr (.dr (.dr (.dr (.dr (.dr .rf)))))) (W.seq (W.region ?_))))
   refine WL.st (R.mv (.t L6)) rfl ?_
   refine WL.as (.t L0) U5 rfl ?_
   refine WL.nil (QS.next (W.del (.dr .rf) (W.ret ?_)))
   have hr : machStep (⟨pa, br, op, tx⟩ : MachS) k wd.length = ((inlineS (⟨pa, br, op, tx⟩ : MachS) k).1, { (inlineS (⟨pa, br, op, tx⟩ : MachS) k).2 with text := decide (k = 1) }) := by rw [machStep]; simp only [if_pos h0_]
   exact QS.fin (.inl rfl) rfl (.tmp L4 .nil) x19 (by rw [hr]; rfl) (.kp (by rw [hr]) (.kp (by rw [hr]) (.kp (by rw [hr]) (.dr .nil)))) (fun _ _ _ => trivial)
  ·
   refine W.del (.dr .rf) ?_
   have h0_ : ¬ (k ≤ 7 ∨ k = 9) := by omega
   refine W.draw 4 mixed (by kernel_rfl) ?_
   refine HD.st (R.mv (.t L0)) rfl ?_
   refine HD.st (R.nc (.t L0)) rfl ?_
   refine HD.st (R.fa fo_102_0 (.t L0)) rfl ?_
   refine HD.st (R.lda ag_95 (.t L6) H0 (by repeat constructor)) rfl ?_
   refine HD.nil ?_
   refine WL.call gf_73 .f (.cons (.t L1) (.cons (.t L0) .nil)) (.dr (.kp rfl (.kp rfl (.kp rfl .nil)))) (fun w hb => (mach_block hbl hol hwl h0_ hlv (hb.imp fun _ _ => trivial))) rfl (fun x24 => ?_)
   refine WL.as (.t L0) (E1 U1) rfl ?_
   refine WL.nil (QS.next (W.del (.dr (.dr (.dr (.dr (.dr .rf))))) (W.seq (W.region ?_))))
   refine WL.st (R.mv (.t L0)) rfl ?_
   refine WL.st (R.mv (.t L6)) rfl ?_
   refine WL.st (R.eqi (.t L0) .c) rfl ?_
   refine WL.st (R.nc (.t L2)) rfl ?_
   refine WL.st (R.fa fo_102_0 (.t L0)) rfl ?_
   refine WL.st (R.fa fo_100_3 (.t L0)) rfl ?_
   refine WL.sto sz_4 (.t L0) (.t L3) rfl rfl rfl C0 (by repeat constructor) ?_
   refine WL.nil (QS.next (W.del (.dr (.dr (.dr (.dr (.dr (.dr .rf)))))) (W.seq (W.region ?_))))
   refine WL.st (R.mv (.t L6)) rfl ?_
   refine WL.as (.t L0) U5 rfl ?_
   refine WL.nil (QS.next (W.del (.dr .rf) (W.ret ?_)))
   have hr : machStep (⟨pa, br, op, tx⟩ : MachS) k wd.length = ((blockS (⟨pa, br, op, tx⟩ : MachS) k wd.length).1, { (blockS (⟨pa, br, op, tx⟩ : MachS) k wd.length).2 with text := decide (k = 1) }) := by rw [machStep]; simp only [if_neg h0_]
   exact QS.fin (.inl rfl) rfl (.tmp L4 .nil) x24 (by rw [hr]; rfl) (.kp (by rw [hr]) (.kp (by rw [hr]) (.kp (by rw [hr]) (.dr .nil)))) (fun _ _ _ => trivial)

end Go.Proofs.YtpaecijilnfkhaaDoor
