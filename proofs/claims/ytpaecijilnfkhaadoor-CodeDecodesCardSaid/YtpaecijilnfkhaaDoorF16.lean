/- Contracts: the reference encodes. -/
import Derived.Test.YtpaecijilnfkhaaDoorE16

namespace Go.Proofs.YtpaecijilnfkhaaDoor
open Go Go.Eng Go.RowKit
theorem ref16_Uint {m : Nat} (hm : m < 18446744073709551616) {C : Cx} (hb : Hb C C.w0 [] (fun _ => True)) :
    Sp Tryd.prog 75 [.int .u64 m] C (ι := Option Addr × Nat) (fun x => .slice x.1 (uintS m).length x.2) (fun _ => []) (fun x w => RdB w x.1 (uintS m)) := by
  refine Sp.enter (N := 20) (e := entryEnv [.int .u64 m] 0 4) Tryd.func75 rfl rfl (Nat.le_of_ble_eq_true rfl) (entry_ok (Nat.le_of_ble_eq_true rfl) (Nat.le_of_ble_eq_true rfl)) (entry_nd _ _) hb ?_
  show W _ _ _ _ _ [(0, .int .u64 m), (1, undef), (2, undef), (3, undef)] _ _
  refine W.seq ?_
  refine W.region ?_
  refine WL.as .c U2 rfl ?_
  refine WL.nil ?_
  refine QS.next ?_
  refine W.seq ?_
  refine W.region ?_
  refine WL.as .c U3 rfl ?_
  refine WL.nil ?_
  refine QS.next ?_
  refine W.seq ?_
  refine W.block ?_
  refine W.nilrow 5 1 ?_
  refine W.loop (ι := {p : (Nat × List UInt8) × Option Addr × Nat // p.1.2 ++ uintS p.1.1 = uintS m ∧ p.1.1 < 18446744073709551616}) (fun x => [(0, .int .u64 (x.1.1.1 : Nat)), (2, .slice none 0 0), (3, .slice x.1.2.1 x.1.1.2.length x.1.2.2)]) (fun x => [.row (.slice x.1.2.1 x.1.1.2.length x.1.2.2) 5 1 x.1.1.2.length (bcells x.1.1.2)]) (fun x w => True) (fun x => x.1.1.1) ⟨((m, []), none, 0), rfl, hm⟩ (.kp rfl (.dr (.kp rfl (.kp rfl .nil)))) (.kp rfl .nil) (fun _ h _ => h) ?_
  intro x
  obtain ⟨⟨⟨q, a⟩, A5, c5⟩, hi1, hi2⟩ := x
  dsimp only at hi1 hi2
  have hlen := congrArg List.length hi1
  rw [List.length_append] at hlen
  have hu := uint_10 hm
  show W _ _ _ _ _ [(0, .int .u64 (q : Nat)), (2, .slice none 0 0), (3, .slice A5 a.length c5)] [.row (.slice A5 a.length c5) 5 1 a.length (bcells a)] (fun w => True)
  refine W.seq ?_
  refine W.seq ?_
  refine W.region ?_
  refine WL.st (R.mv (.t L0)) rfl ?_
  refine WL.st (R.geq (.t L0) .c) rfl ?_
  refine WL.nil ?_
  refine QS.next ?_
  refine W.del (.kp (.dr .rf)) ?_
  refine W.cd (.t L0) (fun h0 => ?_) (fun h0 => ?_)
  ·
    refine W.del (.dr .rf) ?_
    refine W.skip ?_
    refine QS.next ?_
    refine W.block ?_
    refine W.seq ?_
    refine W.region ?_
    refine WL.st (R.mv (.t L2)) rfl ?_
    refine WL.st (R.mv (.t L1)) rfl ?_
    refine WL.st (R.remP (.t L0) .c (by omega) (by omega) (rfl)) rfl ?_
    refine WL.st (R.add (.t L0) .c (wu64 (by omega) (by omega))) rfl ?_
    refine WL.st (R.cvi Tryd.underlying113 ti_5 (.t L0) (r := ((q % 128 + 128 : Nat) : Int)) (wu8 (by omega) (by omega))) rfl ?_
    refine WL.bs1 sl_22 z_5 rfl (by decide) (by decide) (.t L0) rfl rfl rfl (fun g11 => ?_)
    refine WL.app' ap_22 (.t L5) (.t L0) (fun _ _ => C1) (fun w hb => Rd.of_blk (hb.has H0) rfl) rfl (by unfold maxLen; omega) (by omega) rfl (fun A12 c12 => ?_)
    refine WL.as (.t L0) U9 rfl ?_
    refine WL.nil ?_
    refine QS.next ?_
    refine W.del (.dr (.dr (.dr (.dr (.dr (.dr (.dr .rf))))))) ?_
    refine W.region ?_
    refine WL.st (R.mv (.t L0)) rfl ?_
    refine WL.st (R.quoP (.t L0) .c (by omega) (by omega) (wu64 (by omega) (by omega))) rfl ?_
    refine WL.as (.t L0) U2 rfl ?_
    refine WL.nil ?_
    refine QS.blkn ?_
    exact QS.at ⟨((q / 128, a ++ [UInt8.ofNat (q % 128 + 128)]), A12, c12), by rw [← hi1, uint_hi (n := q) (by omega)]; simp, by dsimp only; omega⟩ (show q / 128 < q by omega) (.dr (.dr (.kp (congrArg (Value.int .u64) (by dsimp only; omega)) (.kp rfl (.kp (by simp) .nil))))) (.dr (.kp (chunk_bytes (by simp) (by rw [bcells_app]; simp [bcells]; omega)) .nil)) (fun _ h _ => h)
  ·
    refine W.del (.dr .rf) ?_
    refine W.exit ?_
    refine QS.thenx ?_
    refine QS.thenx ?_
    refine QS.blkx ?_
    refine QS.next ?_
    refine W.seq ?_
    refine W.region ?_
    refine WL.st (R.mv (.t L2)) rfl ?_
    refine WL.st (R.mv (.t L1)) rfl ?_
    refine WL.st (R.cvi Tryd.underlying113 ti_5 (.t L0) (wu8 (by omega) (by omega))) rfl ?_
    refine WL.bs1 sl_22 z_5 rfl (by decide) (by decide) (.t L0) rfl rfl rfl (fun g18 => ?_)
    refine WL.app' ap_22 (.t L3) (.t L0) (fun _ _ => C1) (fun w hb => Rd.of_blk (hb.has H0) rfl) rfl (by unfold maxLen; omega) (by omega) rfl (fun A19 c19 => ?_)
    refine WL.as (.t L0) U6 rfl ?_
    refine WL.nil ?_
    refine QS.next ?_
    refine W.del (.dr (.dr (.dr (.dr (.dr .rf))))) ?_
    refine W.ret ?_
    rw [uint_lo (n := q) (by omega)] at hi1
    exact QS.fin (.inl rfl) rfl (.tmp L1 .nil) (A19, c19) (by rw [← hi1]; simp [resVal]) (.dr (.dr .nil)) (fun w h hd => by rw [← hi1]; exact rdB_rowN hd.2.1 (by simp) (by rw [bcells_app]; simp [bcells]; omega))

theorem ref16_instruction {k n : Int} (hk : 1 ≤ k ∧ k ≤ 15) (hn : 0 ≤ n ∧ n ≤ 140737488351232) {C : Cx} (hb : Hb C C.w0 [] (fun _ => True)) :
    Sp Tryd.prog 54 [.int .i64 k, .int .i64 n] C (ι := Option Addr × Nat) (fun x => .slice x.1 (putS k n).length x.2) (fun _ => []) (fun x w => RdB w x.1 (putS k n)) := by
  refine Sp.enter (N := 23) (e := entryEnv [.int .i64 k, .int .i64 n] 0 5) Tryd.func54 rfl rfl (Nat.le_of_ble_eq_true rfl) (entry_ok (Nat.le_of_ble_eq_true rfl) (Nat.le_of_ble_eq_true rfl)) (entry_nd _ _) hb ?_
  show W _ _ _ _ _ [(0, .int .i64 k), (1, .int .i64 n), (2, undef), (3, undef), (4, undef)] _ _
  refine W.seq ?_
  refine W.region ?_
  refine WL.as .c U4 rfl ?_
  refine WL.nil ?_
  refine QS.next ?_
  refine W.seq ?_
  refine W.seq ?_
  refine W.region ?_
  refine WL.st (R.mv (.t L1)) rfl ?_
  refine WL.st (R.lss (.t L0) .c) rfl ?_
  refine WL.nil ?_
  refine QS.next ?_
  refine W.del (.kp (.dr .rf)) ?_
  refine W.cd (.t L0) (fun h0 => ?_) (fun h0 => ?_)
  ·
    refine W.del (.dr .rf) ?_
    refine W.seq ?_
    refine W.region ?_
    refine WL.st (R.mv (.t L0)) rfl ?_
    refine WL.st (R.mul .c (.t L0) (wi (by omega) (by omega))) rfl ?_
    refine WL.st (R.mv (.t L3)) rfl ?_
    refine WL.st (R.add (.t L1) (.t L0) (wi (by omega) (by omega))) rfl ?_
    refine WL.st (R.cvi Tryd.underlying3 ti_5 (.t L0) (wu8 (by omega) (by omega))) rfl ?_
    refine WL.bs1 sl_22 z_5 rfl (by decide) (by decide) (.t L0) rfl rfl rfl (fun g12 => ?_)
    refine WL.toRow (size := 1) (n := 1) C0 rfl (by unfold maxLen; omega) ?_
    refine WL.as (.t L0) U10 rfl ?_
    refine WL.nil ?_
    refine QS.next ?_
    refine W.del (.dr (.dr (.dr (.dr (.dr (.dr .rf)))))) ?_
    refine W.ret ?_
    refine QS.thenr ?_
    have hp := put_lo (k := k) (n := n) (by omega)
    exact QS.fin (.inl rfl) rfl (.tmp L4 .nil) (some ⟨g12, 0, none⟩, 1) (by rw [hp]; rfl) (.dr .nil) (fun w h hd => by rw [hp]; exact rdB_rowN hd.1 rfl (by simp [bcells]; omega))
  ·
    refine W.del (.dr .rf) ?_
    refine W.skip ?_
    refine QS.next ?_
    refine W.seq ?_
    refine W.region ?_
    refine WL.st (R.mv (.t L0)) rfl ?_
    refine WL.st (R.mul .c (.t L0) (wi (by omega) (by omega))) rfl ?_
    refine WL.st (R.add (.t L0) .c (wi (by omega) (by omega))) rfl ?_
    refine WL.st (R.cvi Tryd.underlying3 ti_5 (.t L0) (wu8 (by omega) (by omega))) rfl ?_
    refine WL.bs1 sl_22 z_5 rfl (by decide) (by decide) (.t L0) rfl rfl rfl (fun g17 => ?_)
    refine WL.toRow (size := 1) (n := 1) C0 rfl (by unfold maxLen; omega) ?_
    refine WL.st (R.mv (.t L6)) rfl ?_
    refine WL.st (R.sub (.t L0) .c (wi (by omega) (by omega))) rfl ?_
    obtain ⟨m, hm⟩ : ∃ m : Nat, n - 15 = (m : Int) := ⟨(n - 15).toNat, by omega⟩
    refine WL.st (R.cvi Tryd.underlying3 ti_113 (.t L0) (r := (m : Int)) (by rw [hm]; exact wu64 (by omega) (by omega))) rfl ?_
    refine WL.call gf_75 .f (.cons (.t L0) .nil) (.dr .nil) (fun w hb => (ref16_Uint (m := m) (by omega) (hb.imp fun _ _ => trivial))) rfl (fun x21 => ?_)
    have hul := uint_10 (n := m) (by omega)
    refine WL.app' ap_22 (.t L4) (.t L0) (fun _ _ => C0) (fun w hb => hb.get.2) (bcells_one _) (by unfold maxLen; omega) (by omega) rfl (fun A22 c22 => ?_)
    refine WL.as (.t L0) U14 rfl ?_
    refine WL.nil ?_
    refine QS.next ?_
    refine W.del (.dr (.dr (.dr (.dr (.dr (.dr (.dr (.dr (.dr (.dr .rf)))))))))) ?_
    refine W.ret ?_
    have hp : putS k n = UInt8.ofNat (k * 16 + 15).toNat :: uintS m := by rw [put_hi (by omega), show (n - 15).toNat = m by omega]
    exact QS.fin (.inl rfl) rfl (.tmp L4 .nil) (A22, c22) (by rw [hp]; simp [resVal]; omega) (.dr .nil) (fun w h hd => by rw [hp]; exact rdB_rowN hd.1 (by simp; omega) (by simp [bcells]; omega))

theorem ref16_long {A : Option Addr} {M : List (OpS × Option Addr × Nat)} {c : Nat} (hg : ∀ q ∈ M, OpGood q.1) (hM : M.length ≤ 140737488351232) {C : Cx} (hb : Hb C C.w0 [] (fun w => RdF ocell 4 w A M ∧ ∀ q ∈ M, RdI w q.2.1 q.1.widths)) :
    Ret Tryd.prog 52 [.slice A M.length c] C (.bool (longF (M.map (·.1)) 0)) := by
  refine Sp.enter (N := 27) (e := entryEnv [.slice A M.length c] 0 5) Tryd.func52 rfl rfl (Nat.le_of_ble_eq_true rfl) (entry_ok (Nat.le_of_ble_eq_true rfl) (Nat.le_of_ble_eq_true rfl)) (entry_nd _ _) hb ?_
  show W _ _ _ _ _ [(0, .slice A M.length c), (1, undef), (2, undef), (3, undef), (4, undef)] _ _
  refine W.seq ?_
  refine W.region ?_
  refine WL.as .c U2 rfl ?_
  refine WL.nil ?_
  refine QS.next ?_
  refine W.seq ?_
  refine W.region ?_
  refine WL.as .c U3 rfl ?_
  refine WL.nil ?_
  refine QS.next ?_
  refine W.seq ?_
  refine W.seq ?_
  refine W.region ?_
  refine WL.as .c U4 rfl ?_
  refine WL.nil ?_
  refine QS.next ?_
  refine W.block ?_
  refine W.loop (ι := {p : Nat × Nat // p.1 ≤ M.length ∧ longF ((M.map (·.1)).drop p.1) p.2 = longF (M.map (·.1)) 0 ∧ p.2 ≤ 16384}) (fun x => [(0, .slice A M.length c), (2, .bool false), (3, .int .i64 (x.1.2 : Nat)), (4, .int .i64 (x.1.1 : Nat))]) (fun x => []) (fun x w => RdF ocell 4 w A M ∧ (∀ q ∈ M, RdI w q.2.1 q.1.widths)) (fun x => M.length - x.1.1) ⟨(0, 0), Nat.zero_le _, rfl, by omega⟩ (.kp rfl (.dr (.kp rfl (.kp rfl (.kp rfl .nil))))) .nil (fun w h hd => ⟨h.1, h.2⟩) ?_
  intro x
  obtain ⟨⟨j, n⟩, hi1, hi2, hi3⟩ := x
  dsimp only at hi1 hi2 hi3
  show W _ _ _ _ _ [(0, .slice A M.length c), (2, .bool false), (3, .int .i64 (n : Nat)), (4, .int .i64 (j : Nat))] [] (fun w => RdF ocell 4 w A M ∧ (∀ q ∈ M, RdI w q.2.1 q.1.widths))
  refine W.seq ?_
  refine W.seq ?_
  refine W.region ?_
  refine WL.st (R.mv (.t L3)) rfl ?_
  refine WL.st (R.mv (.t L1)) rfl ?_
  refine WL.st (R.lenl sl_47 (.t L0)) rfl ?_
  refine WL.st (R.lss (.t L2) (.t L0)) rfl ?_
  refine WL.nil ?_
  refine QS.next ?_
  refine W.del (.kp (.dr (.dr (.dr .rf)))) ?_
  refine W.cd (.t L0) (fun h0 => ?_) (fun h0 => ?_)
  ·
    refine W.del (.dr .rf) ?_
    refine W.skip ?_
    refine QS.next ?_
    refine W.seq ?_
    refine W.block ?_
    refine W.seq ?_
    refine W.seq ?_
    refine W.region ?_
    refine WL.st (R.mv (.t L0)) rfl ?_
    refine WL.st (R.mv (.t L4)) rfl ?_
    obtain ⟨x13, hx13⟩ : ∃ x, (M)[j]? = some x := ⟨_, List.getElem?_eq_getElem (by omega)⟩
    have hL13 : (M.map (·.1))[j]? = some x13.1 := by simp [hx13]
    have hgd := hg x13 (List.mem_of_getElem? hx13)
    refine WL.st (R.ixF sl_47 (.t L1) rfl (.t L0) (l := M) (j := j) rfl (List.getElem?_eq_some_iff.1 hx13).1 (by decide) (fun w hb => hb.get.1)) rfl ?_
    refine WL.st (R.fapk fo_95_0 (.t L0) (j := j * 4) (k := 0) (k2 := 0) rfl (fun w hb => RdF.ne (hb.get.1) (List.getElem?_eq_some_iff.1 hx13).1 (by decide))) rfl ?_
    refine WL.st (R.ldp sc_57 (.t L0) (fun w hb => RdF.cell (k := 0) (hb.get.1) hx13 rfl)) rfl ?_
    refine WL.st (R.eqi (.t L0) .c) rfl ?_
    refine WL.nil ?_
    refine QS.next ?_
    refine W.del (.kp (.dr (.dr (.dr (.dr (.dr .rf)))))) ?_
    refine W.cd (.t L0) (fun h1 => ?_) (fun h1 => ?_)
    ·
      have htx : txt x13.1 = x13.1.text := txt_1 h1
      have hgt := hgd.tx
      refine W.del (.dr .rf) ?_
      refine W.region ?_
      refine WL.st (R.mv (.t L2)) rfl ?_
      refine WL.st (R.mv (.t L1)) rfl ?_
      refine WL.st (R.mv (.t L5)) rfl ?_
      obtain ⟨x20, hx20⟩ : ∃ x, (M)[j]? = some x := ⟨_, List.getElem?_eq_getElem (by omega)⟩
      have hxe : x13 = x20 := by rw [hx13] at hx20; injection hx20
      subst hxe
      refine WL.st (R.ixF sl_47 (.t L1) rfl (.t L0) (l := M) (j := j) rfl (List.getElem?_eq_some_iff.1 hx20).1 (by decide) (fun w hb => hb.get.1)) rfl ?_
      refine WL.st (R.fapk fo_95_2 (.t L0) (j := j * 4) (k := 0) (k2 := 2) rfl (fun w hb => RdF.ne (hb.get.1) (List.getElem?_eq_some_iff.1 hx20).1 (by decide))) rfl ?_
      refine WL.st (R.ldp sc_9 (.t L0) (fun w hb => RdF.cell (k := 2) (hb.get.1) hx20 rfl)) rfl ?_
      refine WL.st (R.lens st_9 (.t L0)) rfl ?_
      refine WL.st (R.add (.t L6) (.t L0) (wi (by omega) (by omega))) rfl ?_
      refine WL.as (.t L0) U10 rfl ?_
      refine WL.nil ?_
      refine QS.next ?_
      refine W.del (.dr (.dr (.dr (.dr (.dr (.dr (.dr (.dr .rf)))))))) ?_
      refine W.seq ?_
      refine W.region ?_
      refine WL.st (R.mv (.t L2)) rfl ?_
      refine WL.st (R.gtr (.t L0) .c) rfl ?_
      refine WL.nil ?_
      refine QS.next ?_
      refine W.del (.kp (.dr .rf)) ?_
      refine W.cd (.t L0) (fun h2 => ?_) (fun h2 => ?_)
      ·
        refine W.del (.dr .rf) ?_
        refine W.seq ?_
        refine W.region ?_
        refine WL.as .c U1 rfl ?_
        refine WL.nil ?_
        refine QS.next ?_
        refine W.ret ?_
        refine QS.blkr ?_
        refine QS.thenr ?_
        refine QS.thenr ?_
        refine QS.blkr ?_
        refine QS.thenr ?_
        exact QS.fin (.inl rfl) rfl (.tmp L1 .nil) () (by rw [long_hit hi2 hL13 (by rw [htx]; first | omega | (simp; omega))]; rfl) .nil (fun _ _ _ => trivial)
      ·
        refine W.del (.dr .rf) ?_
        refine W.skip ?_
        refine QS.blkn ?_
        refine QS.next ?_
        refine W.region ?_
        refine WL.st (R.mv (.t L3)) rfl ?_
        refine WL.st (R.add (.t L0) .c (wi (by omega) (by omega))) rfl ?_
        refine WL.as (.t L0) U5 rfl ?_
        refine WL.nil ?_
        exact QS.at ⟨(j + 1, n + (txt x13.1).length), by dsimp only; omega, long_next hi2 hL13 (by rw [htx]; first | omega | (simp; omega)), by dsimp only; rw [htx]; first | omega | (simp; omega)⟩ (show M.length - (j + 1) < M.length - j by omega) (.dr (.dr (.kp rfl (.kp rfl (.kp (by simp [htx]) (.kp rfl .nil)))))) .nil (fun w h hd => ⟨h.1, h.2⟩)
    ·
      have htx : txt x13.1 = [] := txt_0 h1
      refine W.del (.dr .rf) ?_
      refine W.skip ?_
      refine QS.next ?_
      refine W.seq ?_
      refine W.region ?_
      refine WL.st (R.mv (.t L2)) rfl ?_
      refine WL.st (R.gtr (.t L0) .c) rfl ?_
      refine WL.nil ?_
      refine QS.next ?_
      refine W.del (.kp (.dr .rf)) ?_
      refine W.cd (.t L0) (fun h2 => ?_) (fun h2 => ?_)
      ·
        refine W.del (.dr .rf) ?_
        refine W.seq ?_
        refine W.region ?_
        refine WL.as .c U1 rfl ?_
        refine WL.nil ?_
        refine QS.next ?_
        refine W.ret ?_
        refine QS.blkr ?_
        refine QS.thenr ?_
        refine QS.thenr ?_
        refine QS.blkr ?_
        refine QS.thenr ?_
        exact QS.fin (.inl rfl) rfl (.tmp L1 .nil) () (by rw [long_hit hi2 hL13 (by rw [htx]; first | omega | (simp; omega))]; rfl) .nil (fun _ _ _ => trivial)
      ·
        refine W.del (.dr .rf) ?_
        refine W.skip ?_
        refine QS.blkn ?_
        refine QS.next ?_
        refine W.region ?_
        refine WL.st (R.mv (.t L3)) rfl ?_
        refine WL.st (R.add (.t L0) .c (wi (by omega) (by omega))) rfl ?_
        refine WL.as (.t L0) U5 rfl ?_
        refine WL.nil ?_
        exact QS.at ⟨(j + 1, n + (txt x13.1).length), by dsimp only; omega, long_next hi2 hL13 (by rw [htx]; first | omega | (simp; omega)), by dsimp only; rw [htx]; first | omega | (simp; omega)⟩ (show M.length - (j + 1) < M.length - j by omega) (.dr (.dr (.kp rfl (.kp rfl (.kp (by simp [htx]) (.kp rfl .nil)))))) .nil (fun w h hd => ⟨h.1, h.2⟩)
  ·
    refine W.del (.dr .rf) ?_
    refine W.exit ?_
    refine QS.thenx ?_
    refine QS.thenx ?_
    refine QS.blkx ?_
    refine QS.next ?_
    refine W.seq ?_
    refine W.region ?_
    refine WL.as .c U1 rfl ?_
    refine WL.nil ?_
    refine QS.next ?_
    refine W.ret ?_
    exact QS.fin (.inl rfl) rfl (.tmp L1 .nil) () (by rw [long_end hi2 (by simp; omega)]; rfl) .nil (fun _ _ _ => trivial)

set_option maxHeartbeats 1000000 in
theorem ref16_operand {A : Option Addr} {c : Nat} {kd n : Int} {tx : List UInt8} {wd : List Int} (ht : tx.length ≤ 140737488351232) (hw : wd.length ≤ 140737488351232) (hn : -9223372036854775808 ≤ n ∧ n ≤ 9223372036854775807) {C : Cx} (hb : Hb C C.w0 [] (fun w => RdI w A wd)) :
    Sp Tryd.prog 53 [.agg #[.int .i64 kd, .int .i64 n, str tx, .slice A wd.length c]] C (ι := {v : Int // oE ⟨kd, n, tx, wd⟩ = 0 → v = opN ⟨kd, n, tx, wd⟩}) (fun x => .tuple #[.int .i64 x.1, .int .i64 (oE ⟨kd, n, tx, wd⟩)]) (fun _ => []) (fun _ _ => True) := by
  refine Sp.enter (N := 89) (e := entryEnv [.agg #[.int .i64 kd, .int .i64 n, str tx, .slice A wd.length c]] 0 5) Tryd.func53 rfl rfl (Nat.le_of_ble_eq_true rfl) (entry_ok (Nat.le_of_ble_eq_true rfl) (Nat.le_of_ble_eq_true rfl)) (entry_nd _ _) hb ?_
  show W _ _ _ _ _ [(0, .agg #[.int .i64 kd, .int .i64 n, str tx, .slice A wd.length c]), (1, undef), (2, undef), (3, undef), (4, undef)] _ _
  refine W.seq ?_
  refine W.region ?_
  refine WL.boxu (.t L0) rfl (fun _ => U1) rfl (fun g1 => ?_)
  refine WL.as .c U2 rfl ?_
  refine WL.as .c U3 rfl ?_
  refine WL.nil ?_
  refine QS.next ?_
  refine W.seq ?_
  refine W.seq ?_
  refine W.region ?_
  refine WL.st (R.fa fo_95_0 (.t L1)) rfl ?_
  refine WL.st (R.ld sc_57 (.t L0) H0 rfl) rfl ?_
  refine WL.nil ?_
  refine QS.next ?_
  refine W.del (.kp (.dr .rf)) ?_
  refine W.block ?_
  refine W.seq ?_
  refine W.region ?_
  refine WL.st (R.eqi (.t L0) .c) rfl ?_
  refine WL.st (R.as (.t L0)) rfl ?_
  refine WL.nil ?_
  refine QS.next ?_
  refine W.del (.kp (.dr .rf)) ?_
  refine W.cd (.t L0) (fun h0 => ?_) (fun h0 => ?_)
  ·
    refine W.del (.dr (.dr .rf)) ?_
    refine W.seq ?_
    refine W.seq ?_
    refine W.region ?_
    refine WL.st (R.fa fo_95_2 (.t L1)) rfl ?_
    refine WL.st (R.ld sc_9 (.t L0) H0 rfl) rfl ?_
    refine WL.st (R.eqs (.t L0) .c) rfl ?_
    refine WL.nil ?_
    refine QS.next ?_
    refine W.del (.kp (.dr (.dr .rf))) ?_
    refine W.cd (.t L0) (fun h1 => ?_) (fun h1 => ?_)
    ·
      refine W.del (.dr .rf) ?_
      refine W.seq ?_
      refine W.region ?_
      refine WL.as .c U2 rfl ?_
      refine WL.as .c U3 rfl ?_
      refine WL.nil ?_
      refine QS.next ?_
      refine W.ret ?_
      refine QS.thenr ?_
      refine QS.blkr ?_
      refine QS.thenr ?_
      have hk : ¬ (kd < 1 ∨ 14 < kd) := by omega
      obtain ⟨e1, e2⟩ := ok_text (n := n) (tx := tx) (wd := wd) (kd := kd) (by omega)
      have hb : opOk ⟨kd, n, tx, wd⟩ = false := by rw [e1]; first | exact decide_eq_false (by omega) | exact decide_eq_false (by assumption) | exact decide_eq_false (by simp [*])
      exact QS.fin (.inl rfl) rfl (.tmp L2 (.tmp L3 .nil)) ⟨0, fun h => by rw [oE_bad hk hb] at h; cases h⟩ (pair_int (oE_bad hk hb).symm) (.dr .nil) (fun _ _ _ => trivial)
    ·
      refine W.del (.dr .rf) ?_
      refine W.skip ?_
      refine QS.next ?_
      refine W.seq ?_
      refine W.region ?_
      refine WL.st (R.fa fo_95_2 (.t L1)) rfl ?_
      refine WL.st (R.ld sc_9 (.t L0) H0 rfl) rfl ?_
      refine WL.st (R.lens st_9 (.t L0)) rfl ?_
      refine WL.st (R.sub (.t L0) .c (wi (by omega) (by omega))) rfl ?_
      refine WL.as (.t L0) U6 rfl ?_
      refine WL.as .c U7 rfl ?_
      refine WL.nil ?_
      refine QS.next ?_
      refine W.del (.dr (.dr (.dr (.dr .rf)))) ?_
      refine W.ret ?_
      refine QS.blkr ?_
      refine QS.thenr ?_
      have hk : ¬ (kd < 1 ∨ 14 < kd) := by omega
      obtain ⟨e1, e2⟩ := ok_text (n := n) (tx := tx) (wd := wd) (kd := kd) (by omega)
      have hb : opOk ⟨kd, n, tx, wd⟩ = true := by rw [e1]; first | exact decide_eq_true (by omega) | exact decide_eq_true (by assumption) | exact decide_eq_true (by simp [*])
      exact QS.fin (.inl rfl) rfl (.tmp L2 (.tmp L3 .nil)) ⟨_, fun _ => e2.symm⟩ (pair_int (oE_ok hk hb).symm) (.dr .nil) (fun _ _ _ => trivial)
  ·
    refine W.del (.dr .rf) ?_
    refine W.seq ?_
    refine W.seq ?_
    refine W.region ?_
    refine WL.st (R.eqi (.t L0) .c) rfl ?_
    refine WL.st (R.as (.t L0)) rfl ?_
    refine WL.nil ?_
    refine QS.next ?_
    refine W.del (.kp (.dr .rf)) ?_
    refine W.cd (.t L0) (fun h2 => ?_) (fun h2 => ?_)
    ·
      refine W.skip ?_
      refine QS.next ?_
      refine W.cdt (.t L0) h2 ?_
      refine W.del (.dr (.dr .rf)) ?_
      refine W.seq ?_
      refine W.seq ?_
      refine W.region ?_
      refine WL.st (R.fa fo_95_1 (.t L1)) rfl ?_
      refine WL.st (R.ld sc_3 (.t L0) H0 rfl) rfl ?_
      refine WL.st (R.lss (.t L0) .c) rfl ?_
      refine WL.st (R.mv (.t L0)) rfl ?_
      refine WL.cd L0 U0 U0 (fun hg24 => ?_) (fun hg24 => ?_)
      ·
        refine WL.gn rfl L0 rfl ?_
        refine WL.gn rfl L1 rfl ?_
        refine WL.gn rfl L2 rfl ?_
        refine WL.st (R.pkt (.t L3) .c) rfl ?_
        refine WL.nil ?_
        refine QS.next ?_
        refine W.del (.kp (.dr (.dr (.dr (.dr (.dr (.dr (.dr .rf)))))))) ?_
        refine W.ct (.t L0) ?_
        refine W.del (.dr .rf) ?_
        refine W.seq ?_
        refine W.region ?_
        refine WL.as .c U2 rfl ?_
        refine WL.as .c U3 rfl ?_
        refine WL.nil ?_
        refine QS.next ?_
        refine W.ret ?_
        refine QS.thenr ?_
        refine QS.blkr ?_
        refine QS.thenr ?_
        have hk : ¬ (kd < 1 ∨ 14 < kd) := by omega
        obtain ⟨e1, e2⟩ := ok_num (n := n) (tx := tx) (wd := wd) (kd := kd) (by omega)
        have hb : opOk ⟨kd, n, tx, wd⟩ = false := by rw [e1]; first | exact decide_eq_false (by omega) | exact decide_eq_false (by assumption) | exact decide_eq_false (by simp [*])
        exact QS.fin (.inl rfl) rfl (.tmp L2 (.tmp L3 .nil)) ⟨0, fun h => by rw [oE_bad hk hb] at h; cases h⟩ (pair_int (oE_bad hk hb).symm) (.dr .nil) (fun _ _ _ => trivial)
      ·
        refine WL.gy rfl L0 (R.fa fo_95_1 (.t L5)) rfl ?_
        refine WL.gy rfl L1 (R.ld sc_3 (.t L0) H0 rfl) rfl ?_
        refine WL.gy rfl L2 (R.gtr (.t L0) .c) rfl ?_
        refine WL.st (R.pkf (.t L3) (.t L0)) rfl ?_
        refine WL.nil ?_
        refine QS.next ?_
        refine W.del (.kp (.dr (.dr (.dr (.dr (.dr (.dr (.dr .rf)))))))) ?_
        refine W.cd (.t L0) (fun h6 => ?_) (fun h6 => ?_)
        ·
          refine W.del (.dr .rf) ?_
          refine W.seq ?_
          refine W.region ?_
          refine WL.as .c U2 rfl ?_
          refine WL.as .c U3 rfl ?_
          refine WL.nil ?_
          refine QS.next ?_
          refine W.ret ?_
          refine QS.thenr ?_
          refine QS.blkr ?_
          refine QS.thenr ?_
          have hk : ¬ (kd < 1 ∨ 14 < kd) := by omega
          obtain ⟨e1, e2⟩ := ok_num (n := n) (tx := tx) (wd := wd) (kd := kd) (by omega)
          have hb : opOk ⟨kd, n, tx, wd⟩ = false := by rw [e1]; first | exact decide_eq_false (by omega) | exact decide_eq_false (by assumption) | exact decide_eq_false (by simp [*])
          exact QS.fin (.inl rfl) rfl (.tmp L2 (.tmp L3 .nil)) ⟨0, fun h => by rw [oE_bad hk hb] at h; cases h⟩ (pair_int (oE_bad hk hb).symm) (.dr .nil) (fun _ _ _ => trivial)
        ·
          refine W.del (.dr .rf) ?_
          refine W.skip ?_
          refine QS.next ?_
          refine W.seq ?_
          refine W.region ?_
          refine WL.st (R.fa fo_95_1 (.t L1)) rfl ?_
          refine WL.st (R.ld sc_3 (.t L0) H0 rfl) rfl ?_
          refine WL.as (.t L0) U4 rfl ?_
          refine WL.as .c U5 rfl ?_
          refine WL.nil ?_
          refine QS.next ?_
          refine W.del (.dr (.dr .rf)) ?_
          refine W.ret ?_
          refine QS.blkr ?_
          refine QS.thenr ?_
          have hk : ¬ (kd < 1 ∨ 14 < kd) := by omega
          obtain ⟨e1, e2⟩ := ok_num (n := n) (tx := tx) (wd := wd) (kd := kd) (by omega)
          have hb : opOk ⟨kd, n, tx, wd⟩ = true := by rw [e1]; first | exact decide_eq_true (by omega) | exact decide_eq_true (by assumption) | exact decide_eq_true (by simp [*])
          exact QS.fin (.inl rfl) rfl (.tmp L2 (.tmp L3 .nil)) ⟨_, fun _ => e2.symm⟩ (pair_int (oE_ok hk hb).symm) (.dr .nil) (fun _ _ _ => trivial)
    ·
      refine W.seq ?_
      refine W.region ?_
      refine WL.st (R.eqi (.t L1) .c) rfl ?_
      refine WL.as (.t L0) U1 rfl ?_
      refine WL.nil ?_
      refine QS.next ?_
      refine W.del (.dr .rf) ?_
      refine W.cd (.t L0) (fun h3 => ?_) (fun h3 => ?_)
      ·
        refine W.skip ?_
        refine QS.next ?_
        refine W.cdt (.t L0) h3 ?_
        refine W.del (.dr (.dr .rf)) ?_
        refine W.seq ?_
        refine W.seq ?_
        refine W.region ?_
        refine WL.st (R.fa fo_95_1 (.t L1)) rfl ?_
        refine WL.st (R.ld sc_3 (.t L0) H0 rfl) rfl ?_
        refine WL.st (R.lss (.t L0) .c) rfl ?_
        refine WL.st (R.mv (.t L0)) rfl ?_
        refine WL.cd L0 U0 U0 (fun hg24 => ?_) (fun hg24 => ?_)
        ·
          refine WL.gn rfl L0 rfl ?_
          refine WL.gn rfl L1 rfl ?_
          refine WL.gn rfl L2 rfl ?_
          refine WL.st (R.pkt (.t L3) .c) rfl ?_
          refine WL.nil ?_
          refine QS.next ?_
          refine W.del (.kp (.dr (.dr (.dr (.dr (.dr (.dr (.dr .rf)))))))) ?_
          refine W.ct (.t L0) ?_
          refine W.del (.dr .rf) ?_
          refine W.seq ?_
          refine W.region ?_
          refine WL.as .c U2 rfl ?_
          refine WL.as .c U3 rfl ?_
          refine WL.nil ?_
          refine QS.next ?_
          refine W.ret ?_
          refine QS.thenr ?_
          refine QS.blkr ?_
          refine QS.thenr ?_
          have hk : ¬ (kd < 1 ∨ 14 < kd) := by omega
          obtain ⟨e1, e2⟩ := ok_num (n := n) (tx := tx) (wd := wd) (kd := kd) (by omega)
          have hb : opOk ⟨kd, n, tx, wd⟩ = false := by rw [e1]; first | exact decide_eq_false (by omega) | exact decide_eq_false (by assumption) | exact decide_eq_false (by simp [*])
          exact QS.fin (.inl rfl) rfl (.tmp L2 (.tmp L3 .nil)) ⟨0, fun h => by rw [oE_bad hk hb] at h; cases h⟩ (pair_int (oE_bad hk hb).symm) (.dr .nil) (fun _ _ _ => trivial)
        ·
          refine WL.gy rfl L0 (R.fa fo_95_1 (.t L5)) rfl ?_
          refine WL.gy rfl L1 (R.ld sc_3 (.t L0) H0 rfl) rfl ?_
          refine WL.gy rfl L2 (R.gtr (.t L0) .c) rfl ?_
          refine WL.st (R.pkf (.t L3) (.t L0)) rfl ?_
          refine WL.nil ?_
          refine QS.next ?_
          refine W.del (.kp (.dr (.dr (.dr (.dr (.dr (.dr (.dr .rf)))))))) ?_
          refine W.cd (.t L0) (fun h6 => ?_) (fun h6 => ?_)
          ·
            refine W.del (.dr .rf) ?_
            refine W.seq ?_
            refine W.region ?_
            refine WL.as .c U2 rfl ?_
            refine WL.as .c U3 rfl ?_
            refine WL.nil ?_
            refine QS.next ?_
            refine W.ret ?_
            refine QS.thenr ?_
            refine QS.blkr ?_
            refine QS.thenr ?_
            have hk : ¬ (kd < 1 ∨ 14 < kd) := by omega
            obtain ⟨e1, e2⟩ := ok_num (n := n) (tx := tx) (wd := wd) (kd := kd) (by omega)
            have hb : opOk ⟨kd, n, tx, wd⟩ = false := by rw [e1]; first | exact decide_eq_false (by omega) | exact decide_eq_false (by assumption) | exact decide_eq_false (by simp [*])
            exact QS.fin (.inl rfl) rfl (.tmp L2 (.tmp L3 .nil)) ⟨0, fun h => by rw [oE_bad hk hb] at h; cases h⟩ (pair_int (oE_bad hk hb).symm) (.dr .nil) (fun _ _ _ => trivial)
          ·
            refine W.del (.dr .rf) ?_
            refine W.skip ?_
            refine QS.next ?_
            refine W.seq ?_
            refine W.region ?_
            refine WL.st (R.fa fo_95_1 (.t L1)) rfl ?_
            refine WL.st (R.ld sc_3 (.t L0) H0 rfl) rfl ?_
            refine WL.as (.t L0) U4 rfl ?_
            refine WL.as .c U5 rfl ?_
            refine WL.nil ?_
            refine QS.next ?_
            refine W.del (.dr (.dr .rf)) ?_
            refine W.ret ?_
            refine QS.blkr ?_
            refine QS.thenr ?_
            have hk : ¬ (kd < 1 ∨ 14 < kd) := by omega
            obtain ⟨e1, e2⟩ := ok_num (n := n) (tx := tx) (wd := wd) (kd := kd) (by omega)
            have hb : opOk ⟨kd, n, tx, wd⟩ = true := by rw [e1]; first | exact decide_eq_true (by omega) | exact decide_eq_true (by assumption) | exact decide_eq_true (by simp [*])
            exact QS.fin (.inl rfl) rfl (.tmp L2 (.tmp L3 .nil)) ⟨_, fun _ => e2.symm⟩ (pair_int (oE_ok hk hb).symm) (.dr .nil) (fun _ _ _ => trivial)
      ·
        refine W.seq ?_
        refine W.region ?_
        refine WL.st (R.eqi (.t L1) .c) rfl ?_
        refine WL.as (.t L0) U1 rfl ?_
        refine WL.nil ?_
        refine QS.next ?_
        refine W.del (.dr .rf) ?_
        refine W.cd (.t L0) (fun h4 => ?_) (fun h4 => ?_)
        ·
          refine W.skip ?_
          refine QS.next ?_
          refine W.cdt (.t L0) h4 ?_
          refine W.del (.dr (.dr .rf)) ?_
          refine W.seq ?_
          refine W.seq ?_
          refine W.region ?_
          refine WL.st (R.fa fo_95_1 (.t L1)) rfl ?_
          refine WL.st (R.ld sc_3 (.t L0) H0 rfl) rfl ?_
          refine WL.st (R.lss (.t L0) .c) rfl ?_
          refine WL.st (R.mv (.t L0)) rfl ?_
          refine WL.cd L0 U0 U0 (fun hg24 => ?_) (fun hg24 => ?_)
          ·
            refine WL.gn rfl L0 rfl ?_
            refine WL.gn rfl L1 rfl ?_
            refine WL.gn rfl L2 rfl ?_
            refine WL.st (R.pkt (.t L3) .c) rfl ?_
            refine WL.nil ?_
            refine QS.next ?_
            refine W.del (.kp (.dr (.dr (.dr (.dr (.dr (.dr (.dr .rf)))))))) ?_
            refine W.ct (.t L0) ?_
            refine W.del (.dr .rf) ?_
            refine W.seq ?_
            refine W.region ?_
            refine WL.as .c U2 rfl ?_
            refine WL.as .c U3 rfl ?_
            refine WL.nil ?_
            refine QS.next ?_
            refine W.ret ?_
            refine QS.thenr ?_
            refine QS.blkr ?_
            refine QS.thenr ?_
            have hk : ¬ (kd < 1 ∨ 14 < kd) := by omega
            obtain ⟨e1, e2⟩ := ok_num (n := n) (tx := tx) (wd := wd) (kd := kd) (by omega)
            have hb : opOk ⟨kd, n, tx, wd⟩ = false := by rw [e1]; first | exact decide_eq_false (by omega) | exact decide_eq_false (by assumption) | exact decide_eq_false (by simp [*])
            exact QS.fin (.inl rfl) rfl (.tmp L2 (.tmp L3 .nil)) ⟨0, fun h => by rw [oE_bad hk hb] at h; cases h⟩ (pair_int (oE_bad hk hb).symm) (.dr .nil) (fun _ _ _ => trivial)
          ·
            refine WL.gy rfl L0 (R.fa fo_95_1 (.t L5)) rfl ?_
            refine WL.gy rfl L1 (R.ld sc_3 (.t L0) H0 rfl) rfl ?_
            refine WL.gy rfl L2 (R.gtr (.t L0) .c) rfl ?_
            refine WL.st (R.pkf (.t L3) (.t L0)) rfl ?_
            refine WL.nil ?_
            refine QS.next ?_
            refine W.del (.kp (.dr (.dr (.dr (.dr (.dr (.dr (.dr .rf)))))))) ?_
            refine W.cd (.t L0) (fun h6 => ?_) (fun h6 => ?_)
            ·
              refine W.del (.dr .rf) ?_
              refine W.seq ?_
              refine W.region ?_
              refine WL.as .c U2 rfl ?_
              refine WL.as .c U3 rfl ?_
              refine WL.nil ?_
              refine QS.next ?_
              refine W.ret ?_
              refine QS.thenr ?_
              refine QS.blkr ?_
              refine QS.thenr ?_
              have hk : ¬ (kd < 1 ∨ 14 < kd) := by omega
              obtain ⟨e1, e2⟩ := ok_num (n := n) (tx := tx) (wd := wd) (kd := kd) (by omega)
              have hb : opOk ⟨kd, n, tx, wd⟩ = false := by rw [e1]; first | exact decide_eq_false (by omega) | exact decide_eq_false (by assumption) | exact decide_eq_false (by simp [*])
              exact QS.fin (.inl rfl) rfl (.tmp L2 (.tmp L3 .nil)) ⟨0, fun h => by rw [oE_bad hk hb] at h; cases h⟩ (pair_int (oE_bad hk hb).symm) (.dr .nil) (fun _ _ _ => trivial)
            ·
              refine W.del (.dr .rf) ?_
              refine W.skip ?_
              refine QS.next ?_
              refine W.seq ?_
              refine W.region ?_
              refine WL.st (R.fa fo_95_1 (.t L1)) rfl ?_
              refine WL.st (R.ld sc_3 (.t L0) H0 rfl) rfl ?_
              refine WL.as (.t L0) U4 rfl ?_
              refine WL.as .c U5 rfl ?_
              refine WL.nil ?_
              refine QS.next ?_
              refine W.del (.dr (.dr .rf)) ?_
              refine W.ret ?_
              refine QS.blkr ?_
              refine QS.thenr ?_
              have hk : ¬ (kd < 1 ∨ 14 < kd) := by omega
              obtain ⟨e1, e2⟩ := ok_num (n := n) (tx := tx) (wd := wd) (kd := kd) (by omega)
              have hb : opOk ⟨kd, n, tx, wd⟩ = true := by rw [e1]; first | exact decide_eq_true (by omega) | exact decide_eq_true (by assumption) | exact decide_eq_true (by simp [*])
              exact QS.fin (.inl rfl) rfl (.tmp L2 (.tmp L3 .nil)) ⟨_, fun _ => e2.symm⟩ (pair_int (oE_ok hk hb).symm) (.dr .nil) (fun _ _ _ => trivial)
        ·
          refine W.region ?_
          refine WL.st (R.eqi (.t L1) .c) rfl ?_
          refine WL.as (.t L0) U1 rfl ?_
          refine WL.nil ?_
          refine QS.next ?_
          refine W.del (.dr .rf) ?_
          refine W.cd (.t L0) (fun h5 => ?_) (fun h5 => ?_)
          ·
            refine W.del (.dr (.dr .rf)) ?_
            refine W.seq ?_
            refine W.seq ?_
            refine W.region ?_
            refine WL.st (R.fa fo_95_1 (.t L1)) rfl ?_
            refine WL.st (R.ld sc_3 (.t L0) H0 rfl) rfl ?_
            refine WL.st (R.lss (.t L0) .c) rfl ?_
            refine WL.st (R.mv (.t L0)) rfl ?_
            refine WL.cd L0 U0 U0 (fun hg24 => ?_) (fun hg24 => ?_)
            ·
              refine WL.gn rfl L0 rfl ?_
              refine WL.gn rfl L1 rfl ?_
              refine WL.gn rfl L2 rfl ?_
              refine WL.st (R.pkt (.t L3) .c) rfl ?_
              refine WL.nil ?_
              refine QS.next ?_
              refine W.del (.kp (.dr (.dr (.dr (.dr (.dr (.dr (.dr .rf)))))))) ?_
              refine W.ct (.t L0) ?_
              refine W.del (.dr .rf) ?_
              refine W.seq ?_
              refine W.region ?_
              refine WL.as .c U2 rfl ?_
              refine WL.as .c U3 rfl ?_
              refine WL.nil ?_
              refine QS.next ?_
              refine W.ret ?_
              refine QS.thenr ?_
              refine QS.blkr ?_
              refine QS.thenr ?_
              have hk : ¬ (kd < 1 ∨ 14 < kd) := by omega
              obtain ⟨e1, e2⟩ := ok_num (n := n) (tx := tx) (wd := wd) (kd := kd) (by omega)
              have hb : opOk ⟨kd, n, tx, wd⟩ = false := by rw [e1]; first | exact decide_eq_false (by omega) | exact decide_eq_false (by assumption) | exact decide_eq_false (by simp [*])
              exact QS.fin (.inl rfl) rfl (.tmp L2 (.tmp L3 .nil)) ⟨0, fun h => by rw [oE_bad hk hb] at h; cases h⟩ (pair_int (oE_bad hk hb).symm) (.dr .nil) (fun _ _ _ => trivial)
            ·
              refine WL.gy rfl L0 (R.fa fo_95_1 (.t L5)) rfl ?_
              refine WL.gy rfl L1 (R.ld sc_3 (.t L0) H0 rfl) rfl ?_
              refine WL.gy rfl L2 (R.gtr (.t L0) .c) rfl ?_
              refine WL.st (R.pkf (.t L3) (.t L0)) rfl ?_
              refine WL.nil ?_
              refine QS.next ?_
              refine W.del (.kp (.dr (.dr (.dr (.dr (.dr (.dr (.dr .rf)))))))) ?_
              refine W.cd (.t L0) (fun h6 => ?_) (fun h6 => ?_)
              ·
                refine W.del (.dr .rf) ?_
                refine W.seq ?_
                refine W.region ?_
                refine WL.as .c U2 rfl ?_
                refine WL.as .c U3 rfl ?_
                refine WL.nil ?_
                refine QS.next ?_
                refine W.ret ?_
                refine QS.thenr ?_
                refine QS.blkr ?_
                refine QS.thenr ?_
                have hk : ¬ (kd < 1 ∨ 14 < kd) := by omega
                obtain ⟨e1, e2⟩ := ok_num (n := n) (tx := tx) (wd := wd) (kd := kd) (by omega)
                have hb : opOk ⟨kd, n, tx, wd⟩ = false := by rw [e1]; first | exact decide_eq_false (by omega) | exact decide_eq_false (by assumption) | exact decide_eq_false (by simp [*])
                exact QS.fin (.inl rfl) rfl (.tmp L2 (.tmp L3 .nil)) ⟨0, fun h => by rw [oE_bad hk hb] at h; cases h⟩ (pair_int (oE_bad hk hb).symm) (.dr .nil) (fun _ _ _ => trivial)
              ·
                refine W.del (.dr .rf) ?_
                refine W.skip ?_
                refine QS.next ?_
                refine W.seq ?_
                refine W.region ?_
                refine WL.st (R.fa fo_95_1 (.t L1)) rfl ?_
                refine WL.st (R.ld sc_3 (.t L0) H0 rfl) rfl ?_
                refine WL.as (.t L0) U4 rfl ?_
                refine WL.as .c U5 rfl ?_
                refine WL.nil ?_
                refine QS.next ?_
                refine W.del (.dr (.dr .rf)) ?_
                refine W.ret ?_
                refine QS.blkr ?_
                refine QS.thenr ?_
                have hk : ¬ (kd < 1 ∨ 14 < kd) := by omega
                obtain ⟨e1, e2⟩ := ok_num (n := n) (tx := tx) (wd := wd) (kd := kd) (by omega)
                have hb : opOk ⟨kd, n, tx, wd⟩ = true := by rw [e1]; first | exact decide_eq_true (by omega) | exact decide_eq_true (by assumption) | exact decide_eq_true (by simp [*])
                exact QS.fin (.inl rfl) rfl (.tmp L2 (.tmp L3 .nil)) ⟨_, fun _ => e2.symm⟩ (pair_int (oE_ok hk hb).symm) (.dr .nil) (fun _ _ _ => trivial)
          ·
            refine W.del (.dr .rf) ?_
            refine W.seq ?_
            refine W.region ?_
            refine WL.st (R.eqi (.t L0) .c) rfl ?_
            refine WL.st (R.as (.t L0)) rfl ?_
            refine WL.nil ?_
            refine QS.next ?_
            refine W.del (.kp (.dr .rf)) ?_
            refine W.cd (.t L0) (fun h7 => ?_) (fun h7 => ?_)
            ·
              refine W.del (.dr (.dr .rf)) ?_
              refine W.seq ?_
              refine W.seq ?_
              refine W.region ?_
              refine WL.st (R.fa fo_95_1 (.t L1)) rfl ?_
              refine WL.st (R.ld sc_3 (.t L0) H0 rfl) rfl ?_
              refine WL.st (R.lss (.t L0) .c) rfl ?_
              refine WL.st (R.mv (.t L0)) rfl ?_
              refine WL.cd L0 U0 U0 (fun hg36 => ?_) (fun hg36 => ?_)
              ·
                refine WL.gn rfl L0 rfl ?_
                refine WL.gn rfl L1 rfl ?_
                refine WL.gn rfl L2 rfl ?_
                refine WL.st (R.pkt (.t L3) .c) rfl ?_
                refine WL.nil ?_
                refine QS.next ?_
                refine W.del (.kp (.dr (.dr (.dr (.dr (.dr (.dr (.dr .rf)))))))) ?_
                refine W.ct (.t L0) ?_
                refine W.del (.dr .rf) ?_
                refine W.seq ?_
                refine W.region ?_
                refine WL.as .c U2 rfl ?_
                refine WL.as .c U3 rfl ?_
                refine WL.nil ?_
                refine QS.next ?_
                refine W.ret ?_
                refine QS.thenr ?_
                refine QS.blkr ?_
                refine QS.thenr ?_
                have hk : ¬ (kd < 1 ∨ 14 < kd) := by omega
                obtain ⟨e1, e2⟩ := ok_para (n := n) (tx := tx) (wd := wd) (kd := kd) (by omega)
                have hb : opOk ⟨kd, n, tx, wd⟩ = false := by rw [e1]; first | exact decide_eq_false (by omega) | exact decide_eq_false (by assumption) | exact decide_eq_false (by simp [*])
                exact QS.fin (.inl rfl) rfl (.tmp L2 (.tmp L3 .nil)) ⟨0, fun h => by rw [oE_bad hk hb] at h; cases h⟩ (pair_int (oE_bad hk hb).symm) (.dr .nil) (fun _ _ _ => trivial)
              ·
                refine WL.gy rfl L0 (R.fa fo_95_1 (.t L5)) rfl ?_
                refine WL.gy rfl L1 (R.ld sc_3 (.t L0) H0 rfl) rfl ?_
                refine WL.gy rfl L2 (R.gtr (.t L0) .c) rfl ?_
                refine WL.st (R.pkf (.t L3) (.t L0)) rfl ?_
                refine WL.nil ?_
                refine QS.next ?_
                refine W.del (.kp (.dr (.dr (.dr (.dr (.dr (.dr (.dr .rf)))))))) ?_
                refine W.cd (.t L0) (fun h8 => ?_) (fun h8 => ?_)
                ·
                  refine W.del (.dr .rf) ?_
                  refine W.seq ?_
                  refine W.region ?_
                  refine WL.as .c U2 rfl ?_
                  refine WL.as .c U3 rfl ?_
                  refine WL.nil ?_
                  refine QS.next ?_
                  refine W.ret ?_
                  refine QS.thenr ?_
                  refine QS.blkr ?_
                  refine QS.thenr ?_
                  have hk : ¬ (kd < 1 ∨ 14 < kd) := by omega
                  obtain ⟨e1, e2⟩ := ok_para (n := n) (tx := tx) (wd := wd) (kd := kd) (by omega)
                  have hb : opOk ⟨kd, n, tx, wd⟩ = false := by rw [e1]; first | exact decide_eq_false (by omega) | exact decide_eq_false (by assumption) | exact decide_eq_false (by simp [*])
                  exact QS.fin (.inl rfl) rfl (.tmp L2 (.tmp L3 .nil)) ⟨0, fun h => by rw [oE_bad hk hb] at h; cases h⟩ (pair_int (oE_bad hk hb).symm) (.dr .nil) (fun _ _ _ => trivial)
                ·
                  refine W.del (.dr .rf) ?_
                  refine W.skip ?_
                  refine QS.next ?_
                  refine W.seq ?_
                  refine W.region ?_
                  refine WL.st (R.fa fo_95_1 (.t L1)) rfl ?_
                  refine WL.st (R.ld sc_3 (.t L0) H0 rfl) rfl ?_
                  refine WL.st (R.add (.t L0) .c (wi (by omega) (by omega))) rfl ?_
                  refine WL.as (.t L0) U5 rfl ?_
                  refine WL.as .c U6 rfl ?_
                  refine WL.nil ?_
                  refine QS.next ?_
                  refine W.del (.dr (.dr (.dr .rf))) ?_
                  refine W.ret ?_
                  refine QS.blkr ?_
                  refine QS.thenr ?_
                  have hk : ¬ (kd < 1 ∨ 14 < kd) := by omega
                  obtain ⟨e1, e2⟩ := ok_para (n := n) (tx := tx) (wd := wd) (kd := kd) (by omega)
                  have hb : opOk ⟨kd, n, tx, wd⟩ = true := by rw [e1]; first | exact decide_eq_true (by omega) | exact decide_eq_true (by assumption) | exact decide_eq_true (by simp [*])
                  exact QS.fin (.inl rfl) rfl (.tmp L2 (.tmp L3 .nil)) ⟨_, fun _ => e2.symm⟩ (pair_int (oE_ok hk hb).symm) (.dr .nil) (fun _ _ _ => trivial)
            ·
              refine W.del (.dr .rf) ?_
              refine W.seq ?_
              refine W.region ?_
              refine WL.st (R.eqi (.t L0) .c) rfl ?_
              refine WL.st (R.as (.t L0)) rfl ?_
              refine WL.nil ?_
              refine QS.next ?_
              refine W.del (.kp (.dr (.dr .rf))) ?_
              refine W.cd (.t L0) (fun h9 => ?_) (fun h9 => ?_)
              ·
                refine W.del (.dr .rf) ?_
                refine W.seq ?_
                refine W.seq ?_
                refine W.region ?_
                refine WL.st (R.fa fo_95_3 (.t L1)) rfl ?_
                refine WL.st (R.ld sc_37 (.t L0) H0 rfl) rfl ?_
                refine WL.st (R.lenl sl_37 (.t L0)) rfl ?_
                refine WL.st (R.lss (.t L0) .c) rfl ?_
                refine WL.st (R.mv (.t L0)) rfl ?_
                refine WL.cd L0 U0 U0 (fun hg50 => ?_) (fun hg50 => ?_)
                ·
                  refine WL.gn rfl L0 rfl ?_
                  refine WL.gn rfl L1 rfl ?_
                  refine WL.gn rfl L2 rfl ?_
                  refine WL.gn rfl L3 rfl ?_
                  refine WL.st (R.pkt (.t L4) .c) rfl ?_
                  refine WL.nil ?_
                  refine QS.next ?_
                  refine W.del (.kp (.dr (.dr (.dr (.dr (.dr (.dr (.dr (.dr (.dr .rf)))))))))) ?_
                  refine W.ct (.t L0) ?_
                  refine W.del (.dr .rf) ?_
                  refine W.seq ?_
                  refine W.region ?_
                  refine WL.as .c U2 rfl ?_
                  refine WL.as .c U3 rfl ?_
                  refine WL.nil ?_
                  refine QS.next ?_
                  refine W.ret ?_
                  refine QS.thenr ?_
                  refine QS.blkr ?_
                  refine QS.thenr ?_
                  have hk : ¬ (kd < 1 ∨ 14 < kd) := by omega
                  have hb : opOk ⟨kd, n, tx, wd⟩ = false := by rw [(ok_tab (kd := kd) (by omega)).1, show decide (1 ≤ wd.length ∧ wd.length ≤ 16) = false from decide_eq_false (by omega), Bool.and_false]
                  exact QS.fin (.inl rfl) rfl (.tmp L2 (.tmp L3 .nil)) ⟨0, fun h => by rw [oE_bad hk hb] at h; cases h⟩ (pair_int (oE_bad hk hb).symm) (.dr .nil) (fun _ _ _ => trivial)
                ·
                  refine WL.gy rfl L0 (R.fa fo_95_3 (.t L6)) rfl ?_
                  refine WL.gy rfl L1 (R.ld sc_37 (.t L0) H0 rfl) rfl ?_
                  refine WL.gy rfl L2 (R.lenl sl_37 (.t L0)) rfl ?_
                  refine WL.gy rfl L3 (R.gtr (.t L0) .c) rfl ?_
                  refine WL.st (R.pkf (.t L4) (.t L0)) rfl ?_
                  refine WL.nil ?_
                  refine QS.next ?_
                  refine W.del (.kp (.dr (.dr (.dr (.dr (.dr (.dr (.dr (.dr (.dr .rf)))))))))) ?_
                  refine W.cd (.t L0) (fun h10 => ?_) (fun h10 => ?_)
                  ·
                    refine W.del (.dr .rf) ?_
                    refine W.seq ?_
                    refine W.region ?_
                    refine WL.as .c U2 rfl ?_
                    refine WL.as .c U3 rfl ?_
                    refine WL.nil ?_
                    refine QS.next ?_
                    refine W.ret ?_
                    refine QS.thenr ?_
                    refine QS.blkr ?_
                    refine QS.thenr ?_
                    have hk : ¬ (kd < 1 ∨ 14 < kd) := by omega
                    have hb : opOk ⟨kd, n, tx, wd⟩ = false := by rw [(ok_tab (kd := kd) (by omega)).1, show decide (1 ≤ wd.length ∧ wd.length ≤ 16) = false from decide_eq_false (by omega), Bool.and_false]
                    exact QS.fin (.inl rfl) rfl (.tmp L2 (.tmp L3 .nil)) ⟨0, fun h => by rw [oE_bad hk hb] at h; cases h⟩ (pair_int (oE_bad hk hb).symm) (.dr .nil) (fun _ _ _ => trivial)
                  ·
                    refine W.del (.dr .rf) ?_
                    refine W.skip ?_
                    refine QS.next ?_
                    refine W.seq ?_
                    refine W.seq ?_
                    refine W.region ?_
                    refine WL.as .c U4 rfl ?_
                    refine WL.nil ?_
                    refine QS.next ?_
                    refine W.block ?_
                    refine W.loop (ι := {j : Nat // j ≤ wd.length ∧ ∀ i y, i < j → wd[i]? = some y → 0 ≤ y ∧ y ≤ 255}) (fun x => [(1, .pointer (some ⟨g1, 0, none⟩)), (2, .int .i64 0), (3, .int .i64 0), (4, .int .i64 x.1)]) (fun x => [blk g1 95 [.int .i64 kd, .int .i64 n, str tx, .slice A wd.length c]]) (fun x w => RdI w A wd) (fun x => wd.length - x.1) ⟨0, Nat.zero_le _, fun i y h => absurd h (by omega)⟩ (.dr (.kp rfl (.kp rfl (.kp rfl (.kp rfl .nil))))) (.kp rfl .nil) (fun w h hd => h) ?_
                    intro x
                    obtain ⟨j, hj1, hj2⟩ := x
                    show W _ _ _ _ _ [(1, .pointer (some ⟨g1, 0, none⟩)), (2, .int .i64 0), (3, .int .i64 0), (4, .int .i64 j)] [blk g1 95 [.int .i64 kd, .int .i64 n, str tx, .slice A wd.length c]] (fun w => RdI w A wd)
                    refine W.seq ?_
                    refine W.seq ?_
                    refine W.region ?_
                    refine WL.st (R.mv (.t L3)) rfl ?_
                    refine WL.st (R.fa fo_95_3 (.t L1)) rfl ?_
                    refine WL.st (R.ld sc_37 (.t L0) H0 rfl) rfl ?_
                    refine WL.st (R.lenl sl_37 (.t L0)) rfl ?_
                    refine WL.st (R.lss (.t L3) (.t L0)) rfl ?_
                    refine WL.nil ?_
                    refine QS.next ?_
                    refine W.del (.kp (.dr (.dr (.dr (.dr .rf))))) ?_
                    refine W.cd (.t L0) (fun h11 => ?_) (fun h11 => ?_)
                    ·
                      refine W.del (.dr .rf) ?_
                      refine W.skip ?_
                      refine QS.next ?_
                      refine W.seq ?_
                      refine W.block ?_
                      refine W.seq ?_
                      refine W.region ?_
                      refine WL.st (R.fa fo_95_3 (.t L0)) rfl ?_
                      refine WL.st (R.ld sc_37 (.t L0) H0 rfl) rfl ?_
                      refine WL.st (R.mv (.t L5)) rfl ?_
                      obtain ⟨x66, hx66⟩ : ∃ x, (wd)[j]? = some x := ⟨_, List.getElem?_eq_getElem (by omega)⟩
                      refine WL.st (R.ixI sl_37 (.t L1) rfl (.t L0) (l := wd) (j := j) rfl (List.getElem?_eq_some_iff.1 hx66).1 (fun w hb => hb.get)) rfl ?_
                      refine WL.st (R.ldp sc_3 (.t L0) (fun w hb => RdI.cell (hb.get) hx66)) rfl ?_
                      refine WL.st (R.lss (.t L0) .c) rfl ?_
                      refine WL.st (R.mv (.t L0)) rfl ?_
                      refine WL.cd L0 U0 U0 (fun hg69 => ?_) (fun hg69 => ?_)
                      ·
                        refine WL.gn rfl L0 rfl ?_
                        refine WL.gn rfl L1 rfl ?_
                        refine WL.gn rfl L2 rfl ?_
                        refine WL.gn rfl L3 rfl ?_
                        refine WL.gn rfl L4 rfl ?_
                        refine WL.gn rfl L5 rfl ?_
                        refine WL.st (R.pkt (.t L6) .c) rfl ?_
                        refine WL.nil ?_
                        refine QS.next ?_
                        refine W.del (.kp (.dr (.dr (.dr (.dr (.dr (.dr (.dr (.dr (.dr (.dr (.dr (.dr (.dr .rf)))))))))))))) ?_
                        refine W.ct (.t L0) ?_
                        refine W.del (.dr .rf) ?_
                        refine W.seq ?_
                        refine W.region ?_
                        refine WL.as .c U1 rfl ?_
                        refine WL.as .c U2 rfl ?_
                        refine WL.nil ?_
                        refine QS.next ?_
                        refine W.ret ?_
                        refine QS.blkr ?_
                        refine QS.thenr ?_
                        refine QS.thenr ?_
                        refine QS.blkr ?_
                        refine QS.thenr ?_
                        refine QS.blkr ?_
                        refine QS.thenr ?_
                        have hk : ¬ (kd < 1 ∨ 14 < kd) := by omega
                        have hb := tab_bad (n := n) (tx := tx) (kd := kd) (by omega) hx66 (by omega)
                        exact QS.fin (.inl rfl) rfl (.tmp L1 (.tmp L2 .nil)) ⟨0, fun h => by rw [oE_bad hk hb] at h; cases h⟩ (pair_int (oE_bad hk hb).symm) (.dr .nil) (fun _ _ _ => trivial)
                      ·
                        refine WL.gy rfl L0 (R.fa fo_95_3 (.t L7)) rfl ?_
                        refine WL.gy rfl L1 (R.ld sc_37 (.t L0) H0 rfl) rfl ?_
                        refine WL.gy rfl L2 (R.mv (.t L12)) rfl ?_
                        obtain ⟨x73, hx73⟩ : ∃ x, (wd)[j]? = some x := ⟨_, List.getElem?_eq_getElem (by omega)⟩
                        have hxe : x66 = x73 := by rw [hx66] at hx73; injection hx73
                        subst hxe
                        refine WL.gy rfl L3 (R.ixI sl_37 (.t L1) rfl (.t L0) (l := wd) (j := j) rfl (List.getElem?_eq_some_iff.1 hx73).1 (fun w hb => hb.get)) rfl ?_
                        refine WL.gy rfl L4 (R.ldp sc_3 (.t L0) (fun w hb => RdI.cell (hb.get) hx73)) rfl ?_
                        refine WL.gy rfl L5 (R.gtr (.t L0) .c) rfl ?_
                        refine WL.st (R.pkf (.t L6) (.t L0)) rfl ?_
                        refine WL.nil ?_
                        refine QS.next ?_
                        refine W.del (.kp (.dr (.dr (.dr (.dr (.dr (.dr (.dr (.dr (.dr (.dr (.dr (.dr (.dr .rf)))))))))))))) ?_
                        refine W.cd (.t L0) (fun h12 => ?_) (fun h12 => ?_)
                        ·
                          refine W.del (.dr .rf) ?_
                          refine W.seq ?_
                          refine W.region ?_
                          refine WL.as .c U1 rfl ?_
                          refine WL.as .c U2 rfl ?_
                          refine WL.nil ?_
                          refine QS.next ?_
                          refine W.ret ?_
                          refine QS.blkr ?_
                          refine QS.thenr ?_
                          refine QS.thenr ?_
                          refine QS.blkr ?_
                          refine QS.thenr ?_
                          refine QS.blkr ?_
                          refine QS.thenr ?_
                          have hk : ¬ (kd < 1 ∨ 14 < kd) := by omega
                          have hb := tab_bad (n := n) (tx := tx) (kd := kd) (by omega) hx66 (by omega)
                          exact QS.fin (.inl rfl) rfl (.tmp L1 (.tmp L2 .nil)) ⟨0, fun h => by rw [oE_bad hk hb] at h; cases h⟩ (pair_int (oE_bad hk hb).symm) (.dr .nil) (fun _ _ _ => trivial)
                        ·
                          refine W.del (.dr .rf) ?_
                          refine W.skip ?_
                          refine QS.blkn ?_
                          refine QS.next ?_
                          refine W.region ?_
                          refine WL.st (R.mv (.t L3)) rfl ?_
                          refine WL.st (R.add (.t L0) .c (wi (by omega) (by omega))) rfl ?_
                          refine WL.as (.t L0) U5 rfl ?_
                          refine WL.nil ?_
                          exact QS.at ⟨j + 1, by omega, wok_snoc hj2 hx66 (by omega)⟩ (by dsimp only; omega) (.dr (.dr (.kp rfl (.kp rfl (.kp rfl (.kp rfl .nil)))))) (.kp rfl .nil) (fun w h hd => h)
                    ·
                      refine W.del (.dr .rf) ?_
                      refine W.exit ?_
                      refine QS.thenx ?_
                      refine QS.thenx ?_
                      refine QS.blkx ?_
                      refine QS.next ?_
                      refine W.seq ?_
                      refine W.region ?_
                      refine WL.st (R.fa fo_95_3 (.t L0)) rfl ?_
                      refine WL.st (R.ld sc_37 (.t L0) H0 rfl) rfl ?_
                      refine WL.st (R.lenl sl_37 (.t L0)) rfl ?_
                      refine WL.st (R.sub (.t L0) .c (wi (by omega) (by omega))) rfl ?_
                      refine WL.as (.t L0) U5 rfl ?_
                      refine WL.as .c U6 rfl ?_
                      refine WL.nil ?_
                      refine QS.next ?_
                      refine W.del (.dr (.dr (.dr (.dr .rf)))) ?_
                      refine W.ret ?_
                      refine QS.blkr ?_
                      refine QS.thenr ?_
                      have hk : ¬ (kd < 1 ∨ 14 < kd) := by omega
                      have e2 := (ok_tab (n := n) (tx := tx) (wd := wd) (kd := kd) (by omega)).2
                      have hb : opOk ⟨kd, n, tx, wd⟩ = true := by rw [tab_good (by omega) (fun i y hi => hj2 i y (by omega))]; exact decide_eq_true (by omega)
                      exact QS.fin (.inl rfl) rfl (.tmp L1 (.tmp L2 .nil)) ⟨_, fun _ => e2.symm⟩ (pair_int (oE_ok hk hb).symm) (.dr .nil) (fun _ _ _ => trivial)
              ·
                refine W.del (.dr .rf) ?_
                refine W.skip ?_
                refine QS.blkn ?_
                refine QS.next ?_
                refine W.seq ?_
                refine W.seq ?_
                refine W.region ?_
                refine WL.st (R.fa fo_95_0 (.t L1)) rfl ?_
                refine WL.st (R.ld sc_57 (.t L0) H0 rfl) rfl ?_
                refine WL.st (R.lss (.t L0) .c) rfl ?_
                refine WL.st (R.mv (.t L0)) rfl ?_
                refine WL.cd L0 U0 U0 (fun hg84 => ?_) (fun hg84 => ?_)
                ·
                  refine WL.gn rfl L0 rfl ?_
                  refine WL.gn rfl L1 rfl ?_
                  refine WL.gn rfl L2 rfl ?_
                  refine WL.st (R.pkt (.t L3) .c) rfl ?_
                  refine WL.nil ?_
                  refine QS.next ?_
                  refine W.del (.kp (.dr (.dr (.dr (.dr (.dr (.dr (.dr .rf)))))))) ?_
                  refine W.ct (.t L0) ?_
                  refine W.del (.dr .rf) ?_
                  refine W.seq ?_
                  refine W.region ?_
                  refine WL.as .c U2 rfl ?_
                  refine WL.as .c U3 rfl ?_
                  refine WL.nil ?_
                  refine QS.next ?_
                  refine W.ret ?_
                  refine QS.thenr ?_
                  have he := oE_kind (o := ⟨kd, n, tx, wd⟩) (show kd < 1 ∨ 14 < kd by omega)
                  exact QS.fin (.inl rfl) rfl (.tmp L2 (.tmp L3 .nil)) ⟨0, fun h => by rw [he] at h; cases h⟩ (pair_int he.symm) (.dr .nil) (fun _ _ _ => trivial)
                ·
                  refine WL.gy rfl L0 (R.fa fo_95_0 (.t L5)) rfl ?_
                  refine WL.gy rfl L1 (R.ld sc_57 (.t L0) H0 rfl) rfl ?_
                  refine WL.gy rfl L2 (R.gtr (.t L0) .c) rfl ?_
                  refine WL.st (R.pkf (.t L3) (.t L0)) rfl ?_
                  refine WL.nil ?_
                  refine QS.next ?_
                  refine W.del (.kp (.dr (.dr (.dr (.dr (.dr (.dr (.dr .rf)))))))) ?_
                  refine W.cd (.t L0) (fun h13 => ?_) (fun h13 => ?_)
                  ·
                    refine W.del (.dr .rf) ?_
                    refine W.seq ?_
                    refine W.region ?_
                    refine WL.as .c U2 rfl ?_
                    refine WL.as .c U3 rfl ?_
                    refine WL.nil ?_
                    refine QS.next ?_
                    refine W.ret ?_
                    refine QS.thenr ?_
                    have he := oE_kind (o := ⟨kd, n, tx, wd⟩) (show kd < 1 ∨ 14 < kd by omega)
                    exact QS.fin (.inl rfl) rfl (.tmp L2 (.tmp L3 .nil)) ⟨0, fun h => by rw [he] at h; cases h⟩ (pair_int he.symm) (.dr .nil) (fun _ _ _ => trivial)
                  ·
                    refine W.del (.dr .rf) ?_
                    refine W.skip ?_
                    refine QS.next ?_
                    refine W.seq ?_
                    refine W.region ?_
                    refine WL.as .c U2 rfl ?_
                    refine WL.as .c U3 rfl ?_
                    refine WL.nil ?_
                    refine QS.next ?_
                    refine W.ret ?_
                    have hk : ¬ (kd < 1 ∨ 14 < kd) := by omega
                    obtain ⟨e1, e2⟩ := ok_else (n := n) (tx := tx) (wd := wd) (kd := kd) (by omega)
                    exact QS.fin (.inl rfl) rfl (.tmp L2 (.tmp L3 .nil)) ⟨0, fun _ => e2.symm⟩ (pair_int (oE_ok hk e1).symm) (.dr .nil) (fun _ _ _ => trivial)

set_option maxHeartbeats 2000000 in
theorem ref16_Encode {A : Option Addr} {M : List (OpS × Option Addr × Nat)} {c : Nat} (hg : ∀ q ∈ M, OpGood q.1) (hM : M.length ≤ 140737488351232) {C : Cx} (hb : Hb C C.w0 [] (fun w => RdF ocell 4 w A M ∧ ∀ q ∈ M, RdI w q.2.1 q.1.widths)) :
    Sp Tryd.prog 28 [.slice A M.length c] C (ι := Option Addr × Nat) (fun x => .tuple #[.slice x.1 (encS (M.map (·.1))).1.length x.2, str (encS (M.map (·.1))).2.1, .int .i64 (encS (M.map (·.1))).2.2]) (fun _ => []) (fun x w => RdB w x.1 (encS (M.map (·.1))).1) := by
  refine Sp.enter (N := 87) (e := entryEnv [.slice A M.length c] 0 11) Tryd.func28 rfl rfl (Nat.le_of_ble_eq_true rfl) (entry_ok (Nat.le_of_ble_eq_true rfl) (Nat.le_of_ble_eq_true rfl)) (entry_nd _ _) hb ?_
  show W _ _ _ _ _ [(0, .slice A M.length c), (1, undef), (2, undef), (3, undef), (4, undef), (5, undef), (6, undef), (7, undef), (8, undef), (9, undef), (10, undef)] _ _
  refine W.seq ?_
  refine W.region ?_
  refine WL.as .c U2 rfl ?_
  refine WL.as .c U3 rfl ?_
  refine WL.as .c U4 rfl ?_
  refine WL.nil ?_
  refine QS.next ?_
  refine W.seq ?_
  refine W.seq ?_
  refine W.region ?_
  refine WL.st (R.mv (.t L0)) rfl ?_
  refine WL.st (R.lenl sl_47 (.t L0)) rfl ?_
  refine WL.st (R.gtr (.t L0) .c) rfl ?_
  refine WL.st (R.mv (.t L0)) rfl ?_
  refine WL.cd L0 U0 U0 (fun hg14 => ?_) (fun hg14 => ?_)
  ·
    refine WL.gn rfl L0 rfl ?_
    refine WL.gn rfl L1 rfl ?_
    refine WL.st (R.pkt (.t L2) .c) rfl ?_
    refine WL.nil ?_
    refine QS.next ?_
    refine W.del (.kp (.dr (.dr (.dr (.dr (.dr (.dr .rf))))))) ?_
    refine W.ct (.t L0) ?_
    refine W.del (.dr .rf) ?_
    refine W.seq ?_
    refine W.region ?_
    refine WL.as .c U2 rfl ?_
    refine WL.as .c U3 rfl ?_
    refine WL.as .c U4 rfl ?_
    refine WL.nil ?_
    refine QS.next ?_
    refine W.ret ?_
    refine QS.thenr ?_
    have hr : encS (M.map (·.1)) = ([], [], 2) := by unfold encS; rw [List.length_map]; split; rfl; first | rfl | (rw [if_pos h0]) | (exfalso; omega)
    exact QS.fin (.inl rfl) rfl (.tmp L2 (.tmp L3 (.tmp L4 .nil))) (none, 0) (by rw [hr]; rfl) .nil (fun w _ _ => by rw [hr]; exact Rd.nil)
  ·
    refine WL.gy rfl L0 (R.mv (.t L4)) rfl ?_
    refine WL.gyw rfl L1 ?_
    refine WL.callr gf_52 .f (.cons (.t L0) .nil) (fun w hb => (ref16_long hg hM (hb.imp fun _ h => ⟨h.1, h.2⟩))) rfl ?_
    refine WL.st (R.pkf (.t L2) (.t L0)) rfl ?_
    refine WL.nil ?_
    refine QS.next ?_
    refine W.del (.kp (.dr (.dr (.dr (.dr (.dr (.dr .rf))))))) ?_
    refine W.cb (.t L0) (fun h0 => ?_) (fun h0 => ?_)
    ·
      refine W.del (.dr .rf) ?_
      refine W.seq ?_
      refine W.region ?_
      refine WL.as .c U2 rfl ?_
      refine WL.as .c U3 rfl ?_
      refine WL.as .c U4 rfl ?_
      refine WL.nil ?_
      refine QS.next ?_
      refine W.ret ?_
      refine QS.thenr ?_
      have hr : encS (M.map (·.1)) = ([], [], 2) := by unfold encS; rw [List.length_map]; split; rfl; first | rfl | (rw [if_pos h0]) | (exfalso; omega)
      exact QS.fin (.inl rfl) rfl (.tmp L2 (.tmp L3 (.tmp L4 .nil))) (none, 0) (by rw [hr]; rfl) .nil (fun w _ _ => by rw [hr]; exact Rd.nil)
    ·
      refine W.del (.dr .rf) ?_
      refine W.skip ?_
      refine QS.next ?_
      refine W.seq ?_
      refine W.region ?_
      refine WL.as .c U5 rfl ?_
      refine WL.nil ?_
      refine QS.next ?_
      refine W.seq ?_
      have hlf : longF (M.map (·.1)) 0 = false := by simp_all
      have hS : encS (M.map (·.1)) = encF (M.map (·.1)) [] [] := by rw [encS, if_neg (by simp; omega), if_neg (by rw [hlf]; decide)]
      have htot := long_le _ _ hlf (by omega)
      refine W.region ?_
      refine WL.as .c U6 rfl ?_
      refine WL.nil ?_
      refine QS.next ?_
      refine W.seq ?_
      refine W.seq ?_
      refine W.region ?_
      refine WL.as .c U7 rfl ?_
      refine WL.nil ?_
      refine QS.next ?_
      refine W.block ?_
      refine W.nilrow 5 1 ?_
      refine W.nilrow 5 1 ?_
      refine W.loop (ι := {x : (Nat × List UInt8 × List UInt8) × (Option Addr × Nat) × Option Addr × Nat // x.1.1 ≤ M.length ∧ encF ((M.map (·.1)).drop x.1.1) x.1.2.1 x.1.2.2 = encF (M.map (·.1)) [] [] ∧ x.1.2.1.length ≤ 28 * x.1.1 ∧ x.1.2.2.length + (((M.map (·.1)).drop x.1.1).flatMap txt).length ≤ 16384}) (fun x => [(0, .slice A M.length c), (2, .slice none 0 0), (3, str []), (4, .int .i64 0), (5, .slice x.1.2.1.1 x.1.1.2.1.length x.1.2.1.2), (6, .slice x.1.2.2.1 x.1.1.2.2.length x.1.2.2.2), (7, .int .i64 (x.1.1.1 : Nat))]) (fun x => [.row (.slice x.1.2.1.1 x.1.1.2.1.length x.1.2.1.2) 5 1 x.1.1.2.1.length (bcells x.1.1.2.1), .row (.slice x.1.2.2.1 x.1.1.2.2.length x.1.2.2.2) 5 1 x.1.1.2.2.length (bcells x.1.1.2.2)]) (fun x w => RdF ocell 4 w A M ∧ (∀ q ∈ M, RdI w q.2.1 q.1.widths)) (fun x => M.length - x.1.1.1) ⟨((0, [], []), (none, 0), none, 0), Nat.zero_le _, rfl, by simp, by simpa using htot⟩ (.kp rfl (.dr (.kp rfl (.kp rfl (.kp rfl (.kp rfl (.kp rfl (.kp rfl (.dr (.dr (.dr .nil))))))))))) (.kp rfl (.kp rfl .nil)) (fun w h hd => ⟨h.1, h.2⟩) ?_
      intro x
      obtain ⟨⟨⟨j, b, s⟩, ⟨Ab, cb⟩, As, cs⟩, hi1, hi2, hi3, hi4⟩ := x
      dsimp only at hi1 hi2 hi3 hi4
      show W _ _ _ _ _ [(0, .slice A M.length c), (2, .slice none 0 0), (3, str []), (4, .int .i64 0), (5, .slice Ab b.length cb), (6, .slice As s.length cs), (7, .int .i64 (j : Nat))] [.row (.slice Ab b.length cb) 5 1 b.length (bcells b), .row (.slice As s.length cs) 5 1 s.length (bcells s)] (fun w => RdF ocell 4 w A M ∧ (∀ q ∈ M, RdI w q.2.1 q.1.widths))
      refine W.seq ?_
      refine W.seq ?_
      refine W.region ?_
      refine WL.st (R.mv (.t L6)) rfl ?_
      refine WL.st (R.mv (.t L1)) rfl ?_
      refine WL.st (R.lenl sl_47 (.t L0)) rfl ?_
      refine WL.st (R.lss (.t L2) (.t L0)) rfl ?_
      refine WL.nil ?_
      refine QS.next ?_
      refine W.del (.kp (.dr (.dr (.dr .rf)))) ?_
      refine W.cd (.t L0) (fun h1 => ?_) (fun h1 => ?_)
      ·
        refine W.del (.dr .rf) ?_
        refine W.skip ?_
        refine QS.next ?_
        refine W.seq ?_
        refine W.block ?_
        refine W.seq ?_
        refine W.region ?_
        refine WL.st (R.mv (.t L0)) rfl ?_
        refine WL.st (R.mv (.t L7)) rfl ?_
        obtain ⟨x27, hx27⟩ : ∃ x, (M)[j]? = some x := ⟨_, List.getElem?_eq_getElem (by omega)⟩
        have hL27 : (M.map (·.1))[j]? = some x27.1 := by simp [hx27]
        have hgd := hg x27 (List.mem_of_getElem? hx27)
        refine WL.st (R.ixF sl_47 (.t L1) rfl (.t L0) (l := M) (j := j) rfl (List.getElem?_eq_some_iff.1 hx27).1 (by decide) (fun w hb => hb.get.1)) rfl ?_
        refine WL.st (R.ldpF ag_95 (.t L0) (j := j) (k := 0) (fun w hb => hb.get.1) hx27 (by repeat constructor) (by decide)) rfl ?_
        refine WL.call gf_53 .f (.cons (.t L0) .nil) (.dr (.dr .nil)) (fun w hb => (ref16_operand hgd.tx hgd.wd hgd.n (hb.imp fun _ h => h.2 x27 (List.mem_of_getElem? hx27)))) rfl (fun x29 => ?_)
        obtain ⟨v29, hv29⟩ := x29
        refine WL.st (R.mv (.t L0)) rfl ?_
        refine WL.st (R.ex (.t L0) .here) rfl ?_
        refine WL.st (R.ex (.t L1) (.skip .here)) rfl ?_
        refine WL.st (R.as (.t L1)) rfl ?_
        refine WL.st (R.as (.t L1)) rfl ?_
        refine WL.nil ?_
        refine QS.next ?_
        refine W.del (.kp (.kp (.dr (.dr (.dr (.dr (.dr (.dr (.dr (.dr .rf)))))))))) ?_
        refine W.seq ?_
        refine W.seq ?_
        refine W.region ?_
        refine WL.st (R.mv (.t L0)) rfl ?_
        refine WL.st (R.nei (.t L0) .c) rfl ?_
        refine WL.nil ?_
        refine QS.next ?_
        refine W.del (.kp (.dr .rf)) ?_
        refine W.cd (.t L0) (fun h2 => ?_) (fun h2 => ?_)
        ·
          refine W.del (.dr .rf) ?_
          refine W.seq ?_
          refine W.region ?_
          refine WL.st (R.mv (.t L0)) rfl ?_
          refine WL.as .c U4 rfl ?_
          refine WL.as .c U5 rfl ?_
          refine WL.as (.t L0) U6 rfl ?_
          refine WL.nil ?_
          refine QS.next ?_
          refine W.del (.dr .rf) ?_
          refine W.ret ?_
          refine QS.thenr ?_
          refine QS.blkr ?_
          refine QS.thenr ?_
          refine QS.thenr ?_
          refine QS.blkr ?_
          refine QS.thenr ?_
          have hr := enc_err hi2 hL27 h2
          rw [← hS] at hr
          exact QS.fin (.inl rfl) rfl (.tmp L3 (.tmp L4 (.tmp L5 .nil))) (none, 0) (by rw [hr]; rfl) (.dr (.dr .nil)) (fun w _ _ => by rw [hr]; exact Rd.nil)
        ·
          have hoe : oE x27.1 = 0 := Classical.not_not.1 h2
          obtain ⟨hkk, hok⟩ := oE_0 hoe
          obtain rfl : v29 = opN x27.1 := hv29 hoe
          have hob := opN_bd hok hgd.tx
          have hpl := put_len (k := x27.1.kind) (n := opN x27.1)
          have htd := tot_drop hL27
          refine W.del (.dr .rf) ?_
          refine W.skip ?_
          refine QS.next ?_
          refine W.seq ?_
          refine W.region ?_
          refine WL.st (R.mv (.t L6)) rfl ?_
          refine WL.st (R.mv (.t L3)) rfl ?_
          refine WL.st (R.mv (.t L10)) rfl ?_
          obtain ⟨x38, hx38⟩ : ∃ x, (M)[j]? = some x := ⟨_, List.getElem?_eq_getElem (by omega)⟩
          have hxe38 : x27 = x38 := by rw [hx27] at hx38; injection hx38
          subst hxe38
          refine WL.st (R.ixF sl_47 (.t L1) rfl (.t L0) (l := M) (j := j) rfl (List.getElem?_eq_some_iff.1 hx38).1 (by decide) (fun w hb => hb.get.1.1)) rfl ?_
          refine WL.st (R.fapk fo_95_0 (.t L0) (j := j * 4) (k := 0) (k2 := 0) rfl (fun w hb => RdF.ne (hb.get.1.1) (List.getElem?_eq_some_iff.1 hx38).1 (by decide))) rfl ?_
          refine WL.st (R.ldp sc_57 (.t L0) (fun w hb => RdF.cell (k := 0) (hb.get.1.1) hx38 rfl)) rfl ?_
          refine WL.st (R.mv (.t L7)) rfl ?_
          refine WL.call gf_54 .f (.cons (.t L1) (.cons (.t L0) .nil)) (.dr (.dr .nil)) (fun w hb => (ref16_instruction (n := opN x27.1) (by omega) (by omega) (hb.imp fun _ _ => trivial))) rfl (fun x42 => ?_)
          have hpl2 : (putS x27.1.kind (opN x27.1)).length ≤ 12 := hpl (by by_cases hk : x27.1.kind = 1; (have := txt_1 hk; have e := (ok_text (kd := x27.1.kind) (n := x27.1.n) (tx := x27.1.text) (wd := x27.1.widths) hk).2; have e2 : opN x27.1 = (x27.1.text.length : Int) - 1 := e; rw [this] at htd; omega); exact hob.2.2 hk)
          refine WL.app' ap_22 (.t L7) (.t L0) (fun _ _ => C0) (fun w hb => hb.get.2) (bcells_one _) (by unfold maxLen; omega) (by omega) rfl (fun A43 c43 => ?_)
          refine WL.as (.t L0) U15 rfl ?_
          refine WL.nil ?_
          refine QS.next ?_
          refine W.del (.dr (.dr (.dr (.dr (.dr (.dr (.dr (.dr (.dr .rf))))))))) ?_
          refine W.seq ?_
          refine W.region ?_
          refine WL.st (R.mv (.t L2)) rfl ?_
          refine WL.st (R.mv (.t L9)) rfl ?_
          obtain ⟨x46, hx46⟩ : ∃ x, (M)[j]? = some x := ⟨_, List.getElem?_eq_getElem (by omega)⟩
          have hxe46 : x27 = x46 := by rw [hx27] at hx46; injection hx46
          subst hxe46
          refine WL.st (R.ixF sl_47 (.t L1) rfl (.t L0) (l := M) (j := j) rfl (List.getElem?_eq_some_iff.1 hx46).1 (by decide) (fun w hb => hb.get.1.1.1)) rfl ?_
          refine WL.st (R.fapk fo_95_0 (.t L0) (j := j * 4) (k := 0) (k2 := 0) rfl (fun w hb => RdF.ne (hb.get.1.1.1) (List.getElem?_eq_some_iff.1 hx46).1 (by decide))) rfl ?_
          refine WL.st (R.ldp sc_57 (.t L0) (fun w hb => RdF.cell (k := 0) (hb.get.1.1.1) hx46 rfl)) rfl ?_
          refine WL.nil ?_
          refine QS.next ?_
          refine W.del (.kp (.dr (.dr (.dr (.dr .rf))))) ?_
          refine W.block ?_
          refine W.seq ?_
          refine W.region ?_
          refine WL.st (R.eqi (.t L0) .c) rfl ?_
          refine WL.st (R.as (.t L0)) rfl ?_
          refine WL.nil ?_
          refine QS.next ?_
          refine W.del (.kp (.dr .rf)) ?_
          refine W.cd (.t L0) (fun h3 => ?_) (fun h3 => ?_)
          ·
            have htx7 := txt_1 h3
            rw [htx7] at htd
            refine W.del (.dr (.dr .rf)) ?_
            refine W.region ?_
            refine WL.st (R.mv (.t L7)) rfl ?_
            refine WL.st (R.mv (.t L3)) rfl ?_
            refine WL.st (R.mv (.t L10)) rfl ?_
            obtain ⟨x54, hx54⟩ : ∃ x, (M)[j]? = some x := ⟨_, List.getElem?_eq_getElem (by omega)⟩
            have hxe54 : x27 = x54 := by rw [hx27] at hx54; injection hx54
            subst hxe54
            refine WL.st (R.ixF sl_47 (.t L1) rfl (.t L0) (l := M) (j := j) rfl (List.getElem?_eq_some_iff.1 hx54).1 (by decide) (fun w hb => hb.get.1.1.1)) rfl ?_
            refine WL.st (R.fapk fo_95_2 (.t L0) (j := j * 4) (k := 0) (k2 := 2) rfl (fun w hb => RdF.ne (hb.get.1.1.1) (List.getElem?_eq_some_iff.1 hx54).1 (by decide))) rfl ?_
            refine WL.st (R.ldp sc_9 (.t L0) (fun w hb => RdF.cell (k := 2) (hb.get.1.1.1) hx54 rfl)) rfl ?_
            refine WL.apps ap_22 zz_5 st_9 (.t L5) (.t L0) (fun _ _ => C1) (by omega) rfl (fun A57 c57 => ?_)
            refine WL.as (.t L0) U14 rfl ?_
            refine WL.nil ?_
            refine QS.blkn ?_
            refine QS.blkn ?_
            refine QS.next ?_
            refine W.del (.dr (.dr (.dr (.dr (.dr (.dr (.dr .rf))))))) ?_
            refine W.region ?_
            refine WL.st (R.mv (.t L8)) rfl ?_
            refine WL.st (R.add (.t L0) .c (wi (by omega) (by omega))) rfl ?_
            refine WL.as (.t L0) U10 rfl ?_
            refine WL.nil ?_
            have he1 := enc1_no (o := x27.1) (by omega)
            have hbl : (b ++ encOne x27.1).length ≤ 28 * (j + 1) := by rw [he1]; simp [wb_len]; omega
            have htx : txt x27.1 = x27.1.text := txt_1 h3
            have htxl : (txt x27.1).length = x27.1.text.length := by rw [htx]
            exact QS.at ⟨((j + 1, b ++ encOne x27.1, s ++ txt x27.1), (A43, c43), A57, c57), by dsimp only; omega, enc_go hi2 hL27 hoe, hbl, by dsimp only; rw [List.length_append]; omega⟩ (show M.length - (j + 1) < M.length - j by omega) (.dr (.dr (.dr (.dr (.kp rfl (.kp rfl (.kp rfl (.kp rfl (.kp (by simp [he1, wb_len]; try omega) (.kp (by simp [htx]) (.kp rfl .nil))))))))))) (.kp (chunk_bytes (by simp [he1, wb_len]; try omega) (by first | simp [he1, htk, bcells_app] | simp [he1, bcells_app])) (.kp (chunk_bytes (by simp [htx]) (by simp [htx, bcells_app])) .nil)) (fun w h hd => ⟨h.1.1.1, h.1.1.2⟩)
          ·
            refine W.del (.dr .rf) ?_
            refine W.seq ?_
            refine W.region ?_
            refine WL.st (R.eqi (.t L0) .c) rfl ?_
            refine WL.st (R.as (.t L0)) rfl ?_
            refine WL.nil ?_
            refine QS.next ?_
            refine W.del (.kp (.dr (.dr .rf))) ?_
            refine W.cd (.t L0) (fun h4 => ?_) (fun h4 => ?_)
            ·
              obtain ⟨hw1, hw2⟩ := wok_of hok h4
              refine W.del (.dr .rf) ?_
              refine W.seq ?_
              refine W.region ?_
              refine WL.st (R.as .c) rfl ?_
              refine WL.nil ?_
              refine QS.next ?_
              refine W.block ?_
              refine W.loop (ι := {p : Nat × Option Addr × Nat // p.1 ≤ x27.1.widths.length}) (fun z => [(10, .int .i64 (z.1.1 : Nat)), (0, .slice A M.length c), (2, .slice none 0 0), (3, str []), (4, .int .i64 0), (5, .slice z.1.2.1 (b ++ putS x27.1.kind (opN x27.1) ++ wBytes (x27.1.widths.take z.1.1)).length z.1.2.2), (6, .slice As s.length cs), (7, .int .i64 j)]) (fun z => [.row (.slice z.1.2.1 (b ++ putS x27.1.kind (opN x27.1) ++ wBytes (x27.1.widths.take z.1.1)).length z.1.2.2) 5 1 (b ++ putS x27.1.kind (opN x27.1) ++ wBytes (x27.1.widths.take z.1.1)).length (bcells (b ++ putS x27.1.kind (opN x27.1) ++ wBytes (x27.1.widths.take z.1.1))), .row (.slice As s.length cs) 5 1 s.length (bcells s)]) (fun z w => RdF ocell 4 w A M ∧ (∀ q ∈ M, RdI w q.2.1 q.1.widths) ∧ RdI w x27.2.1 x27.1.widths) (fun z => x27.1.widths.length - z.1.1) ⟨(0, A43, c43), Nat.zero_le _⟩ (.kp rfl (.dr (.dr (.kp rfl (.kp rfl (.kp rfl (.kp rfl (.kp (by simp [wBytes]) (.kp rfl (.kp rfl .nil)))))))))) (.kp (chunk_bytes (by simp [wBytes]) (by simp [wBytes, bcells_app])) (.kp rfl .nil)) (fun w h hd => ⟨h.1.1.1, h.1.1.2, (h.1.1.2 x27 (List.mem_of_getElem? hx27))⟩) ?_
              intro z
              obtain ⟨⟨k, A8, c8⟩, hk⟩ := z
              dsimp only at hk
              show W _ _ _ _ _ [(10, .int .i64 (k : Nat)), (0, .slice A M.length c), (2, .slice none 0 0), (3, str []), (4, .int .i64 0), (5, .slice A8 (b ++ putS x27.1.kind (opN x27.1) ++ wBytes (x27.1.widths.take k)).length c8), (6, .slice As s.length cs), (7, .int .i64 j)] [.row (.slice A8 (b ++ putS x27.1.kind (opN x27.1) ++ wBytes (x27.1.widths.take k)).length c8) 5 1 (b ++ putS x27.1.kind (opN x27.1) ++ wBytes (x27.1.widths.take k)).length (bcells (b ++ putS x27.1.kind (opN x27.1) ++ wBytes (x27.1.widths.take k))), .row (.slice As s.length cs) 5 1 s.length (bcells s)] (fun w => RdF ocell 4 w A M ∧ (∀ q ∈ M, RdI w q.2.1 q.1.widths) ∧ RdI w x27.2.1 x27.1.widths)
              refine W.seq ?_
              refine W.seq ?_
              refine W.region ?_
              refine WL.st (R.mv (.t L0)) rfl ?_
              refine WL.st (R.mv (.t L2)) rfl ?_
              refine WL.st (R.mv (.t L9)) rfl ?_
              obtain ⟨x63, hx63⟩ : ∃ x, (M)[j]? = some x := ⟨_, List.getElem?_eq_getElem (by omega)⟩
              have hxe63 : x27 = x63 := by rw [hx27] at hx63; injection hx63
              subst hxe63
              refine WL.st (R.ixF sl_47 (.t L1) rfl (.t L0) (l := M) (j := j) rfl (List.getElem?_eq_some_iff.1 hx63).1 (by decide) (fun w hb => hb.get.1)) rfl ?_
              refine WL.st (R.fapk fo_95_3 (.t L0) (j := j * 4) (k := 0) (k2 := 3) rfl (fun w hb => RdF.ne (hb.get.1) (List.getElem?_eq_some_iff.1 hx63).1 (by decide))) rfl ?_
              refine WL.st (R.ldp sc_37 (.t L0) (fun w hb => RdF.cell (k := 3) (hb.get.1) hx63 rfl)) rfl ?_
              refine WL.st (R.lenl sl_37 (.t L0)) rfl ?_
              refine WL.st (R.lss (.t L6) (.t L0)) rfl ?_
              refine WL.nil ?_
              refine QS.next ?_
              refine W.del (.kp (.dr (.dr (.dr (.dr (.dr (.dr (.dr .rf)))))))) ?_
              refine W.cd (.t L0) (fun h5 => ?_) (fun h5 => ?_)
              ·
                refine W.del (.dr .rf) ?_
                refine W.skip ?_
                refine QS.next ?_
                refine W.seq ?_
                refine W.block ?_
                have hpb : (b ++ putS x27.1.kind (opN x27.1) ++ wBytes (x27.1.widths.take k)).length ≤ 140737488340000 := by simp [wb_len]; omega
                refine W.region ?_
                refine WL.st (R.mv (.t L5)) rfl ?_
                refine WL.st (R.mv (.t L2)) rfl ?_
                refine WL.st (R.mv (.t L9)) rfl ?_
                obtain ⟨x73, hx73⟩ : ∃ x, (M)[j]? = some x := ⟨_, List.getElem?_eq_getElem (by omega)⟩
                have hxe73 : x27 = x73 := by rw [hx27] at hx73; injection hx73
                subst hxe73
                refine WL.st (R.ixF sl_47 (.t L1) rfl (.t L0) (l := M) (j := j) rfl (List.getElem?_eq_some_iff.1 hx73).1 (by decide) (fun w hb => hb.get.1)) rfl ?_
                refine WL.st (R.fapk fo_95_3 (.t L0) (j := j * 4) (k := 0) (k2 := 3) rfl (fun w hb => RdF.ne (hb.get.1) (List.getElem?_eq_some_iff.1 hx73).1 (by decide))) rfl ?_
                refine WL.st (R.ldp sc_37 (.t L0) (fun w hb => RdF.cell (k := 3) (hb.get.1) hx73 rfl)) rfl ?_
                refine WL.st (R.mv (.t L6)) rfl ?_
                obtain ⟨x77, hx77⟩ : ∃ x, (x27.1.widths)[k]? = some x := ⟨_, List.getElem?_eq_getElem (by omega)⟩
                have hw3 := hw2 k x77 hx77
                refine WL.st (R.ixI sl_37 (.t L1) rfl (.t L0) (l := x27.1.widths) (j := k) rfl (List.getElem?_eq_some_iff.1 hx77).1 (fun w hb => hb.get.2.2)) rfl ?_
                refine WL.st (R.ldp sc_3 (.t L0) (fun w hb => RdI.cell (hb.get.2.2) hx77)) rfl ?_
                refine WL.st (R.cvi Tryd.underlying3 ti_5 (.t L0) (wu8 (by omega) (by omega))) rfl ?_
                refine WL.bs1 sl_22 z_5 rfl (by decide) (by decide) (.t L0) rfl rfl rfl (fun g80 => ?_)
                refine WL.app' ap_22 (.t L10) (.t L0) (fun _ _ => C1) (fun w hb => Rd.of_blk (hb.has H0) rfl) rfl (by unfold maxLen; omega) (by omega) rfl (fun A81 c81 => ?_)
                refine WL.as (.t L0) U17 rfl ?_
                refine WL.nil ?_
                refine QS.blkn ?_
                refine QS.next ?_
                refine W.del (.dr (.dr (.dr (.dr (.dr (.dr (.dr (.dr (.dr (.dr (.dr (.dr .rf)))))))))))) ?_
                refine W.region ?_
                refine WL.st (R.mv (.t L0)) rfl ?_
                refine WL.st (R.add (.t L0) .c (wi (by omega) (by omega))) rfl ?_
                refine WL.as (.t L0) U2 rfl ?_
                refine WL.nil ?_
                exact QS.at ⟨(k + 1, A81, c81), by dsimp only; omega⟩ (show x27.1.widths.length - (k + 1) < x27.1.widths.length - k by omega) (.dr (.dr (.kp rfl (.kp rfl (.kp rfl (.kp rfl (.kp rfl (.kp (by simp [wb_len]; omega) (.kp rfl (.kp rfl .nil)))))))))) (.dr (.kp (chunk_bytes (by simp [wb_len]; omega) (by rw [bcells_app, List.append_assoc, wb_snoc hx77 (hw2 k x77 hx77), bcells_app, bcells_app, bcells_app])) (.kp rfl .nil))) (fun w h hd => ⟨h.1, h.2.1, h.2.2⟩)
              ·
                refine W.del (.dr .rf) ?_
                refine W.exit ?_
                refine QS.thenx ?_
                refine QS.thenx ?_
                refine QS.blkx ?_
                refine QS.blkn ?_
                refine QS.blkn ?_
                refine QS.next ?_
                refine W.region ?_
                refine WL.st (R.mv (.t L7)) rfl ?_
                refine WL.st (R.add (.t L0) .c (wi (by omega) (by omega))) rfl ?_
                refine WL.as (.t L0) U9 rfl ?_
                refine WL.nil ?_
                have htk : x27.1.widths.take k = x27.1.widths := List.take_of_length_le (by omega)
                have hkl : k = x27.1.widths.length := by omega
                have he1 := enc1_12 (o := x27.1) (by omega)
                have hbl : (b ++ encOne x27.1).length ≤ 28 * (j + 1) := by rw [he1]; simp [wb_len]; omega
                have htx : txt x27.1 = [] := txt_0 h3
                have htxl : (txt x27.1).length = 0 := by rw [htx]; rfl
                exact QS.at ⟨((j + 1, b ++ encOne x27.1, s ++ txt x27.1), (A8, c8), As, cs), by dsimp only; omega, enc_go hi2 hL27 hoe, hbl, by dsimp only; rw [List.length_append]; omega⟩ (show M.length - (j + 1) < M.length - j by omega) (.dr (.dr (.dr (.kp rfl (.kp rfl (.kp rfl (.kp rfl (.kp (by simp [he1, wb_len]; try omega) (.kp (by simp [htx]) (.kp rfl .nil)))))))))) (.kp (chunk_bytes (by simp [he1, wb_len]; try omega) (by first | simp [he1, htk, bcells_app] | simp [he1, bcells_app])) (.kp (chunk_bytes (by simp [htx]) (by simp [htx, bcells_app])) .nil)) (fun w h hd => ⟨h.1, h.2.1⟩)
            ·
              refine W.del (.dr .rf) ?_
              refine W.skip ?_
              refine QS.blkn ?_
              refine QS.blkn ?_
              refine QS.next ?_
              refine W.region ?_
              refine WL.st (R.mv (.t L8)) rfl ?_
              refine WL.st (R.add (.t L0) .c (wi (by omega) (by omega))) rfl ?_
              refine WL.as (.t L0) U10 rfl ?_
              refine WL.nil ?_
              have he1 := enc1_no (o := x27.1) (by omega)
              have hbl : (b ++ encOne x27.1).length ≤ 28 * (j + 1) := by rw [he1]; simp [wb_len]; omega
              have htx : txt x27.1 = [] := txt_0 h3
              have htxl : (txt x27.1).length = 0 := by rw [htx]; rfl
              exact QS.at ⟨((j + 1, b ++ encOne x27.1, s ++ txt x27.1), (A43, c43), As, cs), by dsimp only; omega, enc_go hi2 hL27 hoe, hbl, by dsimp only; rw [List.length_append]; omega⟩ (show M.length - (j + 1) < M.length - j by omega) (.dr (.dr (.dr (.dr (.kp rfl (.kp rfl (.kp rfl (.kp rfl (.kp (by simp [he1, wb_len]; try omega) (.kp (by simp [htx]) (.kp rfl .nil))))))))))) (.kp (chunk_bytes (by simp [he1, wb_len]; try omega) (by first | simp [he1, htk, bcells_app] | simp [he1, bcells_app])) (.kp (chunk_bytes (by simp [htx]) (by simp [htx, bcells_app])) .nil)) (fun w h hd => ⟨h.1.1.1, h.1.1.2⟩)
      ·
        refine W.del (.dr .rf) ?_
        refine W.exit ?_
        refine QS.thenx ?_
        refine QS.thenx ?_
        refine QS.blkx ?_
        refine QS.next ?_
        refine W.seq ?_
        have hr := enc_end hi2 (by simp; omega)
        rw [← hS] at hr
        refine W.any mixed (n := 8) rfl ?_
        refine WA.more [0, 1, 3] (by kernel_rfl) (List.cons_ne_nil _ _) ⟨⟨_, rfl, ?_⟩, ⟨_, rfl, ?_⟩, ⟨_, rfl, ?_⟩, trivial⟩
        ·
          refine WL.st (R.mv (.t L4)) rfl ?_
          refine WL.nil (WA.next ?_)
          refine WA.more [1, 3] (by kernel_rfl) (List.cons_ne_nil _ _) ⟨⟨_, rfl, ?_⟩, ⟨_, rfl, ?_⟩, trivial⟩
          ·
            refine WL.bs1 sl_22 z_5 rfl (by decide) (by decide) .c rfl rfl rfl (fun g83 => ?_)
            refine WL.nil (WA.next ?_)
            refine WA.more [2, 3] (by kernel_rfl) (List.cons_ne_nil _ _) ⟨⟨_, rfl, ?_⟩, ⟨_, rfl, ?_⟩, trivial⟩
            ·
              refine WL.app' ap_22 (.t L1) (.t L0) (fun _ _ => C1) (fun w hb => Rd.of_blk (hb.has H0) rfl) rfl (by unfold maxLen; omega) (by omega) rfl (fun A84 c84 => ?_)
              refine WL.nil (WA.next ?_)
              refine WA.more [3, 5] (by kernel_rfl) (List.cons_ne_nil _ _) ⟨⟨_, rfl, ?_⟩, ⟨_, rfl, ?_⟩, trivial⟩
              ·
                refine WL.st (R.mv (.t L8)) rfl ?_
                refine WL.nil (WA.next ?_)
                refine WA.more [4, 5] (by kernel_rfl) (List.cons_ne_nil _ _) ⟨⟨_, rfl, ?_⟩, ⟨_, rfl, ?_⟩, trivial⟩
                ·
                  refine WL.st (R.cvbs by_22 st_9 (.t L0) rfl (fun w hb => rdB_row (hb.has H2))) rfl ?_
                  refine WL.nil (WA.next ?_)
                  refine WA.more [5] (by kernel_rfl) (List.cons_ne_nil _ _) ⟨⟨_, rfl, ?_⟩, trivial⟩
                  refine WL.as (.t L2) U6 rfl ?_
                  refine WL.nil (WA.next ?_)
                  refine WA.more [6] (by kernel_rfl) (List.cons_ne_nil _ _) ⟨⟨_, rfl, ?_⟩, trivial⟩
                  refine WL.as (.t L0) U7 rfl ?_
                  refine WL.nil (WA.next ?_)
                  refine WA.more [7] (by kernel_rfl) (List.cons_ne_nil _ _) ⟨⟨_, rfl, ?_⟩, trivial⟩
                  refine WL.as .c U8 rfl ?_
                  refine WL.nil (WA.next ?_)
                  refine WA.done (by kernel_rfl) ?_
                  refine QS.next ?_
                  refine W.del (.dr (.dr (.dr (.dr (.dr .rf))))) ?_
                  refine W.ret ?_
                  exact QS.fin (.inl rfl) rfl (.tmp L1 (.tmp L2 (.tmp L3 .nil))) (A84, c84) (by rw [hr]; simp [resVal]) (.dr (.dr (.dr .nil))) (fun w h hd => by rw [hr]; exact rdB_rowN hd.2.1 (by simp) (by simp [bcells]))
                ·
                  refine WL.as (.t L1) U5 rfl ?_
                  refine WL.nil (WA.next ?_)
                  refine WA.more [4] (by kernel_rfl) (List.cons_ne_nil _ _) ⟨⟨_, rfl, ?_⟩, trivial⟩
                  refine WL.st (R.cvbs by_22 st_9 (.t L0) rfl (fun w hb => rdB_row (hb.has H2))) rfl ?_
                  refine WL.nil (WA.next ?_)
                  refine WA.more [6] (by kernel_rfl) (List.cons_ne_nil _ _) ⟨⟨_, rfl, ?_⟩, trivial⟩
                  refine WL.as (.t L0) U7 rfl ?_
                  refine WL.nil (WA.next ?_)
                  refine WA.more [7] (by kernel_rfl) (List.cons_ne_nil _ _) ⟨⟨_, rfl, ?_⟩, trivial⟩
                  refine WL.as .c U8 rfl ?_
                  refine WL.nil (WA.next ?_)
                  refine WA.done (by kernel_rfl) ?_
                  refine QS.next ?_
                  refine W.del (.dr (.dr (.dr (.dr (.dr .rf))))) ?_
                  refine W.ret ?_
                  exact QS.fin (.inl rfl) rfl (.tmp L1 (.tmp L2 (.tmp L3 .nil))) (A84, c84) (by rw [hr]; simp [resVal]) (.dr (.dr (.dr .nil))) (fun w h hd => by rw [hr]; exact rdB_rowN hd.2.1 (by simp) (by simp [bcells]))
              ·
                refine WL.as (.t L0) U4 rfl ?_
                refine WL.nil (WA.next ?_)
                refine WA.more [3] (by kernel_rfl) (List.cons_ne_nil _ _) ⟨⟨_, rfl, ?_⟩, trivial⟩
                refine WL.st (R.mv (.t L8)) rfl ?_
                refine WL.nil (WA.next ?_)
                refine WA.more [4] (by kernel_rfl) (List.cons_ne_nil _ _) ⟨⟨_, rfl, ?_⟩, trivial⟩
                refine WL.st (R.cvbs by_22 st_9 (.t L0) rfl (fun w hb => rdB_row (hb.has H2))) rfl ?_
                refine WL.nil (WA.next ?_)
                refine WA.more [6] (by kernel_rfl) (List.cons_ne_nil _ _) ⟨⟨_, rfl, ?_⟩, trivial⟩
                refine WL.as (.t L0) U7 rfl ?_
                refine WL.nil (WA.next ?_)
                refine WA.more [7] (by kernel_rfl) (List.cons_ne_nil _ _) ⟨⟨_, rfl, ?_⟩, trivial⟩
                refine WL.as .c U8 rfl ?_
                refine WL.nil (WA.next ?_)
                refine WA.done (by kernel_rfl) ?_
                refine QS.next ?_
                refine W.del (.dr (.dr (.dr (.dr (.dr .rf))))) ?_
                refine W.ret ?_
                exact QS.fin (.inl rfl) rfl (.tmp L1 (.tmp L2 (.tmp L3 .nil))) (A84, c84) (by rw [hr]; simp [resVal]) (.dr (.dr (.dr .nil))) (fun w h hd => by rw [hr]; exact rdB_rowN hd.2.1 (by simp) (by simp [bcells]))
            ·
              refine WL.st (R.mv (.t L7)) rfl ?_
              refine WL.nil (WA.next ?_)
              refine WA.more [2, 4] (by kernel_rfl) (List.cons_ne_nil _ _) ⟨⟨_, rfl, ?_⟩, ⟨_, rfl, ?_⟩, trivial⟩
              ·
                refine WL.app' ap_22 (.t L2) (.t L1) (fun _ _ => C1) (fun w hb => Rd.of_blk (hb.has H0) rfl) rfl (by unfold maxLen; omega) (by omega) rfl (fun A84 c84 => ?_)
                refine WL.nil (WA.next ?_)
                refine WA.more [4, 5] (by kernel_rfl) (List.cons_ne_nil _ _) ⟨⟨_, rfl, ?_⟩, ⟨_, rfl, ?_⟩, trivial⟩
                ·
                  refine WL.st (R.cvbs by_22 st_9 (.t L1) rfl (fun w hb => rdB_row (hb.has H2))) rfl ?_
                  refine WL.nil (WA.next ?_)
                  refine WA.more [5] (by kernel_rfl) (List.cons_ne_nil _ _) ⟨⟨_, rfl, ?_⟩, trivial⟩
                  refine WL.as (.t L1) U6 rfl ?_
                  refine WL.nil (WA.next ?_)
                  refine WA.more [6] (by kernel_rfl) (List.cons_ne_nil _ _) ⟨⟨_, rfl, ?_⟩, trivial⟩
                  refine WL.as (.t L0) U7 rfl ?_
                  refine WL.nil (WA.next ?_)
                  refine WA.more [7] (by kernel_rfl) (List.cons_ne_nil _ _) ⟨⟨_, rfl, ?_⟩, trivial⟩
                  refine WL.as .c U8 rfl ?_
                  refine WL.nil (WA.next ?_)
                  refine WA.done (by kernel_rfl) ?_
                  refine QS.next ?_
                  refine W.del (.dr (.dr (.dr (.dr (.dr .rf))))) ?_
                  refine W.ret ?_
                  exact QS.fin (.inl rfl) rfl (.tmp L1 (.tmp L2 (.tmp L3 .nil))) (A84, c84) (by rw [hr]; simp [resVal]) (.dr (.dr (.dr .nil))) (fun w h hd => by rw [hr]; exact rdB_rowN hd.2.1 (by simp) (by simp [bcells]))
                ·
                  refine WL.as (.t L0) U5 rfl ?_
                  refine WL.nil (WA.next ?_)
                  refine WA.more [4] (by kernel_rfl) (List.cons_ne_nil _ _) ⟨⟨_, rfl, ?_⟩, trivial⟩
                  refine WL.st (R.cvbs by_22 st_9 (.t L1) rfl (fun w hb => rdB_row (hb.has H2))) rfl ?_
                  refine WL.nil (WA.next ?_)
                  refine WA.more [6] (by kernel_rfl) (List.cons_ne_nil _ _) ⟨⟨_, rfl, ?_⟩, trivial⟩
                  refine WL.as (.t L0) U7 rfl ?_
                  refine WL.nil (WA.next ?_)
                  refine WA.more [7] (by kernel_rfl) (List.cons_ne_nil _ _) ⟨⟨_, rfl, ?_⟩, trivial⟩
                  refine WL.as .c U8 rfl ?_
                  refine WL.nil (WA.next ?_)
                  refine WA.done (by kernel_rfl) ?_
                  refine QS.next ?_
                  refine W.del (.dr (.dr (.dr (.dr (.dr .rf))))) ?_
                  refine W.ret ?_
                  exact QS.fin (.inl rfl) rfl (.tmp L1 (.tmp L2 (.tmp L3 .nil))) (A84, c84) (by rw [hr]; simp [resVal]) (.dr (.dr (.dr .nil))) (fun w h hd => by rw [hr]; exact rdB_rowN hd.2.1 (by simp) (by simp [bcells]))
              ·
                refine WL.st (R.cvbs by_22 st_9 (.t L0) rfl (fun w hb => rdB_row (hb.has H2))) rfl ?_
                refine WL.nil (WA.next ?_)
                refine WA.more [2] (by kernel_rfl) (List.cons_ne_nil _ _) ⟨⟨_, rfl, ?_⟩, trivial⟩
                refine WL.app' ap_22 (.t L3) (.t L2) (fun _ _ => C1) (fun w hb => Rd.of_blk (hb.has H0) rfl) rfl (by unfold maxLen; omega) (by omega) rfl (fun A84 c84 => ?_)
                refine WL.nil (WA.next ?_)
                refine WA.more [5] (by kernel_rfl) (List.cons_ne_nil _ _) ⟨⟨_, rfl, ?_⟩, trivial⟩
                refine WL.as (.t L0) U6 rfl ?_
                refine WL.nil (WA.next ?_)
                refine WA.more [6] (by kernel_rfl) (List.cons_ne_nil _ _) ⟨⟨_, rfl, ?_⟩, trivial⟩
                refine WL.as (.t L1) U7 rfl ?_
                refine WL.nil (WA.next ?_)
                refine WA.more [7] (by kernel_rfl) (List.cons_ne_nil _ _) ⟨⟨_, rfl, ?_⟩, trivial⟩
                refine WL.as .c U8 rfl ?_
                refine WL.nil (WA.next ?_)
                refine WA.done (by kernel_rfl) ?_
                refine QS.next ?_
                refine W.del (.dr (.dr (.dr (.dr (.dr .rf))))) ?_
                refine W.ret ?_
                exact QS.fin (.inl rfl) rfl (.tmp L1 (.tmp L2 (.tmp L3 .nil))) (A84, c84) (by rw [hr]; simp [resVal]) (.dr (.dr (.dr .nil))) (fun w h hd => by rw [hr]; exact rdB_rowN hd.2.1 (by simp) (by simp [bcells]))
          ·
            refine WL.st (R.mv (.t L6)) rfl ?_
            refine WL.nil (WA.next ?_)
            refine WA.more [1, 4] (by kernel_rfl) (List.cons_ne_nil _ _) ⟨⟨_, rfl, ?_⟩, ⟨_, rfl, ?_⟩, trivial⟩
            ·
              refine WL.bs1 sl_22 z_5 rfl (by decide) (by decide) .c rfl rfl rfl (fun g83 => ?_)
              refine WL.nil (WA.next ?_)
              refine WA.more [2, 4] (by kernel_rfl) (List.cons_ne_nil _ _) ⟨⟨_, rfl, ?_⟩, ⟨_, rfl, ?_⟩, trivial⟩
              ·
                refine WL.app' ap_22 (.t L2) (.t L0) (fun _ _ => C1) (fun w hb => Rd.of_blk (hb.has H0) rfl) rfl (by unfold maxLen; omega) (by omega) rfl (fun A84 c84 => ?_)
                refine WL.nil (WA.next ?_)
                refine WA.more [4, 5] (by kernel_rfl) (List.cons_ne_nil _ _) ⟨⟨_, rfl, ?_⟩, ⟨_, rfl, ?_⟩, trivial⟩
                ·
                  refine WL.st (R.cvbs by_22 st_9 (.t L2) rfl (fun w hb => rdB_row (hb.has H2))) rfl ?_
                  refine WL.nil (WA.next ?_)
                  refine WA.more [5] (by kernel_rfl) (List.cons_ne_nil _ _) ⟨⟨_, rfl, ?_⟩, trivial⟩
                  refine WL.as (.t L1) U6 rfl ?_
                  refine WL.nil (WA.next ?_)
                  refine WA.more [6] (by kernel_rfl) (List.cons_ne_nil _ _) ⟨⟨_, rfl, ?_⟩, trivial⟩
                  refine WL.as (.t L0) U7 rfl ?_
                  refine WL.nil (WA.next ?_)
                  refine WA.more [7] (by kernel_rfl) (List.cons_ne_nil _ _) ⟨⟨_, rfl, ?_⟩, trivial⟩
                  refine WL.as .c U8 rfl ?_
                  refine WL.nil (WA.next ?_)
                  refine WA.done (by kernel_rfl) ?_
                  refine QS.next ?_
                  refine W.del (.dr (.dr (.dr (.dr (.dr .rf))))) ?_
                  refine W.ret ?_
                  exact QS.fin (.inl rfl) rfl (.tmp L1 (.tmp L2 (.tmp L3 .nil))) (A84, c84) (by rw [hr]; simp [resVal]) (.dr (.dr (.dr .nil))) (fun w h hd => by rw [hr]; exact rdB_rowN hd.2.1 (by simp) (by simp [bcells]))
                ·
                  refine WL.as (.t L0) U5 rfl ?_
                  refine WL.nil (WA.next ?_)
                  refine WA.more [4] (by kernel_rfl) (List.cons_ne_nil _ _) ⟨⟨_, rfl, ?_⟩, trivial⟩
                  refine WL.st (R.cvbs by_22 st_9 (.t L2) rfl (fun w hb => rdB_row (hb.has H2))) rfl ?_
                  refine WL.nil (WA.next ?_)
                  refine WA.more [6] (by kernel_rfl) (List.cons_ne_nil _ _) ⟨⟨_, rfl, ?_⟩, trivial⟩
                  refine WL.as (.t L0) U7 rfl ?_
                  refine WL.nil (WA.next ?_)
                  refine WA.more [7] (by kernel_rfl) (List.cons_ne_nil _ _) ⟨⟨_, rfl, ?_⟩, trivial⟩
                  refine WL.as .c U8 rfl ?_
                  refine WL.nil (WA.next ?_)
                  refine WA.done (by kernel_rfl) ?_
                  refine QS.next ?_
                  refine W.del (.dr (.dr (.dr (.dr (.dr .rf))))) ?_
                  refine W.ret ?_
                  exact QS.fin (.inl rfl) rfl (.tmp L1 (.tmp L2 (.tmp L3 .nil))) (A84, c84) (by rw [hr]; simp [resVal]) (.dr (.dr (.dr .nil))) (fun w h hd => by rw [hr]; exact rdB_rowN hd.2.1 (by simp) (by simp [bcells]))
              ·
                refine WL.st (R.cvbs by_22 st_9 (.t L1) rfl (fun w hb => rdB_row (hb.has H2))) rfl ?_
                refine WL.nil (WA.next ?_)
                refine WA.more [2] (by kernel_rfl) (List.cons_ne_nil _ _) ⟨⟨_, rfl, ?_⟩, trivial⟩
                refine WL.app' ap_22 (.t L3) (.t L1) (fun _ _ => C1) (fun w hb => Rd.of_blk (hb.has H0) rfl) rfl (by unfold maxLen; omega) (by omega) rfl (fun A84 c84 => ?_)
                refine WL.nil (WA.next ?_)
                refine WA.more [5] (by kernel_rfl) (List.cons_ne_nil _ _) ⟨⟨_, rfl, ?_⟩, trivial⟩
                refine WL.as (.t L0) U6 rfl ?_
                refine WL.nil (WA.next ?_)
                refine WA.more [6] (by kernel_rfl) (List.cons_ne_nil _ _) ⟨⟨_, rfl, ?_⟩, trivial⟩
                refine WL.as (.t L1) U7 rfl ?_
                refine WL.nil (WA.next ?_)
                refine WA.more [7] (by kernel_rfl) (List.cons_ne_nil _ _) ⟨⟨_, rfl, ?_⟩, trivial⟩
                refine WL.as .c U8 rfl ?_
                refine WL.nil (WA.next ?_)
                refine WA.done (by kernel_rfl) ?_
                refine QS.next ?_
                refine W.del (.dr (.dr (.dr (.dr (.dr .rf))))) ?_
                refine W.ret ?_
                exact QS.fin (.inl rfl) rfl (.tmp L1 (.tmp L2 (.tmp L3 .nil))) (A84, c84) (by rw [hr]; simp [resVal]) (.dr (.dr (.dr .nil))) (fun w h hd => by rw [hr]; exact rdB_rowN hd.2.1 (by simp) (by simp [bcells]))
            ·
              refine WL.st (R.cvbs by_22 st_9 (.t L0) rfl (fun w hb => rdB_row (hb.has H1))) rfl ?_
              refine WL.nil (WA.next ?_)
              refine WA.more [1] (by kernel_rfl) (List.cons_ne_nil _ _) ⟨⟨_, rfl, ?_⟩, trivial⟩
              refine WL.bs1 sl_22 z_5 rfl (by decide) (by decide) .c rfl rfl rfl (fun g83 => ?_)
              refine WL.nil (WA.next ?_)
              refine WA.more [2] (by kernel_rfl) (List.cons_ne_nil _ _) ⟨⟨_, rfl, ?_⟩, trivial⟩
              refine WL.app' ap_22 (.t L3) (.t L0) (fun _ _ => C1) (fun w hb => Rd.of_blk (hb.has H0) rfl) rfl (by unfold maxLen; omega) (by omega) rfl (fun A84 c84 => ?_)
              refine WL.nil (WA.next ?_)
              refine WA.more [5] (by kernel_rfl) (List.cons_ne_nil _ _) ⟨⟨_, rfl, ?_⟩, trivial⟩
              refine WL.as (.t L0) U6 rfl ?_
              refine WL.nil (WA.next ?_)
              refine WA.more [6] (by kernel_rfl) (List.cons_ne_nil _ _) ⟨⟨_, rfl, ?_⟩, trivial⟩
              refine WL.as (.t L2) U7 rfl ?_
              refine WL.nil (WA.next ?_)
              refine WA.more [7] (by kernel_rfl) (List.cons_ne_nil _ _) ⟨⟨_, rfl, ?_⟩, trivial⟩
              refine WL.as .c U8 rfl ?_
              refine WL.nil (WA.next ?_)
              refine WA.done (by kernel_rfl) ?_
              refine QS.next ?_
              refine W.del (.dr (.dr (.dr (.dr (.dr .rf))))) ?_
              refine W.ret ?_
              exact QS.fin (.inl rfl) rfl (.tmp L1 (.tmp L2 (.tmp L3 .nil))) (A84, c84) (by rw [hr]; simp [resVal]) (.dr (.dr (.dr .nil))) (fun w h hd => by rw [hr]; exact rdB_rowN hd.2.1 (by simp) (by simp [bcells]))
        ·
          refine WL.bs1 sl_22 z_5 rfl (by decide) (by decide) .c rfl rfl rfl (fun g83 => ?_)
          refine WL.nil (WA.next ?_)
          refine WA.more [0, 3] (by kernel_rfl) (List.cons_ne_nil _ _) ⟨⟨_, rfl, ?_⟩, ⟨_, rfl, ?_⟩, trivial⟩
          ·
            refine WL.st (R.mv (.t L5)) rfl ?_
            refine WL.nil (WA.next ?_)
            refine WA.more [2, 3] (by kernel_rfl) (List.cons_ne_nil _ _) ⟨⟨_, rfl, ?_⟩, ⟨_, rfl, ?_⟩, trivial⟩
            ·
              refine WL.app' ap_22 (.t L0) (.t L1) (fun _ _ => C1) (fun w hb => Rd.of_blk (hb.has H0) rfl) rfl (by unfold maxLen; omega) (by omega) rfl (fun A84 c84 => ?_)
              refine WL.nil (WA.next ?_)
              refine WA.more [3, 5] (by kernel_rfl) (List.cons_ne_nil _ _) ⟨⟨_, rfl, ?_⟩, ⟨_, rfl, ?_⟩, trivial⟩
              ·
                refine WL.st (R.mv (.t L8)) rfl ?_
                refine WL.nil (WA.next ?_)
                refine WA.more [4, 5] (by kernel_rfl) (List.cons_ne_nil _ _) ⟨⟨_, rfl, ?_⟩, ⟨_, rfl, ?_⟩, trivial⟩
                ·
                  refine WL.st (R.cvbs by_22 st_9 (.t L0) rfl (fun w hb => rdB_row (hb.has H2))) rfl ?_
                  refine WL.nil (WA.next ?_)
                  refine WA.more [5] (by kernel_rfl) (List.cons_ne_nil _ _) ⟨⟨_, rfl, ?_⟩, trivial⟩
                  refine WL.as (.t L2) U6 rfl ?_
                  refine WL.nil (WA.next ?_)
                  refine WA.more [6] (by kernel_rfl) (List.cons_ne_nil _ _) ⟨⟨_, rfl, ?_⟩, trivial⟩
                  refine WL.as (.t L0) U7 rfl ?_
                  refine WL.nil (WA.next ?_)
                  refine WA.more [7] (by kernel_rfl) (List.cons_ne_nil _ _) ⟨⟨_, rfl, ?_⟩, trivial⟩
                  refine WL.as .c U8 rfl ?_
                  refine WL.nil (WA.next ?_)
                  refine WA.done (by kernel_rfl) ?_
                  refine QS.next ?_
                  refine W.del (.dr (.dr (.dr (.dr (.dr .rf))))) ?_
                  refine W.ret ?_
                  exact QS.fin (.inl rfl) rfl (.tmp L1 (.tmp L2 (.tmp L3 .nil))) (A84, c84) (by rw [hr]; simp [resVal]) (.dr (.dr (.dr .nil))) (fun w h hd => by rw [hr]; exact rdB_rowN hd.2.1 (by simp) (by simp [bcells]))
                ·
                  refine WL.as (.t L1) U5 rfl ?_
                  refine WL.nil (WA.next ?_)
                  refine WA.more [4] (by kernel_rfl) (List.cons_ne_nil _ _) ⟨⟨_, rfl, ?_⟩, trivial⟩
                  refine WL.st (R.cvbs by_22 st_9 (.t L0) rfl (fun w hb => rdB_row (hb.has H2))) rfl ?_
                  refine WL.nil (WA.next ?_)
                  refine WA.more [6] (by kernel_rfl) (List.cons_ne_nil _ _) ⟨⟨_, rfl, ?_⟩, trivial⟩
                  refine WL.as (.t L0) U7 rfl ?_
                  refine WL.nil (WA.next ?_)
                  refine WA.more [7] (by kernel_rfl) (List.cons_ne_nil _ _) ⟨⟨_, rfl, ?_⟩, trivial⟩
                  refine WL.as .c U8 rfl ?_
                  refine WL.nil (WA.next ?_)
                  refine WA.done (by kernel_rfl) ?_
                  refine QS.next ?_
                  refine W.del (.dr (.dr (.dr (.dr (.dr .rf))))) ?_
                  refine W.ret ?_
                  exact QS.fin (.inl rfl) rfl (.tmp L1 (.tmp L2 (.tmp L3 .nil))) (A84, c84) (by rw [hr]; simp [resVal]) (.dr (.dr (.dr .nil))) (fun w h hd => by rw [hr]; exact rdB_rowN hd.2.1 (by simp) (by simp [bcells]))
              ·
                refine WL.as (.t L0) U4 rfl ?_
                refine WL.nil (WA.next ?_)
                refine WA.more [3] (by kernel_rfl) (List.cons_ne_nil _ _) ⟨⟨_, rfl, ?_⟩, trivial⟩
                refine WL.st (R.mv (.t L8)) rfl ?_
                refine WL.nil (WA.next ?_)
                refine WA.more [4] (by kernel_rfl) (List.cons_ne_nil _ _) ⟨⟨_, rfl, ?_⟩, trivial⟩
                refine WL.st (R.cvbs by_22 st_9 (.t L0) rfl (fun w hb => rdB_row (hb.has H2))) rfl ?_
                refine WL.nil (WA.next ?_)
                refine WA.more [6] (by kernel_rfl) (List.cons_ne_nil _ _) ⟨⟨_, rfl, ?_⟩, trivial⟩
                refine WL.as (.t L0) U7 rfl ?_
                refine WL.nil (WA.next ?_)
                refine WA.more [7] (by kernel_rfl) (List.cons_ne_nil _ _) ⟨⟨_, rfl, ?_⟩, trivial⟩
                refine WL.as .c U8 rfl ?_
                refine WL.nil (WA.next ?_)
                refine WA.done (by kernel_rfl) ?_
                refine QS.next ?_
                refine W.del (.dr (.dr (.dr (.dr (.dr .rf))))) ?_
                refine W.ret ?_
                exact QS.fin (.inl rfl) rfl (.tmp L1 (.tmp L2 (.tmp L3 .nil))) (A84, c84) (by rw [hr]; simp [resVal]) (.dr (.dr (.dr .nil))) (fun w h hd => by rw [hr]; exact rdB_rowN hd.2.1 (by simp) (by simp [bcells]))
            ·
              refine WL.st (R.mv (.t L7)) rfl ?_
              refine WL.nil (WA.next ?_)
              refine WA.more [2, 4] (by kernel_rfl) (List.cons_ne_nil _ _) ⟨⟨_, rfl, ?_⟩, ⟨_, rfl, ?_⟩, trivial⟩
              ·
                refine WL.app' ap_22 (.t L1) (.t L2) (fun _ _ => C1) (fun w hb => Rd.of_blk (hb.has H0) rfl) rfl (by unfold maxLen; omega) (by omega) rfl (fun A84 c84 => ?_)
                refine WL.nil (WA.next ?_)
                refine WA.more [4, 5] (by kernel_rfl) (List.cons_ne_nil _ _) ⟨⟨_, rfl, ?_⟩, ⟨_, rfl, ?_⟩, trivial⟩
                ·
                  refine WL.st (R.cvbs by_22 st_9 (.t L1) rfl (fun w hb => rdB_row (hb.has H2))) rfl ?_
                  refine WL.nil (WA.next ?_)
                  refine WA.more [5] (by kernel_rfl) (List.cons_ne_nil _ _) ⟨⟨_, rfl, ?_⟩, trivial⟩
                  refine WL.as (.t L1) U6 rfl ?_
                  refine WL.nil (WA.next ?_)
                  refine WA.more [6] (by kernel_rfl) (List.cons_ne_nil _ _) ⟨⟨_, rfl, ?_⟩, trivial⟩
                  refine WL.as (.t L0) U7 rfl ?_
                  refine WL.nil (WA.next ?_)
                  refine WA.more [7] (by kernel_rfl) (List.cons_ne_nil _ _) ⟨⟨_, rfl, ?_⟩, trivial⟩
                  refine WL.as .c U8 rfl ?_
                  refine WL.nil (WA.next ?_)
                  refine WA.done (by kernel_rfl) ?_
                  refine QS.next ?_
                  refine W.del (.dr (.dr (.dr (.dr (.dr .rf))))) ?_
                  refine W.ret ?_
                  exact QS.fin (.inl rfl) rfl (.tmp L1 (.tmp L2 (.tmp L3 .nil))) (A84, c84) (by rw [hr]; simp [resVal]) (.dr (.dr (.dr .nil))) (fun w h hd => by rw [hr]; exact rdB_rowN hd.2.1 (by simp) (by simp [bcells]))
                ·
                  refine WL.as (.t L0) U5 rfl ?_
                  refine WL.nil (WA.next ?_)
                  refine WA.more [4] (by kernel_rfl) (List.cons_ne_nil _ _) ⟨⟨_, rfl, ?_⟩, trivial⟩
                  refine WL.st (R.cvbs by_22 st_9 (.t L1) rfl (fun w hb => rdB_row (hb.has H2))) rfl ?_
                  refine WL.nil (WA.next ?_)
                  refine WA.more [6] (by kernel_rfl) (List.cons_ne_nil _ _) ⟨⟨_, rfl, ?_⟩, trivial⟩
                  refine WL.as (.t L0) U7 rfl ?_
                  refine WL.nil (WA.next ?_)
                  refine WA.more [7] (by kernel_rfl) (List.cons_ne_nil _ _) ⟨⟨_, rfl, ?_⟩, trivial⟩
                  refine WL.as .c U8 rfl ?_
                  refine WL.nil (WA.next ?_)
                  refine WA.done (by kernel_rfl) ?_
                  refine QS.next ?_
                  refine W.del (.dr (.dr (.dr (.dr (.dr .rf))))) ?_
                  refine W.ret ?_
                  exact QS.fin (.inl rfl) rfl (.tmp L1 (.tmp L2 (.tmp L3 .nil))) (A84, c84) (by rw [hr]; simp [resVal]) (.dr (.dr (.dr .nil))) (fun w h hd => by rw [hr]; exact rdB_rowN hd.2.1 (by simp) (by simp [bcells]))
              ·
                refine WL.st (R.cvbs by_22 st_9 (.t L0) rfl (fun w hb => rdB_row (hb.has H2))) rfl ?_
                refine WL.nil (WA.next ?_)
                refine WA.more [2] (by kernel_rfl) (List.cons_ne_nil _ _) ⟨⟨_, rfl, ?_⟩, trivial⟩
                refine WL.app' ap_22 (.t L2) (.t L3) (fun _ _ => C1) (fun w hb => Rd.of_blk (hb.has H0) rfl) rfl (by unfold maxLen; omega) (by omega) rfl (fun A84 c84 => ?_)
                refine WL.nil (WA.next ?_)
                refine WA.more [5] (by kernel_rfl) (List.cons_ne_nil _ _) ⟨⟨_, rfl, ?_⟩, trivial⟩
                refine WL.as (.t L0) U6 rfl ?_
                refine WL.nil (WA.next ?_)
                refine WA.more [6] (by kernel_rfl) (List.cons_ne_nil _ _) ⟨⟨_, rfl, ?_⟩, trivial⟩
                refine WL.as (.t L1) U7 rfl ?_
                refine WL.nil (WA.next ?_)
                refine WA.more [7] (by kernel_rfl) (List.cons_ne_nil _ _) ⟨⟨_, rfl, ?_⟩, trivial⟩
                refine WL.as .c U8 rfl ?_
                refine WL.nil (WA.next ?_)
                refine WA.done (by kernel_rfl) ?_
                refine QS.next ?_
                refine W.del (.dr (.dr (.dr (.dr (.dr .rf))))) ?_
                refine W.ret ?_
                exact QS.fin (.inl rfl) rfl (.tmp L1 (.tmp L2 (.tmp L3 .nil))) (A84, c84) (by rw [hr]; simp [resVal]) (.dr (.dr (.dr .nil))) (fun w h hd => by rw [hr]; exact rdB_rowN hd.2.1 (by simp) (by simp [bcells]))
          ·
            refine WL.st (R.mv (.t L6)) rfl ?_
            refine WL.nil (WA.next ?_)
            refine WA.more [0, 4] (by kernel_rfl) (List.cons_ne_nil _ _) ⟨⟨_, rfl, ?_⟩, ⟨_, rfl, ?_⟩, trivial⟩
            ·
              refine WL.st (R.mv (.t L6)) rfl ?_
              refine WL.nil (WA.next ?_)
              refine WA.more [2, 4] (by kernel_rfl) (List.cons_ne_nil _ _) ⟨⟨_, rfl, ?_⟩, ⟨_, rfl, ?_⟩, trivial⟩
              ·
                refine WL.app' ap_22 (.t L0) (.t L2) (fun _ _ => C1) (fun w hb => Rd.of_blk (hb.has H0) rfl) rfl (by unfold maxLen; omega) (by omega) rfl (fun A84 c84 => ?_)
                refine WL.nil (WA.next ?_)
                refine WA.more [4, 5] (by kernel_rfl) (List.cons_ne_nil _ _) ⟨⟨_, rfl, ?_⟩, ⟨_, rfl, ?_⟩, trivial⟩
                ·
                  refine WL.st (R.cvbs by_22 st_9 (.t L2) rfl (fun w hb => rdB_row (hb.has H2))) rfl ?_
                  refine WL.nil (WA.next ?_)
                  refine WA.more [5] (by kernel_rfl) (List.cons_ne_nil _ _) ⟨⟨_, rfl, ?_⟩, trivial⟩
                  refine WL.as (.t L1) U6 rfl ?_
                  refine WL.nil (WA.next ?_)
                  refine WA.more [6] (by kernel_rfl) (List.cons_ne_nil _ _) ⟨⟨_, rfl, ?_⟩, trivial⟩
                  refine WL.as (.t L0) U7 rfl ?_
                  refine WL.nil (WA.next ?_)
                  refine WA.more [7] (by kernel_rfl) (List.cons_ne_nil _ _) ⟨⟨_, rfl, ?_⟩, trivial⟩
                  refine WL.as .c U8 rfl ?_
                  refine WL.nil (WA.next ?_)
                  refine WA.done (by kernel_rfl) ?_
                  refine QS.next ?_
                  refine W.del (.dr (.dr (.dr (.dr (.dr .rf))))) ?_
                  refine W.ret ?_
                  exact QS.fin (.inl rfl) rfl (.tmp L1 (.tmp L2 (.tmp L3 .nil))) (A84, c84) (by rw [hr]; simp [resVal]) (.dr (.dr (.dr .nil))) (fun w h hd => by rw [hr]; exact rdB_rowN hd.2.1 (by simp) (by simp [bcells]))
                ·
                  refine WL.as (.t L0) U5 rfl ?_
                  refine WL.nil (WA.next ?_)
                  refine WA.more [4] (by kernel_rfl) (List.cons_ne_nil _ _) ⟨⟨_, rfl, ?_⟩, trivial⟩
                  refine WL.st (R.cvbs by_22 st_9 (.t L2) rfl (fun w hb => rdB_row (hb.has H2))) rfl ?_
                  refine WL.nil (WA.next ?_)
                  refine WA.more [6] (by kernel_rfl) (List.cons_ne_nil _ _) ⟨⟨_, rfl, ?_⟩, trivial⟩
                  refine WL.as (.t L0) U7 rfl ?_
                  refine WL.nil (WA.next ?_)
                  refine WA.more [7] (by kernel_rfl) (List.cons_ne_nil _ _) ⟨⟨_, rfl, ?_⟩, trivial⟩
                  refine WL.as .c U8 rfl ?_
                  refine WL.nil (WA.next ?_)
                  refine WA.done (by kernel_rfl) ?_
                  refine QS.next ?_
                  refine W.del (.dr (.dr (.dr (.dr (.dr .rf))))) ?_
                  refine W.ret ?_
                  exact QS.fin (.inl rfl) rfl (.tmp L1 (.tmp L2 (.tmp L3 .nil))) (A84, c84) (by rw [hr]; simp [resVal]) (.dr (.dr (.dr .nil))) (fun w h hd => by rw [hr]; exact rdB_rowN hd.2.1 (by simp) (by simp [bcells]))
              ·
                refine WL.st (R.cvbs by_22 st_9 (.t L1) rfl (fun w hb => rdB_row (hb.has H2))) rfl ?_
                refine WL.nil (WA.next ?_)
                refine WA.more [2] (by kernel_rfl) (List.cons_ne_nil _ _) ⟨⟨_, rfl, ?_⟩, trivial⟩
                refine WL.app' ap_22 (.t L1) (.t L3) (fun _ _ => C1) (fun w hb => Rd.of_blk (hb.has H0) rfl) rfl (by unfold maxLen; omega) (by omega) rfl (fun A84 c84 => ?_)
                refine WL.nil (WA.next ?_)
                refine WA.more [5] (by kernel_rfl) (List.cons_ne_nil _ _) ⟨⟨_, rfl, ?_⟩, trivial⟩
                refine WL.as (.t L0) U6 rfl ?_
                refine WL.nil (WA.next ?_)
                refine WA.more [6] (by kernel_rfl) (List.cons_ne_nil _ _) ⟨⟨_, rfl, ?_⟩, trivial⟩
                refine WL.as (.t L1) U7 rfl ?_
                refine WL.nil (WA.next ?_)
                refine WA.more [7] (by kernel_rfl) (List.cons_ne_nil _ _) ⟨⟨_, rfl, ?_⟩, trivial⟩
                refine WL.as .c U8 rfl ?_
                refine WL.nil (WA.next ?_)
                refine WA.done (by kernel_rfl) ?_
                refine QS.next ?_
                refine W.del (.dr (.dr (.dr (.dr (.dr .rf))))) ?_
                refine W.ret ?_
                exact QS.fin (.inl rfl) rfl (.tmp L1 (.tmp L2 (.tmp L3 .nil))) (A84, c84) (by rw [hr]; simp [resVal]) (.dr (.dr (.dr .nil))) (fun w h hd => by rw [hr]; exact rdB_rowN hd.2.1 (by simp) (by simp [bcells]))
            ·
              refine WL.st (R.cvbs by_22 st_9 (.t L0) rfl (fun w hb => rdB_row (hb.has H2))) rfl ?_
              refine WL.nil (WA.next ?_)
              refine WA.more [0] (by kernel_rfl) (List.cons_ne_nil _ _) ⟨⟨_, rfl, ?_⟩, trivial⟩
              refine WL.st (R.mv (.t L7)) rfl ?_
              refine WL.nil (WA.next ?_)
              refine WA.more [2] (by kernel_rfl) (List.cons_ne_nil _ _) ⟨⟨_, rfl, ?_⟩, trivial⟩
              refine WL.app' ap_22 (.t L0) (.t L3) (fun _ _ => C1) (fun w hb => Rd.of_blk (hb.has H0) rfl) rfl (by unfold maxLen; omega) (by omega) rfl (fun A84 c84 => ?_)
              refine WL.nil (WA.next ?_)
              refine WA.more [5] (by kernel_rfl) (List.cons_ne_nil _ _) ⟨⟨_, rfl, ?_⟩, trivial⟩
              refine WL.as (.t L0) U6 rfl ?_
              refine WL.nil (WA.next ?_)
              refine WA.more [6] (by kernel_rfl) (List.cons_ne_nil _ _) ⟨⟨_, rfl, ?_⟩, trivial⟩
              refine WL.as (.t L2) U7 rfl ?_
              refine WL.nil (WA.next ?_)
              refine WA.more [7] (by kernel_rfl) (List.cons_ne_nil _ _) ⟨⟨_, rfl, ?_⟩, trivial⟩
              refine WL.as .c U8 rfl ?_
              refine WL.nil (WA.next ?_)
              refine WA.done (by kernel_rfl) ?_
              refine QS.next ?_
              refine W.del (.dr (.dr (.dr (.dr (.dr .rf))))) ?_
              refine W.ret ?_
              exact QS.fin (.inl rfl) rfl (.tmp L1 (.tmp L2 (.tmp L3 .nil))) (A84, c84) (by rw [hr]; simp [resVal]) (.dr (.dr (.dr .nil))) (fun w h hd => by rw [hr]; exact rdB_rowN hd.2.1 (by simp) (by simp [bcells]))
        ·
          refine WL.st (R.mv (.t L5)) rfl ?_
          refine WL.nil (WA.next ?_)
          refine WA.more [0, 1, 4] (by kernel_rfl) (List.cons_ne_nil _ _) ⟨⟨_, rfl, ?_⟩, ⟨_, rfl, ?_⟩, ⟨_, rfl, ?_⟩, trivial⟩
          ·
            refine WL.st (R.mv (.t L5)) rfl ?_
            refine WL.nil (WA.next ?_)
            refine WA.more [1, 4] (by kernel_rfl) (List.cons_ne_nil _ _) ⟨⟨_, rfl, ?_⟩, ⟨_, rfl, ?_⟩, trivial⟩
            ·
              refine WL.bs1 sl_22 z_5 rfl (by decide) (by decide) .c rfl rfl rfl (fun g83 => ?_)
              refine WL.nil (WA.next ?_)
              refine WA.more [2, 4] (by kernel_rfl) (List.cons_ne_nil _ _) ⟨⟨_, rfl, ?_⟩, ⟨_, rfl, ?_⟩, trivial⟩
              ·
                refine WL.app' ap_22 (.t L1) (.t L0) (fun _ _ => C1) (fun w hb => Rd.of_blk (hb.has H0) rfl) rfl (by unfold maxLen; omega) (by omega) rfl (fun A84 c84 => ?_)
                refine WL.nil (WA.next ?_)
                refine WA.more [4, 5] (by kernel_rfl) (List.cons_ne_nil _ _) ⟨⟨_, rfl, ?_⟩, ⟨_, rfl, ?_⟩, trivial⟩
                ·
                  refine WL.st (R.cvbs by_22 st_9 (.t L3) rfl (fun w hb => rdB_row (hb.has H2))) rfl ?_
                  refine WL.nil (WA.next ?_)
                  refine WA.more [5] (by kernel_rfl) (List.cons_ne_nil _ _) ⟨⟨_, rfl, ?_⟩, trivial⟩
                  refine WL.as (.t L1) U6 rfl ?_
                  refine WL.nil (WA.next ?_)
                  refine WA.more [6] (by kernel_rfl) (List.cons_ne_nil _ _) ⟨⟨_, rfl, ?_⟩, trivial⟩
                  refine WL.as (.t L0) U7 rfl ?_
                  refine WL.nil (WA.next ?_)
                  refine WA.more [7] (by kernel_rfl) (List.cons_ne_nil _ _) ⟨⟨_, rfl, ?_⟩, trivial⟩
                  refine WL.as .c U8 rfl ?_
                  refine WL.nil (WA.next ?_)
                  refine WA.done (by kernel_rfl) ?_
                  refine QS.next ?_
                  refine W.del (.dr (.dr (.dr (.dr (.dr .rf))))) ?_
                  refine W.ret ?_
                  exact QS.fin (.inl rfl) rfl (.tmp L1 (.tmp L2 (.tmp L3 .nil))) (A84, c84) (by rw [hr]; simp [resVal]) (.dr (.dr (.dr .nil))) (fun w h hd => by rw [hr]; exact rdB_rowN hd.2.1 (by simp) (by simp [bcells]))
                ·
                  refine WL.as (.t L0) U5 rfl ?_
                  refine WL.nil (WA.next ?_)
                  refine WA.more [4] (by kernel_rfl) (List.cons_ne_nil _ _) ⟨⟨_, rfl, ?_⟩, trivial⟩
                  refine WL.st (R.cvbs by_22 st_9 (.t L3) rfl (fun w hb => rdB_row (hb.has H2))) rfl ?_
                  refine WL.nil (WA.next ?_)
                  refine WA.more [6] (by kernel_rfl) (List.cons_ne_nil _ _) ⟨⟨_, rfl, ?_⟩, trivial⟩
                  refine WL.as (.t L0) U7 rfl ?_
                  refine WL.nil (WA.next ?_)
                  refine WA.more [7] (by kernel_rfl) (List.cons_ne_nil _ _) ⟨⟨_, rfl, ?_⟩, trivial⟩
                  refine WL.as .c U8 rfl ?_
                  refine WL.nil (WA.next ?_)
                  refine WA.done (by kernel_rfl) ?_
                  refine QS.next ?_
                  refine W.del (.dr (.dr (.dr (.dr (.dr .rf))))) ?_
                  refine W.ret ?_
                  exact QS.fin (.inl rfl) rfl (.tmp L1 (.tmp L2 (.tmp L3 .nil))) (A84, c84) (by rw [hr]; simp [resVal]) (.dr (.dr (.dr .nil))) (fun w h hd => by rw [hr]; exact rdB_rowN hd.2.1 (by simp) (by simp [bcells]))
              ·
                refine WL.st (R.cvbs by_22 st_9 (.t L2) rfl (fun w hb => rdB_row (hb.has H2))) rfl ?_
                refine WL.nil (WA.next ?_)
                refine WA.more [2] (by kernel_rfl) (List.cons_ne_nil _ _) ⟨⟨_, rfl, ?_⟩, trivial⟩
                refine WL.app' ap_22 (.t L2) (.t L1) (fun _ _ => C1) (fun w hb => Rd.of_blk (hb.has H0) rfl) rfl (by unfold maxLen; omega) (by omega) rfl (fun A84 c84 => ?_)
                refine WL.nil (WA.next ?_)
                refine WA.more [5] (by kernel_rfl) (List.cons_ne_nil _ _) ⟨⟨_, rfl, ?_⟩, trivial⟩
                refine WL.as (.t L0) U6 rfl ?_
                refine WL.nil (WA.next ?_)
                refine WA.more [6] (by kernel_rfl) (List.cons_ne_nil _ _) ⟨⟨_, rfl, ?_⟩, trivial⟩
                refine WL.as (.t L1) U7 rfl ?_
                refine WL.nil (WA.next ?_)
                refine WA.more [7] (by kernel_rfl) (List.cons_ne_nil _ _) ⟨⟨_, rfl, ?_⟩, trivial⟩
                refine WL.as .c U8 rfl ?_
                refine WL.nil (WA.next ?_)
                refine WA.done (by kernel_rfl) ?_
                refine QS.next ?_
                refine W.del (.dr (.dr (.dr (.dr (.dr .rf))))) ?_
                refine W.ret ?_
                exact QS.fin (.inl rfl) rfl (.tmp L1 (.tmp L2 (.tmp L3 .nil))) (A84, c84) (by rw [hr]; simp [resVal]) (.dr (.dr (.dr .nil))) (fun w h hd => by rw [hr]; exact rdB_rowN hd.2.1 (by simp) (by simp [bcells]))
            ·
              refine WL.st (R.cvbs by_22 st_9 (.t L1) rfl (fun w hb => rdB_row (hb.has H1))) rfl ?_
              refine WL.nil (WA.next ?_)
              refine WA.more [1] (by kernel_rfl) (List.cons_ne_nil _ _) ⟨⟨_, rfl, ?_⟩, trivial⟩
              refine WL.bs1 sl_22 z_5 rfl (by decide) (by decide) .c rfl rfl rfl (fun g83 => ?_)
              refine WL.nil (WA.next ?_)
              refine WA.more [2] (by kernel_rfl) (List.cons_ne_nil _ _) ⟨⟨_, rfl, ?_⟩, trivial⟩
              refine WL.app' ap_22 (.t L2) (.t L0) (fun _ _ => C1) (fun w hb => Rd.of_blk (hb.has H0) rfl) rfl (by unfold maxLen; omega) (by omega) rfl (fun A84 c84 => ?_)
              refine WL.nil (WA.next ?_)
              refine WA.more [5] (by kernel_rfl) (List.cons_ne_nil _ _) ⟨⟨_, rfl, ?_⟩, trivial⟩
              refine WL.as (.t L0) U6 rfl ?_
              refine WL.nil (WA.next ?_)
              refine WA.more [6] (by kernel_rfl) (List.cons_ne_nil _ _) ⟨⟨_, rfl, ?_⟩, trivial⟩
              refine WL.as (.t L2) U7 rfl ?_
              refine WL.nil (WA.next ?_)
              refine WA.more [7] (by kernel_rfl) (List.cons_ne_nil _ _) ⟨⟨_, rfl, ?_⟩, trivial⟩
              refine WL.as .c U8 rfl ?_
              refine WL.nil (WA.next ?_)
              refine WA.done (by kernel_rfl) ?_
              refine QS.next ?_
              refine W.del (.dr (.dr (.dr (.dr (.dr .rf))))) ?_
              refine W.ret ?_
              exact QS.fin (.inl rfl) rfl (.tmp L1 (.tmp L2 (.tmp L3 .nil))) (A84, c84) (by rw [hr]; simp [resVal]) (.dr (.dr (.dr .nil))) (fun w h hd => by rw [hr]; exact rdB_rowN hd.2.1 (by simp) (by simp [bcells]))
          ·
            refine WL.bs1 sl_22 z_5 rfl (by decide) (by decide) .c rfl rfl rfl (fun g83 => ?_)
            refine WL.nil (WA.next ?_)
            refine WA.more [0, 4] (by kernel_rfl) (List.cons_ne_nil _ _) ⟨⟨_, rfl, ?_⟩, ⟨_, rfl, ?_⟩, trivial⟩
            ·
              refine WL.st (R.mv (.t L6)) rfl ?_
              refine WL.nil (WA.next ?_)
              refine WA.more [2, 4] (by kernel_rfl) (List.cons_ne_nil _ _) ⟨⟨_, rfl, ?_⟩, ⟨_, rfl, ?_⟩, trivial⟩
              ·
                refine WL.app' ap_22 (.t L0) (.t L1) (fun _ _ => C1) (fun w hb => Rd.of_blk (hb.has H0) rfl) rfl (by unfold maxLen; omega) (by omega) rfl (fun A84 c84 => ?_)
                refine WL.nil (WA.next ?_)
                refine WA.more [4, 5] (by kernel_rfl) (List.cons_ne_nil _ _) ⟨⟨_, rfl, ?_⟩, ⟨_, rfl, ?_⟩, trivial⟩
                ·
                  refine WL.st (R.cvbs by_22 st_9 (.t L3) rfl (fun w hb => rdB_row (hb.has H2))) rfl ?_
                  refine WL.nil (WA.next ?_)
                  refine WA.more [5] (by kernel_rfl) (List.cons_ne_nil _ _) ⟨⟨_, rfl, ?_⟩, trivial⟩
                  refine WL.as (.t L1) U6 rfl ?_
                  refine WL.nil (WA.next ?_)
                  refine WA.more [6] (by kernel_rfl) (List.cons_ne_nil _ _) ⟨⟨_, rfl, ?_⟩, trivial⟩
                  refine WL.as (.t L0) U7 rfl ?_
                  refine WL.nil (WA.next ?_)
                  refine WA.more [7] (by kernel_rfl) (List.cons_ne_nil _ _) ⟨⟨_, rfl, ?_⟩, trivial⟩
                  refine WL.as .c U8 rfl ?_
                  refine WL.nil (WA.next ?_)
                  refine WA.done (by kernel_rfl) ?_
                  refine QS.next ?_
                  refine W.del (.dr (.dr (.dr (.dr (.dr .rf))))) ?_
                  refine W.ret ?_
                  exact QS.fin (.inl rfl) rfl (.tmp L1 (.tmp L2 (.tmp L3 .nil))) (A84, c84) (by rw [hr]; simp [resVal]) (.dr (.dr (.dr .nil))) (fun w h hd => by rw [hr]; exact rdB_rowN hd.2.1 (by simp) (by simp [bcells]))
                ·
                  refine WL.as (.t L0) U5 rfl ?_
                  refine WL.nil (WA.next ?_)
                  refine WA.more [4] (by kernel_rfl) (List.cons_ne_nil _ _) ⟨⟨_, rfl, ?_⟩, trivial⟩
                  refine WL.st (R.cvbs by_22 st_9 (.t L3) rfl (fun w hb => rdB_row (hb.has H2))) rfl ?_
                  refine WL.nil (WA.next ?_)
                  refine WA.more [6] (by kernel_rfl) (List.cons_ne_nil _ _) ⟨⟨_, rfl, ?_⟩, trivial⟩
                  refine WL.as (.t L0) U7 rfl ?_
                  refine WL.nil (WA.next ?_)
                  refine WA.more [7] (by kernel_rfl) (List.cons_ne_nil _ _) ⟨⟨_, rfl, ?_⟩, trivial⟩
                  refine WL.as .c U8 rfl ?_
                  refine WL.nil (WA.next ?_)
                  refine WA.done (by kernel_rfl) ?_
                  refine QS.next ?_
                  refine W.del (.dr (.dr (.dr (.dr (.dr .rf))))) ?_
                  refine W.ret ?_
                  exact QS.fin (.inl rfl) rfl (.tmp L1 (.tmp L2 (.tmp L3 .nil))) (A84, c84) (by rw [hr]; simp [resVal]) (.dr (.dr (.dr .nil))) (fun w h hd => by rw [hr]; exact rdB_rowN hd.2.1 (by simp) (by simp [bcells]))
              ·
                refine WL.st (R.cvbs by_22 st_9 (.t L2) rfl (fun w hb => rdB_row (hb.has H2))) rfl ?_
                refine WL.nil (WA.next ?_)
                refine WA.more [2] (by kernel_rfl) (List.cons_ne_nil _ _) ⟨⟨_, rfl, ?_⟩, trivial⟩
                refine WL.app' ap_22 (.t L1) (.t L2) (fun _ _ => C1) (fun w hb => Rd.of_blk (hb.has H0) rfl) rfl (by unfold maxLen; omega) (by omega) rfl (fun A84 c84 => ?_)
                refine WL.nil (WA.next ?_)
                refine WA.more [5] (by kernel_rfl) (List.cons_ne_nil _ _) ⟨⟨_, rfl, ?_⟩, trivial⟩
                refine WL.as (.t L0) U6 rfl ?_
                refine WL.nil (WA.next ?_)
                refine WA.more [6] (by kernel_rfl) (List.cons_ne_nil _ _) ⟨⟨_, rfl, ?_⟩, trivial⟩
                refine WL.as (.t L1) U7 rfl ?_
                refine WL.nil (WA.next ?_)
                refine WA.more [7] (by kernel_rfl) (List.cons_ne_nil _ _) ⟨⟨_, rfl, ?_⟩, trivial⟩
                refine WL.as .c U8 rfl ?_
                refine WL.nil (WA.next ?_)
                refine WA.done (by kernel_rfl) ?_
                refine QS.next ?_
                refine W.del (.dr (.dr (.dr (.dr (.dr .rf))))) ?_
                refine W.ret ?_
                exact QS.fin (.inl rfl) rfl (.tmp L1 (.tmp L2 (.tmp L3 .nil))) (A84, c84) (by rw [hr]; simp [resVal]) (.dr (.dr (.dr .nil))) (fun w h hd => by rw [hr]; exact rdB_rowN hd.2.1 (by simp) (by simp [bcells]))
            ·
              refine WL.st (R.cvbs by_22 st_9 (.t L1) rfl (fun w hb => rdB_row (hb.has H2))) rfl ?_
              refine WL.nil (WA.next ?_)
              refine WA.more [0] (by kernel_rfl) (List.cons_ne_nil _ _) ⟨⟨_, rfl, ?_⟩, trivial⟩
              refine WL.st (R.mv (.t L7)) rfl ?_
              refine WL.nil (WA.next ?_)
              refine WA.more [2] (by kernel_rfl) (List.cons_ne_nil _ _) ⟨⟨_, rfl, ?_⟩, trivial⟩
              refine WL.app' ap_22 (.t L0) (.t L2) (fun _ _ => C1) (fun w hb => Rd.of_blk (hb.has H0) rfl) rfl (by unfold maxLen; omega) (by omega) rfl (fun A84 c84 => ?_)
              refine WL.nil (WA.next ?_)
              refine WA.more [5] (by kernel_rfl) (List.cons_ne_nil _ _) ⟨⟨_, rfl, ?_⟩, trivial⟩
              refine WL.as (.t L0) U6 rfl ?_
              refine WL.nil (WA.next ?_)
              refine WA.more [6] (by kernel_rfl) (List.cons_ne_nil _ _) ⟨⟨_, rfl, ?_⟩, trivial⟩
              refine WL.as (.t L2) U7 rfl ?_
              refine WL.nil (WA.next ?_)
              refine WA.more [7] (by kernel_rfl) (List.cons_ne_nil _ _) ⟨⟨_, rfl, ?_⟩, trivial⟩
              refine WL.as .c U8 rfl ?_
              refine WL.nil (WA.next ?_)
              refine WA.done (by kernel_rfl) ?_
              refine QS.next ?_
              refine W.del (.dr (.dr (.dr (.dr (.dr .rf))))) ?_
              refine W.ret ?_
              exact QS.fin (.inl rfl) rfl (.tmp L1 (.tmp L2 (.tmp L3 .nil))) (A84, c84) (by rw [hr]; simp [resVal]) (.dr (.dr (.dr .nil))) (fun w h hd => by rw [hr]; exact rdB_rowN hd.2.1 (by simp) (by simp [bcells]))
          ·
            refine WL.st (R.cvbs by_22 st_9 (.t L0) rfl (fun w hb => rdB_row (hb.has H1))) rfl ?_
            refine WL.nil (WA.next ?_)
            refine WA.more [0, 1] (by kernel_rfl) (List.cons_ne_nil _ _) ⟨⟨_, rfl, ?_⟩, ⟨_, rfl, ?_⟩, trivial⟩
            ·
              refine WL.st (R.mv (.t L6)) rfl ?_
              refine WL.nil (WA.next ?_)
              refine WA.more [1] (by kernel_rfl) (List.cons_ne_nil _ _) ⟨⟨_, rfl, ?_⟩, trivial⟩
              refine WL.bs1 sl_22 z_5 rfl (by decide) (by decide) .c rfl rfl rfl (fun g83 => ?_)
              refine WL.nil (WA.next ?_)
              refine WA.more [2] (by kernel_rfl) (List.cons_ne_nil _ _) ⟨⟨_, rfl, ?_⟩, trivial⟩
              refine WL.app' ap_22 (.t L1) (.t L0) (fun _ _ => C1) (fun w hb => Rd.of_blk (hb.has H0) rfl) rfl (by unfold maxLen; omega) (by omega) rfl (fun A84 c84 => ?_)
              refine WL.nil (WA.next ?_)
              refine WA.more [5] (by kernel_rfl) (List.cons_ne_nil _ _) ⟨⟨_, rfl, ?_⟩, trivial⟩
              refine WL.as (.t L0) U6 rfl ?_
              refine WL.nil (WA.next ?_)
              refine WA.more [6] (by kernel_rfl) (List.cons_ne_nil _ _) ⟨⟨_, rfl, ?_⟩, trivial⟩
              refine WL.as (.t L3) U7 rfl ?_
              refine WL.nil (WA.next ?_)
              refine WA.more [7] (by kernel_rfl) (List.cons_ne_nil _ _) ⟨⟨_, rfl, ?_⟩, trivial⟩
              refine WL.as .c U8 rfl ?_
              refine WL.nil (WA.next ?_)
              refine WA.done (by kernel_rfl) ?_
              refine QS.next ?_
              refine W.del (.dr (.dr (.dr (.dr (.dr .rf))))) ?_
              refine W.ret ?_
              exact QS.fin (.inl rfl) rfl (.tmp L1 (.tmp L2 (.tmp L3 .nil))) (A84, c84) (by rw [hr]; simp [resVal]) (.dr (.dr (.dr .nil))) (fun w h hd => by rw [hr]; exact rdB_rowN hd.2.1 (by simp) (by simp [bcells]))
            ·
              refine WL.bs1 sl_22 z_5 rfl (by decide) (by decide) .c rfl rfl rfl (fun g83 => ?_)
              refine WL.nil (WA.next ?_)
              refine WA.more [0] (by kernel_rfl) (List.cons_ne_nil _ _) ⟨⟨_, rfl, ?_⟩, trivial⟩
              refine WL.st (R.mv (.t L7)) rfl ?_
              refine WL.nil (WA.next ?_)
              refine WA.more [2] (by kernel_rfl) (List.cons_ne_nil _ _) ⟨⟨_, rfl, ?_⟩, trivial⟩
              refine WL.app' ap_22 (.t L0) (.t L1) (fun _ _ => C1) (fun w hb => Rd.of_blk (hb.has H0) rfl) rfl (by unfold maxLen; omega) (by omega) rfl (fun A84 c84 => ?_)
              refine WL.nil (WA.next ?_)
              refine WA.more [5] (by kernel_rfl) (List.cons_ne_nil _ _) ⟨⟨_, rfl, ?_⟩, trivial⟩
              refine WL.as (.t L0) U6 rfl ?_
              refine WL.nil (WA.next ?_)
              refine WA.more [6] (by kernel_rfl) (List.cons_ne_nil _ _) ⟨⟨_, rfl, ?_⟩, trivial⟩
              refine WL.as (.t L3) U7 rfl ?_
              refine WL.nil (WA.next ?_)
              refine WA.more [7] (by kernel_rfl) (List.cons_ne_nil _ _) ⟨⟨_, rfl, ?_⟩, trivial⟩
              refine WL.as .c U8 rfl ?_
              refine WL.nil (WA.next ?_)
              refine WA.done (by kernel_rfl) ?_
              refine QS.next ?_
              refine W.del (.dr (.dr (.dr (.dr (.dr .rf))))) ?_
              refine W.ret ?_
              exact QS.fin (.inl rfl) rfl (.tmp L1 (.tmp L2 (.tmp L3 .nil))) (A84, c84) (by rw [hr]; simp [resVal]) (.dr (.dr (.dr .nil))) (fun w h hd => by rw [hr]; exact rdB_rowN hd.2.1 (by simp) (by simp [bcells]))

end Go.Proofs.YtpaecijilnfkhaaDoor
