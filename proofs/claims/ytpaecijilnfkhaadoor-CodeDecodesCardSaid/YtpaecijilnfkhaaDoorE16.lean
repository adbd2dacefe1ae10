/- Contracts: encoding. -/
import Derived.Test.YtpaecijilnfkhaaDoorA2
import Derived.Test.YtpaecijilnfkhaaDoorPe

namespace Go.Proofs.YtpaecijilnfkhaaDoor
open Go Go.Eng Go.RowKit
theorem octet_grown {A : Option Addr} {b : List UInt8} {c k : Nat} (hl : b.length ≤ 140737488351232) (hk : k ≤ 1000) {C : Cx} (hb : Hb C C.w0 [] (fun w => RdB w A b)) :
    Sp Tryd.prog 98 [.slice A b.length c, .int .i64 k] C (ι := Option Addr × Nat) (fun x => .slice x.1 (b).length x.2) (fun x => [.row (.slice x.1 (b).length x.2) 5 1 (b).length (bcells (b))]) (fun _ _ => True) := by
  refine Sp.enter (N := 12) (e := entryEnv [.slice A b.length c, .int .i64 k] 0 5) Tryd.func98 rfl rfl (Nat.le_of_ble_eq_true rfl) (entry_ok (Nat.le_of_ble_eq_true rfl) (Nat.le_of_ble_eq_true rfl)) (entry_nd _ _) hb ?_
  show W _ _ _ _ _ [(0, .slice A b.length c), (1, .int .i64 k), (2, undef), (3, undef), (4, undef)] _ _
  refine W.seq ?_
  refine W.region ?_
  refine WL.as .c U4 rfl ?_
  refine WL.nil ?_
  refine QS.next ?_
  refine W.seq ?_
  refine W.region ?_
  refine WL.st (R.mv (.t L0)) rfl ?_
  refine WL.st (R.lenl sl_22 (.t L0)) rfl ?_
  refine WL.st (R.mv (.t L3)) rfl ?_
  refine WL.st (R.add (.t L1) (.t L0) (wi (by omega) (by omega))) rfl ?_
  refine WL.mkr ap_22 z_5 .c (.t L0) (n := 0) rfl (c := b.length + k) (by omega) (Nat.zero_le _) (by omega) (by omega) rfl (fun g9 => ?_)
  refine WL.st (R.mv (.t L5)) rfl ?_
  refine WL.app' ap_22 (.t L1) (.t L0) (fun _ _ => C0) (fun w hb => hb.get) (bcells_one b) (by unfold maxLen; omega) (by omega) rfl (fun A11 c11 => ?_)
  refine WL.as (.t L0) U11 rfl ?_
  refine WL.nil ?_
  refine QS.next ?_
  refine W.del (.dr (.dr (.dr (.dr (.dr (.dr (.dr .rf))))))) ?_
  refine W.ret ?_
  exact QS.fin (.inl rfl) rfl (.tmp L4 .nil) (A11, c11) (by simp [resVal]) (.kp (chunk_bytes (by simp) (by simp)) .nil) (fun _ _ _ => trivial)

theorem octet_PutUint {A : Option Addr} {b : List UInt8} {c m : Nat} (hl : b.length ≤ 140737488350000) (hm : m < 18446744073709551616) {C : Cx} (hb : Hb C C.w0 [] (fun w => RdB w A b)) :
    Sp Tryd.prog 74 [.slice A b.length c, .int .u64 m] C (ι := Option Addr × Nat) (fun x => .slice x.1 (b ++ uintS m).length x.2) (fun x => [.row (.slice x.1 (b ++ uintS m).length x.2) 5 1 (b ++ uintS m).length (bcells (b ++ uintS m))]) (fun _ _ => True) := by
  refine Sp.enter (N := 23) (e := entryEnv [.slice A b.length c, .int .u64 m] 0 6) Tryd.func74 rfl rfl (Nat.le_of_ble_eq_true rfl) (entry_ok (Nat.le_of_ble_eq_true rfl) (Nat.le_of_ble_eq_true rfl)) (entry_nd _ _) hb ?_
  show W _ _ _ _ _ [(0, .slice A b.length c), (1, .int .u64 m), (2, undef), (3, undef), (4, undef), (5, undef)] _ _
  refine W.seq ?_
  refine W.region ?_
  refine WL.as .c U4 rfl ?_
  refine WL.nil ?_
  refine QS.next ?_
  refine W.seq ?_
  refine W.region ?_
  refine WL.st (R.mv (.t L0)) rfl ?_
  refine WL.call gf_98 .f (.cons (.t L0) (.cons .c .nil)) .nil (fun w hb => (octet_grown (k := 10) (by omega) (by omega) (hb.imp fun _ h => h))) rfl (fun x7 => ?_)
  refine WL.as (.t L0) U7 rfl ?_
  refine WL.nil ?_
  refine QS.next ?_
  refine W.del (.dr (.dr .rf)) ?_
  refine W.seq ?_
  refine W.block ?_
  refine W.loop (ι := {p : (Nat × List UInt8) × Option Addr × Nat // p.1.2 ++ uintS p.1.1 = b ++ uintS m ∧ p.1.1 < 18446744073709551616 ∧ p.1.2.length ≤ b.length + 10}) (fun x => [(0, .slice A b.length c), (1, .int .u64 (x.1.1.1 : Nat)), (4, .slice none 0 0), (5, .slice x.1.2.1 x.1.1.2.length x.1.2.2)]) (fun x => [.row (.slice x.1.2.1 x.1.1.2.length x.1.2.2) 5 1 x.1.1.2.length (bcells x.1.1.2)]) (fun x w => RdB w A b) (fun x => x.1.1.1) ⟨((m, b), x7.1, x7.2), rfl, hm, by dsimp only; omega⟩ (.kp rfl (.kp rfl (.dr (.dr (.kp rfl (.kp rfl .nil)))))) (.kp rfl .nil) (fun w h hd => h.1) ?_
  intro x
  obtain ⟨⟨⟨q, a⟩, A5, c5⟩, hi1, hi2, hi3⟩ := x
  dsimp only at hi1 hi2 hi3
  have hlen := congrArg List.length hi1
  rw [List.length_append, List.length_append] at hlen
  have hu := uint_10 hm
  show W _ _ _ _ _ [(0, .slice A b.length c), (1, .int .u64 (q : Nat)), (4, .slice none 0 0), (5, .slice A5 a.length c5)] [.row (.slice A5 a.length c5) 5 1 a.length (bcells a)] (fun w => RdB w A b)
  refine W.seq ?_
  refine W.seq ?_
  refine W.region ?_
  refine WL.st (R.mv (.t L1)) rfl ?_
  refine WL.st (R.gtr (.t L0) .c) rfl ?_
  refine WL.nil ?_
  refine QS.next ?_
  refine W.del (.kp (.dr .rf)) ?_
  refine W.cd (.t L0) (fun h0 => ?_) (fun h0 => ?_)
  ·
    refine W.del (.dr .rf) ?_
    refine W.skip ?_
    refine QS.next ?_
    refine W.block ?_
    refine W.seq ?_
    refine W.region ?_
    refine WL.st (R.mv (.t L3)) rfl ?_
    refine WL.st (R.mv (.t L2)) rfl ?_
    refine WL.st (R.cvi Tryd.underlying113 ti_5 (.t L0) wu8m) rfl ?_
    refine WL.st (R.bits (.inr (.inl rfl)) (.t L0) .c (u8_hi (by omega))) rfl ?_
    refine WL.bs1 sl_22 z_5 rfl (by decide) (by decide) (.t L0) rfl rfl rfl (fun g14 => ?_)
    refine WL.app' ap_22 (.t L4) (.t L0) (fun _ _ => C1) (fun w hb => Rd.of_blk (hb.has H0) rfl) rfl (by unfold maxLen; omega) (by omega) rfl (fun A15 c15 => ?_)
    refine WL.as (.t L0) U9 rfl ?_
    refine WL.nil ?_
    refine QS.next ?_
    refine W.del (.dr (.dr (.dr (.dr (.dr (.dr .rf)))))) ?_
    refine W.region ?_
    refine WL.st (R.mv (.t L1)) rfl ?_
    refine WL.st (R.shr (.t L0) .c (by omega) (shr7 _)) rfl ?_
    refine WL.as (.t L0) U3 rfl ?_
    refine WL.nil ?_
    refine QS.blkn ?_
    exact QS.at ⟨((q / 128, a ++ [UInt8.ofNat (q % 128 + 128)]), A15, c15), by rw [← hi1, uint_hi (n := q) (by omega)]; simp, by dsimp only; omega, by rw [uint_hi (n := q) (by omega)] at hlen; simp at hlen ⊢; omega⟩ (show q / 128 < q by omega) (.dr (.dr (.kp rfl (.kp rfl (.kp rfl (.kp (by simp) .nil)))))) (.dr (.kp (chunk_bytes (by simp) (by rw [bcells_app]; simp [bcells]; omega)) .nil)) (fun w h hd => h)
  ·
    refine W.del (.dr .rf) ?_
    refine W.exit ?_
    refine QS.thenx ?_
    refine QS.thenx ?_
    refine QS.blkx ?_
    refine QS.next ?_
    refine W.seq ?_
    refine W.region ?_
    refine WL.st (R.mv (.t L3)) rfl ?_
    refine WL.st (R.mv (.t L2)) rfl ?_
    refine WL.st (R.cvi Tryd.underlying113 ti_5 (.t L0) (wu8 (by omega) (by omega))) rfl ?_
    refine WL.bs1 sl_22 z_5 rfl (by decide) (by decide) (.t L0) rfl rfl rfl (fun g21 => ?_)
    refine WL.app' ap_22 (.t L3) (.t L0) (fun _ _ => C1) (fun w hb => Rd.of_blk (hb.has H0) rfl) rfl (by unfold maxLen; omega) (by omega) rfl (fun A22 c22 => ?_)
    refine WL.as (.t L0) U7 rfl ?_
    refine WL.nil ?_
    refine QS.next ?_
    refine W.del (.dr (.dr (.dr (.dr (.dr .rf))))) ?_
    refine W.ret ?_
    rw [uint_lo (n := q) (by omega)] at hi1
    exact QS.fin (.inl rfl) rfl (.tmp L2 .nil) (A22, c22) (by rw [← hi1]; simp [resVal]) (.dr (.kp (by rw [← hi1]; exact chunk_bytes (by simp) (by rw [bcells_app]; simp [bcells]; have := cell_ofNat (m := q) (by omega); omega)) .nil)) (fun _ _ _ => trivial)

theorem code_put {A : Option Addr} {b : List UInt8} {c : Nat} {k n : Int} (hl : b.length ≤ 140737488340000) (hk : 1 ≤ k ∧ k ≤ 15) (hn : 0 ≤ n ∧ n ≤ 140737488351232) {C : Cx} (hb : Hb C C.w0 [.row (.slice A (b).length c) 5 1 (b).length (bcells (b))] (fun _ => True)) :
    Sp Tryd.prog 51 [.slice A b.length c, .int .i64 k, .int .i64 n] C (ι := Option Addr × Nat) (fun x => .slice x.1 (b ++ putS k n).length x.2) (fun x => [.row (.slice x.1 (b ++ putS k n).length x.2) 5 1 (b ++ putS k n).length (bcells (b ++ putS k n))]) (fun _ _ => True) := by
  refine Sp.enter (N := 28) (e := entryEnv [.slice A b.length c, .int .i64 k, .int .i64 n] 0 7) Tryd.func51 rfl rfl (Nat.le_of_ble_eq_true rfl) (entry_ok (Nat.le_of_ble_eq_true rfl) (Nat.le_of_ble_eq_true rfl)) (entry_nd _ _) hb ?_
  show W _ _ _ _ _ [(0, .slice A b.length c), (1, .int .i64 k), (2, .int .i64 n), (3, undef), (4, undef), (5, undef), (6, undef)] _ _
  refine W.seq ?_
  refine W.region ?_
  refine WL.as .c U6 rfl ?_
  refine WL.nil ?_
  refine QS.next ?_
  refine W.seq ?_
  refine W.seq ?_
  refine W.region ?_
  refine WL.st (R.mv (.t L2)) rfl ?_
  refine WL.st (R.lss (.t L0) .c) rfl ?_
  refine WL.nil ?_
  refine QS.next ?_
  refine W.del (.kp (.dr .rf)) ?_
  refine W.cd (.t L0) (fun h0 => ?_) (fun h0 => ?_)
  ·
    refine W.del (.dr .rf) ?_
    refine W.seq ?_
    refine W.region ?_
    refine WL.st (R.mv (.t L0)) rfl ?_
    refine WL.st (R.mv (.t L2)) rfl ?_
    refine WL.st (R.shl (.t L0) .c (by omega) (i64_shl4 (by omega))) rfl ?_
    refine WL.st (R.mv (.t L5)) rfl ?_
    refine WL.st (R.bits (.inr (.inl rfl)) (.t L1) (.t L0) (i64_or16 (by omega) (by omega))) rfl ?_
    refine WL.st (R.cvi Tryd.underlying3 ti_5 (.t L0) (wu8 (by omega) (by omega))) rfl ?_
    refine WL.bs1 sl_22 z_5 rfl (by decide) (by decide) (.t L0) rfl rfl rfl (fun g15 => ?_)
    refine WL.app' ap_22 (.t L6) (.t L0) (fun _ _ => C1) (fun w hb => Rd.of_blk (hb.has H0) rfl) rfl (by unfold maxLen; omega) (by omega) rfl (fun A16 c16 => ?_)
    refine WL.as (.t L0) U14 rfl ?_
    refine WL.nil ?_
    refine QS.next ?_
    refine W.del (.dr (.dr (.dr (.dr (.dr (.dr (.dr (.dr .rf)))))))) ?_
    refine W.ret ?_
    refine QS.thenr ?_
    exact QS.fin (.inl rfl) rfl (.tmp L6 .nil) (A16, c16) (by rw [put_lo (by omega)]; simp [resVal]) (.dr (.kp (by rw [put_lo (by omega)]; exact chunk_bytes (by simp) (by rw [bcells_app]; simp [bcells]; have := ofNat_cell (z := k * 16 + n) (by omega); omega)) .nil)) (fun _ _ _ => trivial)
  ·
    refine W.del (.dr .rf) ?_
    refine W.skip ?_
    refine QS.next ?_
    refine W.seq ?_
    refine W.region ?_
    refine WL.st (R.mv (.t L0)) rfl ?_
    refine WL.st (R.mv (.t L2)) rfl ?_
    refine WL.st (R.shl (.t L0) .c (by omega) (i64_shl4 (by omega))) rfl ?_
    refine WL.st (R.bits (.inr (.inl rfl)) (.t L0) .c (i64_or16 (by omega) (by omega))) rfl ?_
    refine WL.st (R.cvi Tryd.underlying3 ti_5 (.t L0) (wu8 (by omega) (by omega))) rfl ?_
    refine WL.bs1 sl_22 z_5 rfl (by decide) (by decide) (.t L0) rfl rfl rfl (fun g22 => ?_)
    refine WL.app' ap_22 (.t L5) (.t L0) (fun _ _ => C1) (fun w hb => Rd.of_blk (hb.has H0) rfl) rfl (by unfold maxLen; omega) (by omega) rfl (fun A23 c23 => ?_)
    refine WL.weak (J := fun w => RdB w A23 (b ++ [UInt8.ofNat (k * 16 + 15).toNat])) (.dr (.dr .nil)) (fun w h hd => rdB_rowN hd.2.1 (by simp) (by rw [bcells_app]; simp [bcells]; have := ofNat_cell (z := k * 16 + 15) (by omega); omega)) ?_
    refine WL.rw L0 (v' := .slice A23 (b ++ [UInt8.ofNat (k * 16 + 15).toNat]).length c23) (by simp) U0 ?_
    obtain ⟨m, hm⟩ : ∃ m : Nat, n - 15 = (m : Int) := ⟨(n - 15).toNat, by omega⟩
    refine WL.st (R.mv (.t L9)) rfl ?_
    refine WL.st (R.sub (.t L0) .c (wi (by omega) (by omega))) rfl ?_
    refine WL.st (R.cvi Tryd.underlying3 ti_113 (.t L0) (wu64 (by omega) (by omega))) rfl ?_
    refine WL.rw L0 (v' := .int .u64 m) (congrArg (Value.int .u64) hm) U0 ?_
    refine WL.call gf_74 .f (.cons (.t L3) (.cons (.t L0) .nil)) .nil (fun w hb => (octet_PutUint (b := b ++ [UInt8.ofNat (k * 16 + 15).toNat]) (m := m) (by simp; omega) (by omega) (hb.imp fun _ h => h))) rfl (fun x27 => ?_)
    refine WL.as (.t L0) U17 rfl ?_
    refine WL.nil ?_
    refine QS.next ?_
    refine W.del (.dr (.dr (.dr (.dr (.dr (.dr (.dr (.dr (.dr (.dr (.dr .rf))))))))))) ?_
    refine W.ret ?_
    have hp : b ++ putS k n = b ++ [UInt8.ofNat (k * 16 + 15).toNat] ++ uintS m := by rw [put_hi (by omega), show (n - 15).toNat = m by omega]; simp
    exact QS.fin (.inl rfl) rfl (.tmp L6 .nil) x27 (by rw [hp]; rfl) (.kp (by rw [hp]) .nil) (fun _ _ _ => trivial)

set_option maxHeartbeats 1000000 in
theorem code_operand {A : Option Addr} {c : Nat} {kd n : Int} {tx : List UInt8} {wd : List Int} (ht : tx.length ≤ 140737488351232) (hw : wd.length ≤ 140737488351232) (hn : -9223372036854775808 ≤ n ∧ n ≤ 9223372036854775807) {C : Cx} (hb : Hb C C.w0 [] (fun w => RdI w A wd)) :
    Sp Tryd.prog 50 [.agg #[.int .i64 kd, .int .i64 n, str tx, .slice A wd.length c]] C (ι := {v : Int // opOk ⟨kd, n, tx, wd⟩ = true → v = opN ⟨kd, n, tx, wd⟩}) (fun x => .tuple #[.int .i64 x.1, .bool (opOk ⟨kd, n, tx, wd⟩)]) (fun _ => []) (fun _ _ => True) := by
  refine Sp.enter (N := 78) (e := entryEnv [.agg #[.int .i64 kd, .int .i64 n, str tx, .slice A wd.length c]] 0 6) Tryd.func50 rfl rfl (Nat.le_of_ble_eq_true rfl) (entry_ok (Nat.le_of_ble_eq_true rfl) (Nat.le_of_ble_eq_true rfl)) (entry_nd _ _) hb ?_
  show W _ _ _ _ _ [(0, .agg #[.int .i64 kd, .int .i64 n, str tx, .slice A wd.length c]), (1, undef), (2, undef), (3, undef), (4, undef), (5, undef)] _ _
  refine W.seq ?_
  refine W.region ?_
  refine WL.boxu (.t L0) rfl (fun _ => U1) rfl (fun g1 => ?_)
  refine WL.as .c U2 rfl ?_
  refine WL.as .c U3 rfl ?_
  refine WL.nil ?_
  refine QS.next ?_
  refine W.seq ?_
  refine W.seq ?_
  refine W.region ?_
  refine WL.st (R.fa fo_95_0 (.t L1)) rfl ?_
  refine WL.st (R.ld sc_57 (.t L0) H0 rfl) rfl ?_
  refine WL.nil ?_
  refine QS.next ?_
  refine W.del (.kp (.dr .rf)) ?_
  refine W.block ?_
  refine W.seq ?_
  refine W.block ?_
  refine W.seq ?_
  refine W.block ?_
  refine W.seq ?_
  refine W.block ?_
  refine W.block ?_
  refine W.block ?_
  refine W.block ?_
  refine W.seq ?_
  refine W.block ?_
  refine W.seq ?_
  refine W.seq ?_
  refine W.seq ?_
  refine W.region ?_
  refine WL.st (R.eqi (.t L0) .c) rfl ?_
  refine WL.st (R.as (.t L0)) rfl ?_
  refine WL.nil ?_
  refine QS.next ?_
  refine W.del (.kp (.dr .rf)) ?_
  refine W.cd (.t L0) (fun h0 => ?_) (fun h0 => ?_)
  ·
    refine W.del (.dr .rf) ?_
    refine W.exit ?_
    refine QS.thenx ?_
    refine QS.thenx ?_
    refine QS.blkx ?_
    refine QS.next ?_
    refine W.del (.dr .rf) ?_
    refine W.seq ?_
    refine W.seq ?_
    refine W.draw 9 mixed (by kernel_rfl) ?_
    refine HD.st (R.fa fo_95_2 (.t L1)) rfl ?_
    refine HD.st (R.ld sc_9 (.t L0) H0 rfl) rfl ?_
    refine HD.st (R.lens st_9 (.t L0)) rfl ?_
    refine HD.st (R.sub (.t L0) .c (wi (by omega) (by omega))) rfl ?_
    refine HD.st (R.fa fo_95_2 (.t L5)) rfl ?_
    refine HD.st (R.ld sc_9 (.t L0) H0 rfl) rfl ?_
    refine HD.st (R.nes (.t L0) .c) rfl ?_
    refine HD.up (R.as (.t L3)) U9 rfl ?_
    refine HD.up (R.as (.t L0)) U10 rfl ?_
    refine HD.nil ?_
    refine WL.nil ?_
    refine QS.next ?_
    refine W.del (.dr (.dr (.dr (.dr (.dr (.dr (.dr .rf))))))) ?_
    refine W.ret ?_
    refine QS.thenr ?_
    refine QS.blkr ?_
    refine QS.blkr ?_
    refine QS.blkr ?_
    refine QS.blkr ?_
    refine QS.thenr ?_
    refine QS.blkr ?_
    refine QS.thenr ?_
    refine QS.blkr ?_
    refine QS.thenr ?_
    refine QS.blkr ?_
    refine QS.thenr ?_
    obtain ⟨e1, e2⟩ := ok_text (n := n) (tx := tx) (wd := wd) (kd := kd) (by omega)
    exact QS.fin (.inl rfl) rfl (.tmp L2 (.tmp L3 .nil)) ⟨_, fun _ => e2.symm⟩ (pair_bool (by rw [e1])) (.dr .nil) (fun _ _ _ => trivial)
  ·
    refine W.del (.dr .rf) ?_
    refine W.skip ?_
    refine QS.next ?_
    refine W.seq ?_
    refine W.seq ?_
    refine W.region ?_
    refine WL.st (R.eqi (.t L0) .c) rfl ?_
    refine WL.st (R.as (.t L0)) rfl ?_
    refine WL.nil ?_
    refine QS.next ?_
    refine W.del (.kp (.dr .rf)) ?_
    refine W.cd (.t L0) (fun h1 => ?_) (fun h1 => ?_)
    ·
      refine W.del (.dr .rf) ?_
      refine W.exit ?_
      refine QS.thenx ?_
      refine QS.thenx ?_
      refine QS.blky rfl ?_
      refine QS.thenx ?_
      refine QS.blkx ?_
      refine QS.blkn ?_
      refine QS.blkn ?_
      refine QS.blkn ?_
      refine QS.next ?_
      refine W.del (.dr .rf) ?_
      refine W.seq ?_
      refine W.seq ?_
      refine W.draw 12 mixed (by kernel_rfl) ?_
      refine HD.st (R.fa fo_95_1 (.t L1)) rfl ?_
      refine HD.st (R.ld sc_3 (.t L0) H0 rfl) rfl ?_
      refine HD.st (R.fa fo_95_1 (.t L3)) rfl ?_
      refine HD.st (R.ld sc_3 (.t L0) H0 rfl) rfl ?_
      refine HD.st (R.geq (.t L0) .c) rfl ?_
      refine HD.st (R.mv (.t L0)) rfl ?_
      refine HD.cd L0 U0 U0 (fun hg34 => ?_) (fun hg34 => ?_)
      ·
        refine HD.gy rfl L0 (R.fa fo_95_1 (.t L7)) rfl ?_
        refine HD.gy rfl L1 (R.ld sc_3 (.t L0) H0 rfl) rfl ?_
        refine HD.gy rfl L2 (R.leq (.t L0) .c) rfl ?_
        refine HD.st (R.pkt (.t L3) (.t L0)) rfl ?_
        refine HD.up (R.as (.t L8)) U12 rfl ?_
        refine HD.up (R.as (.t L0)) U13 rfl ?_
        refine HD.nil ?_
        refine WL.nil ?_
        refine QS.next ?_
        refine W.del (.dr (.dr (.dr (.dr (.dr (.dr (.dr (.dr (.dr (.dr .rf)))))))))) ?_
        refine W.ret ?_
        refine QS.thenr ?_
        refine QS.blkr ?_
        refine QS.thenr ?_
        refine QS.blkr ?_
        refine QS.thenr ?_
        refine QS.blkr ?_
        refine QS.thenr ?_
        obtain ⟨e1, e2⟩ := ok_num (n := n) (tx := tx) (wd := wd) (kd := kd) (by omega)
        exact QS.fin (.inl rfl) rfl (.tmp L2 (.tmp L3 .nil)) ⟨_, fun _ => e2.symm⟩ (pair_bool (by rw [e1]; first | exact (decide_eq_false (by omega)).symm | exact decide_eq_decide.2 (by omega) | rfl)) (.dr .nil) (fun _ _ _ => trivial)
      ·
        refine HD.gn rfl L0 rfl ?_
        refine HD.gn rfl L1 rfl ?_
        refine HD.gn rfl L2 rfl ?_
        refine HD.st (R.pkf (.t L3) .c) rfl ?_
        refine HD.up (R.as (.t L8)) U12 rfl ?_
        refine HD.up (R.as (.t L0)) U13 rfl ?_
        refine HD.nil ?_
        refine WL.nil ?_
        refine QS.next ?_
        refine W.del (.dr (.dr (.dr (.dr (.dr (.dr (.dr (.dr (.dr (.dr .rf)))))))))) ?_
        refine W.ret ?_
        refine QS.thenr ?_
        refine QS.blkr ?_
        refine QS.thenr ?_
        refine QS.blkr ?_
        refine QS.thenr ?_
        refine QS.blkr ?_
        refine QS.thenr ?_
        obtain ⟨e1, e2⟩ := ok_num (n := n) (tx := tx) (wd := wd) (kd := kd) (by omega)
        exact QS.fin (.inl rfl) rfl (.tmp L2 (.tmp L3 .nil)) ⟨_, fun _ => e2.symm⟩ (pair_bool (by rw [e1]; first | exact (decide_eq_false (by omega)).symm | exact decide_eq_decide.2 (by omega) | rfl)) (.dr .nil) (fun _ _ _ => trivial)
    ·
      refine W.del (.dr .rf) ?_
      refine W.skip ?_
      refine QS.next ?_
      refine W.seq ?_
      refine W.seq ?_
      refine W.region ?_
      refine WL.st (R.eqi (.t L0) .c) rfl ?_
      refine WL.st (R.as (.t L0)) rfl ?_
      refine WL.nil ?_
      refine QS.next ?_
      refine W.del (.kp (.dr .rf)) ?_
      refine W.cd (.t L0) (fun h2 => ?_) (fun h2 => ?_)
      ·
        refine W.del (.dr .rf) ?_
        refine W.exit ?_
        refine QS.thenx ?_
        refine QS.thenx ?_
        refine QS.blky rfl ?_
        refine QS.thenx ?_
        refine QS.blky rfl ?_
        refine QS.blkx ?_
        refine QS.blkn ?_
        refine QS.blkn ?_
        refine QS.next ?_
        refine W.del (.dr .rf) ?_
        refine W.seq ?_
        refine W.seq ?_
        refine W.draw 12 mixed (by kernel_rfl) ?_
        refine HD.st (R.fa fo_95_1 (.t L1)) rfl ?_
        refine HD.st (R.ld sc_3 (.t L0) H0 rfl) rfl ?_
        refine HD.st (R.fa fo_95_1 (.t L3)) rfl ?_
        refine HD.st (R.ld sc_3 (.t L0) H0 rfl) rfl ?_
        refine HD.st (R.geq (.t L0) .c) rfl ?_
        refine HD.st (R.mv (.t L0)) rfl ?_
        refine HD.cd L0 U0 U0 (fun hg34 => ?_) (fun hg34 => ?_)
        ·
          refine HD.gy rfl L0 (R.fa fo_95_1 (.t L7)) rfl ?_
          refine HD.gy rfl L1 (R.ld sc_3 (.t L0) H0 rfl) rfl ?_
          refine HD.gy rfl L2 (R.leq (.t L0) .c) rfl ?_
          refine HD.st (R.pkt (.t L3) (.t L0)) rfl ?_
          refine HD.up (R.as (.t L8)) U12 rfl ?_
          refine HD.up (R.as (.t L0)) U13 rfl ?_
          refine HD.nil ?_
          refine WL.nil ?_
          refine QS.next ?_
          refine W.del (.dr (.dr (.dr (.dr (.dr (.dr (.dr (.dr (.dr (.dr .rf)))))))))) ?_
          refine W.ret ?_
          refine QS.thenr ?_
          refine QS.blkr ?_
          refine QS.thenr ?_
          refine QS.blkr ?_
          refine QS.thenr ?_
          refine QS.blkr ?_
          refine QS.thenr ?_
          obtain ⟨e1, e2⟩ := ok_num (n := n) (tx := tx) (wd := wd) (kd := kd) (by omega)
          exact QS.fin (.inl rfl) rfl (.tmp L2 (.tmp L3 .nil)) ⟨_, fun _ => e2.symm⟩ (pair_bool (by rw [e1]; first | exact (decide_eq_false (by omega)).symm | exact decide_eq_decide.2 (by omega) | rfl)) (.dr .nil) (fun _ _ _ => trivial)
        ·
          refine HD.gn rfl L0 rfl ?_
          refine HD.gn rfl L1 rfl ?_
          refine HD.gn rfl L2 rfl ?_
          refine HD.st (R.pkf (.t L3) .c) rfl ?_
          refine HD.up (R.as (.t L8)) U12 rfl ?_
          refine HD.up (R.as (.t L0)) U13 rfl ?_
          refine HD.nil ?_
          refine WL.nil ?_
          refine QS.next ?_
          refine W.del (.dr (.dr (.dr (.dr (.dr (.dr (.dr (.dr (.dr (.dr .rf)))))))))) ?_
          refine W.ret ?_
          refine QS.thenr ?_
          refine QS.blkr ?_
          refine QS.thenr ?_
          refine QS.blkr ?_
          refine QS.thenr ?_
          refine QS.blkr ?_
          refine QS.thenr ?_
          obtain ⟨e1, e2⟩ := ok_num (n := n) (tx := tx) (wd := wd) (kd := kd) (by omega)
          exact QS.fin (.inl rfl) rfl (.tmp L2 (.tmp L3 .nil)) ⟨_, fun _ => e2.symm⟩ (pair_bool (by rw [e1]; first | exact (decide_eq_false (by omega)).symm | exact decide_eq_decide.2 (by omega) | rfl)) (.dr .nil) (fun _ _ _ => trivial)
      ·
        refine W.del (.dr .rf) ?_
        refine W.skip ?_
        refine QS.next ?_
        refine W.seq ?_
        refine W.seq ?_
        refine W.region ?_
        refine WL.st (R.eqi (.t L0) .c) rfl ?_
        refine WL.st (R.as (.t L0)) rfl ?_
        refine WL.nil ?_
        refine QS.next ?_
        refine W.del (.kp (.dr .rf)) ?_
        refine W.cd (.t L0) (fun h3 => ?_) (fun h3 => ?_)
        ·
          refine W.del (.dr .rf) ?_
          refine W.exit ?_
          refine QS.thenx ?_
          refine QS.thenx ?_
          refine QS.blky rfl ?_
          refine QS.thenx ?_
          refine QS.blky rfl ?_
          refine QS.blky rfl ?_
          refine QS.blkx ?_
          refine QS.blkn ?_
          refine QS.next ?_
          refine W.del (.dr .rf) ?_
          refine W.seq ?_
          refine W.seq ?_
          refine W.draw 12 mixed (by kernel_rfl) ?_
          refine HD.st (R.fa fo_95_1 (.t L1)) rfl ?_
          refine HD.st (R.ld sc_3 (.t L0) H0 rfl) rfl ?_
          refine HD.st (R.fa fo_95_1 (.t L3)) rfl ?_
          refine HD.st (R.ld sc_3 (.t L0) H0 rfl) rfl ?_
          refine HD.st (R.geq (.t L0) .c) rfl ?_
          refine HD.st (R.mv (.t L0)) rfl ?_
          refine HD.cd L0 U0 U0 (fun hg34 => ?_) (fun hg34 => ?_)
          ·
            refine HD.gy rfl L0 (R.fa fo_95_1 (.t L7)) rfl ?_
            refine HD.gy rfl L1 (R.ld sc_3 (.t L0) H0 rfl) rfl ?_
            refine HD.gy rfl L2 (R.leq (.t L0) .c) rfl ?_
            refine HD.st (R.pkt (.t L3) (.t L0)) rfl ?_
            refine HD.up (R.as (.t L8)) U12 rfl ?_
            refine HD.up (R.as (.t L0)) U13 rfl ?_
            refine HD.nil ?_
            refine WL.nil ?_
            refine QS.next ?_
            refine W.del (.dr (.dr (.dr (.dr (.dr (.dr (.dr (.dr (.dr (.dr .rf)))))))))) ?_
            refine W.ret ?_
            refine QS.thenr ?_
            refine QS.blkr ?_
            refine QS.thenr ?_
            refine QS.blkr ?_
            refine QS.thenr ?_
            refine QS.blkr ?_
            refine QS.thenr ?_
            obtain ⟨e1, e2⟩ := ok_num (n := n) (tx := tx) (wd := wd) (kd := kd) (by omega)
            exact QS.fin (.inl rfl) rfl (.tmp L2 (.tmp L3 .nil)) ⟨_, fun _ => e2.symm⟩ (pair_bool (by rw [e1]; first | exact (decide_eq_false (by omega)).symm | exact decide_eq_decide.2 (by omega) | rfl)) (.dr .nil) (fun _ _ _ => trivial)
          ·
            refine HD.gn rfl L0 rfl ?_
            refine HD.gn rfl L1 rfl ?_
            refine HD.gn rfl L2 rfl ?_
            refine HD.st (R.pkf (.t L3) .c) rfl ?_
            refine HD.up (R.as (.t L8)) U12 rfl ?_
            refine HD.up (R.as (.t L0)) U13 rfl ?_
            refine HD.nil ?_
            refine WL.nil ?_
            refine QS.next ?_
            refine W.del (.dr (.dr (.dr (.dr (.dr (.dr (.dr (.dr (.dr (.dr .rf)))))))))) ?_
            refine W.ret ?_
            refine QS.thenr ?_
            refine QS.blkr ?_
            refine QS.thenr ?_
            refine QS.blkr ?_
            refine QS.thenr ?_
            refine QS.blkr ?_
            refine QS.thenr ?_
            obtain ⟨e1, e2⟩ := ok_num (n := n) (tx := tx) (wd := wd) (kd := kd) (by omega)
            exact QS.fin (.inl rfl) rfl (.tmp L2 (.tmp L3 .nil)) ⟨_, fun _ => e2.symm⟩ (pair_bool (by rw [e1]; first | exact (decide_eq_false (by omega)).symm | exact decide_eq_decide.2 (by omega) | rfl)) (.dr .nil) (fun _ _ _ => trivial)
        ·
          refine W.del (.dr .rf) ?_
          refine W.skip ?_
          refine QS.next ?_
          refine W.seq ?_
          refine W.seq ?_
          refine W.region ?_
          refine WL.st (R.eqi (.t L0) .c) rfl ?_
          refine WL.st (R.as (.t L0)) rfl ?_
          refine WL.nil ?_
          refine QS.next ?_
          refine W.del (.kp (.dr .rf)) ?_
          refine W.cd (.t L0) (fun h4 => ?_) (fun h4 => ?_)
          ·
            refine W.del (.dr .rf) ?_
            refine W.exit ?_
            refine QS.thenx ?_
            refine QS.thenx ?_
            refine QS.blky rfl ?_
            refine QS.thenx ?_
            refine QS.blky rfl ?_
            refine QS.blky rfl ?_
            refine QS.blky rfl ?_
            refine QS.blkx ?_
            refine QS.next ?_
            refine W.del (.dr .rf) ?_
            refine W.seq ?_
            refine W.seq ?_
            refine W.draw 12 mixed (by kernel_rfl) ?_
            refine HD.st (R.fa fo_95_1 (.t L1)) rfl ?_
            refine HD.st (R.ld sc_3 (.t L0) H0 rfl) rfl ?_
            refine HD.st (R.fa fo_95_1 (.t L3)) rfl ?_
            refine HD.st (R.ld sc_3 (.t L0) H0 rfl) rfl ?_
            refine HD.st (R.geq (.t L0) .c) rfl ?_
            refine HD.st (R.mv (.t L0)) rfl ?_
            refine HD.cd L0 U0 U0 (fun hg34 => ?_) (fun hg34 => ?_)
            ·
              refine HD.gy rfl L0 (R.fa fo_95_1 (.t L7)) rfl ?_
              refine HD.gy rfl L1 (R.ld sc_3 (.t L0) H0 rfl) rfl ?_
              refine HD.gy rfl L2 (R.leq (.t L0) .c) rfl ?_
              refine HD.st (R.pkt (.t L3) (.t L0)) rfl ?_
              refine HD.up (R.as (.t L8)) U12 rfl ?_
              refine HD.up (R.as (.t L0)) U13 rfl ?_
              refine HD.nil ?_
              refine WL.nil ?_
              refine QS.next ?_
              refine W.del (.dr (.dr (.dr (.dr (.dr (.dr (.dr (.dr (.dr (.dr .rf)))))))))) ?_
              refine W.ret ?_
              refine QS.thenr ?_
              refine QS.blkr ?_
              refine QS.thenr ?_
              refine QS.blkr ?_
              refine QS.thenr ?_
              refine QS.blkr ?_
              refine QS.thenr ?_
              obtain ⟨e1, e2⟩ := ok_num (n := n) (tx := tx) (wd := wd) (kd := kd) (by omega)
              exact QS.fin (.inl rfl) rfl (.tmp L2 (.tmp L3 .nil)) ⟨_, fun _ => e2.symm⟩ (pair_bool (by rw [e1]; first | exact (decide_eq_false (by omega)).symm | exact decide_eq_decide.2 (by omega) | rfl)) (.dr .nil) (fun _ _ _ => trivial)
            ·
              refine HD.gn rfl L0 rfl ?_
              refine HD.gn rfl L1 rfl ?_
              refine HD.gn rfl L2 rfl ?_
              refine HD.st (R.pkf (.t L3) .c) rfl ?_
              refine HD.up (R.as (.t L8)) U12 rfl ?_
              refine HD.up (R.as (.t L0)) U13 rfl ?_
              refine HD.nil ?_
              refine WL.nil ?_
              refine QS.next ?_
              refine W.del (.dr (.dr (.dr (.dr (.dr (.dr (.dr (.dr (.dr (.dr .rf)))))))))) ?_
              refine W.ret ?_
              refine QS.thenr ?_
              refine QS.blkr ?_
              refine QS.thenr ?_
              refine QS.blkr ?_
              refine QS.thenr ?_
              refine QS.blkr ?_
              refine QS.thenr ?_
              obtain ⟨e1, e2⟩ := ok_num (n := n) (tx := tx) (wd := wd) (kd := kd) (by omega)
              exact QS.fin (.inl rfl) rfl (.tmp L2 (.tmp L3 .nil)) ⟨_, fun _ => e2.symm⟩ (pair_bool (by rw [e1]; first | exact (decide_eq_false (by omega)).symm | exact decide_eq_decide.2 (by omega) | rfl)) (.dr .nil) (fun _ _ _ => trivial)
          ·
            refine W.del (.dr .rf) ?_
            refine W.skip ?_
            refine QS.next ?_
            refine W.seq ?_
            refine W.seq ?_
            refine W.region ?_
            refine WL.st (R.eqi (.t L0) .c) rfl ?_
            refine WL.st (R.as (.t L0)) rfl ?_
            refine WL.nil ?_
            refine QS.next ?_
            refine W.del (.kp (.dr .rf)) ?_
            refine W.cd (.t L0) (fun h5 => ?_) (fun h5 => ?_)
            ·
              refine W.del (.dr .rf) ?_
              refine W.exit ?_
              refine QS.thenx ?_
              refine QS.thenx ?_
              refine QS.blky rfl ?_
              refine QS.thenx ?_
              refine QS.blky rfl ?_
              refine QS.blky rfl ?_
              refine QS.blky rfl ?_
              refine QS.blky rfl ?_
              refine QS.thenx ?_
              refine QS.blkx ?_
              refine QS.next ?_
              refine W.del (.dr .rf) ?_
              refine W.seq ?_
              refine W.seq ?_
              refine W.draw 13 mixed (by kernel_rfl) ?_
              refine HD.st (R.fa fo_95_1 (.t L1)) rfl ?_
              refine HD.st (R.ld sc_3 (.t L0) H0 rfl) rfl ?_
              refine HD.st (R.add (.t L0) .c rfl) rfl ?_
              refine HD.st (R.fa fo_95_1 (.t L4)) rfl ?_
              refine HD.st (R.ld sc_3 (.t L0) H0 rfl) rfl ?_
              refine HD.st (R.geq (.t L0) .c) rfl ?_
              refine HD.st (R.mv (.t L0)) rfl ?_
              refine HD.cd L0 U0 U0 (fun hg45 => ?_) (fun hg45 => ?_)
              ·
                refine HD.gy rfl L0 (R.fa fo_95_1 (.t L8)) rfl ?_
                refine HD.gy rfl L1 (R.ld sc_3 (.t L0) H0 rfl) rfl ?_
                refine HD.gy rfl L2 (R.leq (.t L0) .c) rfl ?_
                refine HD.st (R.pkt (.t L3) (.t L0)) rfl ?_
                refine HD.up (R.as (.t L8)) U13 rfl ?_
                refine HD.up (R.as (.t L0)) U14 rfl ?_
                refine HD.nil ?_
                refine WL.nil ?_
                refine QS.next ?_
                refine W.del (.dr (.dr (.dr (.dr (.dr (.dr (.dr (.dr (.dr (.dr (.dr .rf))))))))))) ?_
                refine W.ret ?_
                refine QS.thenr ?_
                refine QS.blkr ?_
                refine QS.thenr ?_
                refine QS.blkr ?_
                refine QS.thenr ?_
                obtain ⟨e1, e2⟩ := ok_para (n := n) (tx := tx) (wd := wd) (kd := kd) (by omega)
                exact QS.fin (.inl rfl) rfl (.tmp L2 (.tmp L3 .nil)) ⟨_, fun hok => by rw [e1] at hok; rw [e2]; exact wi (by have := of_decide_eq_true hok; omega) (by have := of_decide_eq_true hok; omega)⟩ (pair_bool (by rw [e1]; first | exact (decide_eq_false (by omega)).symm | exact decide_eq_decide.2 (by omega) | rfl)) (.dr .nil) (fun _ _ _ => trivial)
              ·
                refine HD.gn rfl L0 rfl ?_
                refine HD.gn rfl L1 rfl ?_
                refine HD.gn rfl L2 rfl ?_
                refine HD.st (R.pkf (.t L3) .c) rfl ?_
                refine HD.up (R.as (.t L8)) U13 rfl ?_
                refine HD.up (R.as (.t L0)) U14 rfl ?_
                refine HD.nil ?_
                refine WL.nil ?_
                refine QS.next ?_
                refine W.del (.dr (.dr (.dr (.dr (.dr (.dr (.dr (.dr (.dr (.dr (.dr .rf))))))))))) ?_
                refine W.ret ?_
                refine QS.thenr ?_
                refine QS.blkr ?_
                refine QS.thenr ?_
                refine QS.blkr ?_
                refine QS.thenr ?_
                obtain ⟨e1, e2⟩ := ok_para (n := n) (tx := tx) (wd := wd) (kd := kd) (by omega)
                exact QS.fin (.inl rfl) rfl (.tmp L2 (.tmp L3 .nil)) ⟨_, fun hok => by rw [e1] at hok; rw [e2]; exact wi (by have := of_decide_eq_true hok; omega) (by have := of_decide_eq_true hok; omega)⟩ (pair_bool (by rw [e1]; first | exact (decide_eq_false (by omega)).symm | exact decide_eq_decide.2 (by omega) | rfl)) (.dr .nil) (fun _ _ _ => trivial)
            ·
              refine W.del (.dr .rf) ?_
              refine W.skip ?_
              refine QS.next ?_
              refine W.seq ?_
              refine W.region ?_
              refine WL.st (R.eqi (.t L0) .c) rfl ?_
              refine WL.st (R.as (.t L0)) rfl ?_
              refine WL.nil ?_
              refine QS.next ?_
              refine W.del (.kp (.dr (.dr .rf))) ?_
              refine W.cd (.t L0) (fun h6 => ?_) (fun h6 => ?_)
              ·
                refine W.del (.dr .rf) ?_
                refine W.exit ?_
                refine QS.thenx ?_
                refine QS.blky rfl ?_
                refine QS.thenx ?_
                refine QS.blky rfl ?_
                refine QS.blky rfl ?_
                refine QS.blky rfl ?_
                refine QS.blky rfl ?_
                refine QS.thenx ?_
                refine QS.blky rfl ?_
                refine QS.thenx ?_
                refine QS.blkx ?_
                refine QS.next ?_
                refine W.seq ?_
                refine W.seq ?_
                refine W.seq ?_
                refine W.region ?_
                refine WL.st (R.fa fo_95_3 (.t L1)) rfl ?_
                refine WL.st (R.ld sc_37 (.t L0) H0 rfl) rfl ?_
                refine WL.st (R.lenl sl_37 (.t L0)) rfl ?_
                refine WL.st (R.mv .c) rfl ?_
                refine WL.nil ?_
                refine QS.next ?_
                refine W.del (.kp (.kp (.kp (.dr .rf)))) ?_
                refine W.block ?_
                refine W.loop (ι := {j : Nat // j ≤ wd.length ∧ ∀ i y, i < j → wd[i]? = some y → 0 ≤ y ∧ y ≤ 255}) (fun x => [(53, .int .i64 x.1), (52, .int .i64 wd.length), (51, .slice A wd.length c), (1, .pointer (some ⟨g1, 0, none⟩))]) (fun x => [blk g1 95 [.int .i64 kd, .int .i64 n, str tx, .slice A wd.length c]]) (fun x w => RdI w A wd) (fun x => wd.length - x.1) ⟨0, Nat.zero_le _, fun i y h => absurd h (by omega)⟩ (.kp rfl (.kp rfl (.kp rfl (.dr (.kp rfl (.dr (.dr (.dr (.dr .nil))))))))) (.kp rfl .nil) (fun w h hd => h) ?_
                intro x
                obtain ⟨j, hj1, hj2⟩ := x
                show W _ _ _ _ _ [(53, .int .i64 j), (52, .int .i64 wd.length), (51, .slice A wd.length c), (1, .pointer (some ⟨g1, 0, none⟩))] [blk g1 95 [.int .i64 kd, .int .i64 n, str tx, .slice A wd.length c]] (fun w => RdI w A wd)
                refine W.seq ?_
                refine W.region ?_
                refine WL.st (R.lss (.t L0) (.t L1)) rfl ?_
                refine WL.nil ?_
                refine QS.next ?_
                refine W.seq ?_
                refine W.cd (.t L0) (fun h7 => ?_) (fun h7 => ?_)
                ·
                  refine W.del (.dr .rf) ?_
                  refine W.skip ?_
                  refine QS.next ?_
                  refine W.seq ?_
                  refine W.block ?_
                  refine W.seq ?_
                  refine W.region ?_
                  obtain ⟨x55, hx55⟩ : ∃ x, (wd)[j]? = some x := ⟨_, List.getElem?_eq_getElem (by omega)⟩
                  refine WL.st (R.ixI sl_37 (.t L2) rfl (.t L0) (l := wd) (j := j) rfl (List.getElem?_eq_some_iff.1 hx55).1 (fun w hb => hb.get)) rfl ?_
                  refine WL.st (R.ldp sc_3 (.t L0) (fun w hb => RdI.cell (hb.get) hx55)) rfl ?_
                  refine WL.st (R.as (.t L0)) rfl ?_
                  refine WL.nil ?_
                  refine QS.next ?_
                  refine W.del (.kp (.dr (.dr .rf))) ?_
                  refine W.seq ?_
                  refine W.region ?_
                  refine WL.st (R.mv (.t L0)) rfl ?_
                  refine WL.st (R.lss (.t L0) .c) rfl ?_
                  refine WL.st (R.mv (.t L0)) rfl ?_
                  refine WL.cd L0 U0 U0 (fun hg59 => ?_) (fun hg59 => ?_)
                  ·
                    refine WL.gn rfl L0 rfl ?_
                    refine WL.gn rfl L1 rfl ?_
                    refine WL.st (R.pkt (.t L2) .c) rfl ?_
                    refine WL.nil ?_
                    refine QS.next ?_
                    refine W.del (.kp (.dr (.dr (.dr (.dr (.dr .rf)))))) ?_
                    refine W.ct (.t L0) ?_
                    refine W.del (.dr .rf) ?_
                    refine W.seq ?_
                    refine W.region ?_
                    refine WL.st (R.as .c) rfl ?_
                    refine WL.st (R.as .c) rfl ?_
                    refine WL.nil ?_
                    refine QS.next ?_
                    refine W.ret ?_
                    refine QS.blkr ?_
                    refine QS.thenr ?_
                    refine QS.thenr ?_
                    refine QS.blkr ?_
                    refine QS.thenr ?_
                    refine QS.thenr ?_
                    refine QS.blkr ?_
                    refine QS.thenr ?_
                    exact QS.fin (.inl rfl) rfl (.tmp L1 (.tmp L0 .nil)) ⟨0, fun h => by rw [tab_bad (by omega) hx55 (by omega)] at h; cases h⟩ (pair_bool (tab_bad (by omega) hx55 (by omega)).symm) (.dr .nil) (fun _ _ _ => trivial)
                  ·
                    refine WL.gy rfl L0 (R.mv (.t L3)) rfl ?_
                    refine WL.gy rfl L1 (R.gtr (.t L0) .c) rfl ?_
                    refine WL.st (R.pkf (.t L2) (.t L0)) rfl ?_
                    refine WL.nil ?_
                    refine QS.next ?_
                    refine W.del (.kp (.dr (.dr (.dr (.dr (.dr .rf)))))) ?_
                    refine W.cd (.t L0) (fun h8 => ?_) (fun h8 => ?_)
                    ·
                      refine W.del (.dr .rf) ?_
                      refine W.seq ?_
                      refine W.region ?_
                      refine WL.st (R.as .c) rfl ?_
                      refine WL.st (R.as .c) rfl ?_
                      refine WL.nil ?_
                      refine QS.next ?_
                      refine W.ret ?_
                      refine QS.blkr ?_
                      refine QS.thenr ?_
                      refine QS.thenr ?_
                      refine QS.blkr ?_
                      refine QS.thenr ?_
                      refine QS.thenr ?_
                      refine QS.blkr ?_
                      refine QS.thenr ?_
                      exact QS.fin (.inl rfl) rfl (.tmp L1 (.tmp L0 .nil)) ⟨0, fun h => by rw [tab_bad (by omega) hx55 (by omega)] at h; cases h⟩ (pair_bool (tab_bad (by omega) hx55 (by omega)).symm) (.dr .nil) (fun _ _ _ => trivial)
                    ·
                      refine W.del (.dr .rf) ?_
                      refine W.skip ?_
                      refine QS.blkn ?_
                      refine QS.next ?_
                      refine W.region ?_
                      refine WL.st (R.add (.t L1) .c (wi (by omega) (by omega))) rfl ?_
                      refine WL.up (R.mv (.t L0)) U2 rfl ?_
                      refine WL.nil ?_
                      exact QS.at ⟨j + 1, by omega, wok_snoc hj2 hx55 (by omega)⟩ (by dsimp only; omega) (.dr (.dr (.kp rfl (.kp rfl (.kp rfl (.kp rfl .nil)))))) (.kp rfl .nil) (fun w h hd => h)
                ·
                  refine W.del (.dr .rf) ?_
                  refine W.exit ?_
                  refine QS.thenx ?_
                  refine QS.thenx ?_
                  refine QS.blkx ?_
                  refine QS.next ?_
                  refine W.del (.dr (.dr (.dr .rf))) ?_
                  refine W.seq ?_
                  refine W.draw 16 mixed (by kernel_rfl) ?_
                  refine HD.st (R.fa fo_95_3 (.t L0)) rfl ?_
                  refine HD.st (R.ld sc_37 (.t L0) H0 rfl) rfl ?_
                  refine HD.st (R.lenl sl_37 (.t L0)) rfl ?_
                  refine HD.st (R.sub (.t L0) .c (wi (by omega) (by omega))) rfl ?_
                  refine HD.st (R.fa fo_95_3 (.t L4)) rfl ?_
                  refine HD.st (R.ld sc_37 (.t L0) H0 rfl) rfl ?_
                  refine HD.st (R.lenl sl_37 (.t L0)) rfl ?_
                  refine HD.st (R.geq (.t L0) .c) rfl ?_
                  refine HD.st (R.mv (.t L0)) rfl ?_
                  refine HD.cd L0 U0 U0 (fun hg72 => ?_) (fun hg72 => ?_)
                  ·
                    refine HD.gy rfl L0 (R.fa fo_95_3 (.t L9)) rfl ?_
                    refine HD.gy rfl L1 (R.ld sc_37 (.t L0) H0 rfl) rfl ?_
                    refine HD.gy rfl L2 (R.lenl sl_37 (.t L0)) rfl ?_
                    refine HD.gy rfl L3 (R.leq (.t L0) .c) rfl ?_
                    refine HD.st (R.pkt (.t L4) (.t L0)) rfl ?_
                    refine HD.st (R.as (.t L10)) rfl ?_
                    refine HD.st (R.as (.t L1)) rfl ?_
                    refine HD.nil ?_
                    refine WL.nil ?_
                    refine QS.next ?_
                    refine W.del (.kp (.kp (.dr (.dr (.dr (.dr (.dr (.dr (.dr (.dr (.dr (.dr (.dr (.dr (.dr (.dr .rf)))))))))))))))) ?_
                    refine W.ret ?_
                    refine QS.thenr ?_
                    refine QS.blkr ?_
                    refine QS.thenr ?_
                    have e1 := tab_good (n := n) (tx := tx) (wd := wd) (kd := kd) (by omega) (fun i y hi => hj2 i y (by omega))
                    have e2 := (ok_tab (n := n) (tx := tx) (wd := wd) (kd := kd) (by omega)).2
                    exact QS.fin (.inl rfl) rfl (.tmp L1 (.tmp L0 .nil)) ⟨_, fun _ => e2.symm⟩ (pair_bool (by rw [e1]; first | exact (decide_eq_false (by omega)).symm | exact decide_eq_decide.2 (by omega))) (.dr .nil) (fun _ _ _ => trivial)
                  ·
                    refine HD.gn rfl L0 rfl ?_
                    refine HD.gn rfl L1 rfl ?_
                    refine HD.gn rfl L2 rfl ?_
                    refine HD.gn rfl L3 rfl ?_
                    refine HD.st (R.pkf (.t L4) .c) rfl ?_
                    refine HD.st (R.as (.t L10)) rfl ?_
                    refine HD.st (R.as (.t L1)) rfl ?_
                    refine HD.nil ?_
                    refine WL.nil ?_
                    refine QS.next ?_
                    refine W.del (.kp (.kp (.dr (.dr (.dr (.dr (.dr (.dr (.dr (.dr (.dr (.dr (.dr (.dr (.dr (.dr .rf)))))))))))))))) ?_
                    refine W.ret ?_
                    refine QS.thenr ?_
                    refine QS.blkr ?_
                    refine QS.thenr ?_
                    have e1 := tab_good (n := n) (tx := tx) (wd := wd) (kd := kd) (by omega) (fun i y hi => hj2 i y (by omega))
                    have e2 := (ok_tab (n := n) (tx := tx) (wd := wd) (kd := kd) (by omega)).2
                    exact QS.fin (.inl rfl) rfl (.tmp L1 (.tmp L0 .nil)) ⟨_, fun _ => e2.symm⟩ (pair_bool (by rw [e1]; first | exact (decide_eq_false (by omega)).symm | exact decide_eq_decide.2 (by omega))) (.dr .nil) (fun _ _ _ => trivial)
              ·
                refine W.del (.dr .rf) ?_
                refine W.skip ?_
                refine QS.next ?_
                refine W.exit ?_
                refine QS.blky rfl ?_
                refine QS.thenx ?_
                refine QS.blky rfl ?_
                refine QS.blky rfl ?_
                refine QS.blky rfl ?_
                refine QS.blky rfl ?_
                refine QS.thenx ?_
                refine QS.blky rfl ?_
                refine QS.thenx ?_
                refine QS.blky rfl ?_
                refine QS.thenx ?_
                refine QS.blkx ?_
                refine QS.next ?_
                refine W.seq ?_
                refine W.region ?_
                refine WL.as .c U2 rfl ?_
                refine WL.as .c U3 rfl ?_
                refine WL.nil ?_
                refine QS.next ?_
                refine W.ret ?_
                obtain ⟨e1, e2⟩ := ok_else (n := n) (tx := tx) (wd := wd) (kd := kd) (by omega)
                exact QS.fin (.inl rfl) rfl (.tmp L2 (.tmp L3 .nil)) ⟨0, fun _ => e2.symm⟩ (pair_bool e1.symm) (.dr .nil) (fun _ _ _ => trivial)

set_option maxHeartbeats 2000000 in
theorem code_Encode {A : Option Addr} {M : List (OpS × Option Addr × Nat)} {c : Nat} (hg : ∀ q ∈ M, OpGood q.1) (hM : M.length ≤ 140737488351232) {C : Cx} (hb : Hb C C.w0 [] (fun w => RdF ocell 4 w A M ∧ ∀ q ∈ M, RdI w q.2.1 q.1.widths)) :
    Sp Tryd.prog 26 [.slice A M.length c] C (ι := Option Addr × Nat) (fun x => .tuple #[.slice x.1 (encS (M.map (·.1))).1.length x.2, str (encS (M.map (·.1))).2.1, .int .i64 (encS (M.map (·.1))).2.2]) (fun _ => []) (fun x w => RdB w x.1 (encS (M.map (·.1))).1) := by
  refine Sp.enter (N := 90) (e := entryEnv [.slice A M.length c] 0 16) Tryd.func26 rfl rfl (Nat.le_of_ble_eq_true rfl) (entry_ok (Nat.le_of_ble_eq_true rfl) (Nat.le_of_ble_eq_true rfl)) (entry_nd _ _) hb ?_
  show W _ _ _ _ _ [(0, .slice A M.length c), (1, undef), (2, undef), (3, undef), (4, undef), (5, undef), (6, undef), (7, undef), (8, undef), (9, undef), (10, undef), (11, undef), (12, undef), (13, undef), (14, undef), (15, undef)] _ _
  refine W.seq ?_
  refine W.region ?_
  refine WL.as .c U2 rfl ?_
  refine WL.as .c U3 rfl ?_
  refine WL.as .c U4 rfl ?_
  refine WL.nil ?_
  refine QS.next ?_
  refine W.seq ?_
  refine W.seq ?_
  refine W.region ?_
  refine WL.st (R.mv (.t L0)) rfl ?_
  refine WL.st (R.lenl sl_47 (.t L0)) rfl ?_
  refine WL.st (R.gtr (.t L0) .c) rfl ?_
  refine WL.nil ?_
  refine QS.next ?_
  refine W.del (.kp (.dr (.dr .rf))) ?_
  refine W.cd (.t L0) (fun h0 => ?_) (fun h0 => ?_)
  ·
    refine W.del (.dr .rf) ?_
    refine W.seq ?_
    refine W.region ?_
    refine WL.as .c U2 rfl ?_
    refine WL.as .c U3 rfl ?_
    refine WL.as .c U4 rfl ?_
    refine WL.nil ?_
    refine QS.next ?_
    refine W.ret ?_
    refine QS.thenr ?_
    have hr : encS (M.map (·.1)) = ([], [], 2) := if_pos (by simp; omega)
    exact QS.fin (.inl rfl) rfl (.tmp L2 (.tmp L3 (.tmp L4 .nil))) (none, 0) (by rw [hr]; rfl) .nil (fun w _ _ => by rw [hr]; exact Rd.nil)
  ·
    refine W.del (.dr .rf) ?_
    refine W.skip ?_
    refine QS.next ?_
    refine W.seq ?_
    refine W.region ?_
    refine WL.as .c U5 rfl ?_
    refine WL.nil ?_
    refine QS.next ?_
    refine W.seq ?_
    refine W.seq ?_
    refine W.region ?_
    refine WL.st (R.mv (.t L0)) rfl ?_
    refine WL.st (R.lenl sl_47 (.t L0)) rfl ?_
    refine WL.st (R.mv .c) rfl ?_
    refine WL.nil ?_
    refine QS.next ?_
    refine W.block ?_
    refine W.loop (ι := {p : Nat × Nat // p.1 ≤ M.length ∧ longF ((M.map (·.1)).drop p.1) p.2 = longF (M.map (·.1)) 0 ∧ p.2 ≤ 16384}) (fun x => [(21, .int .i64 (x.1.1 : Nat)), (20, .int .i64 M.length), (19, .slice A M.length c), (0, .slice A M.length c), (2, .slice none 0 0), (3, str []), (4, .int .i64 0), (5, .int .i64 (x.1.2 : Nat))]) (fun x => []) (fun x w => RdF ocell 4 w A M ∧ (∀ q ∈ M, RdI w q.2.1 q.1.widths)) (fun x => M.length - x.1.1) ⟨(0, 0), Nat.zero_le _, rfl, by omega⟩ (.kp rfl (.kp rfl (.kp rfl (.kp rfl (.dr (.kp rfl (.kp rfl (.kp rfl (.kp rfl (.dr (.dr (.dr (.dr (.dr (.dr (.dr (.dr (.dr (.dr .nil))))))))))))))))))) .nil (fun w h hd => ⟨h.1, h.2⟩) ?_
    intro x
    obtain ⟨⟨j, n⟩, hi1, hi2, hi3⟩ := x
    dsimp only at hi1 hi2 hi3
    show W _ _ _ _ _ [(21, .int .i64 (j : Nat)), (20, .int .i64 M.length), (19, .slice A M.length c), (0, .slice A M.length c), (2, .slice none 0 0), (3, str []), (4, .int .i64 0), (5, .int .i64 (n : Nat))] [] (fun w => RdF ocell 4 w A M ∧ (∀ q ∈ M, RdI w q.2.1 q.1.widths))
    refine W.seq ?_
    refine W.region ?_
    refine WL.st (R.lss (.t L0) (.t L1)) rfl ?_
    refine WL.nil ?_
    refine QS.next ?_
    refine W.seq ?_
    refine W.cd (.t L0) (fun h1 => ?_) (fun h1 => ?_)
    ·
      refine W.del (.dr .rf) ?_
      refine W.skip ?_
      refine QS.next ?_
      refine W.seq ?_
      refine W.block ?_
      refine W.seq ?_
      refine W.region ?_
      obtain ⟨x23, hx23⟩ : ∃ x, (M)[j]? = some x := ⟨_, List.getElem?_eq_getElem (by omega)⟩
      have hL23 : (M.map (·.1))[j]? = some x23.1 := by simp [hx23]
      have hgd := hg x23 (List.mem_of_getElem? hx23)
      refine WL.st (R.ixF sl_47 (.t L2) rfl (.t L0) (l := M) (j := j) rfl (List.getElem?_eq_some_iff.1 hx23).1 (by decide) (fun w hb => hb.get.1)) rfl ?_
      refine WL.st (R.ldpF ag_95 (.t L0) (j := j) (k := 0) (fun w hb => hb.get.1) hx23 (by repeat constructor) (by decide)) rfl ?_
      refine WL.alloc z_95 rfl (fun g7 => ?_)
      refine WL.sto sz_95 (.t L0) (.t L1) rfl rfl rfl C0 (by repeat constructor) ?_
      refine WL.nil ?_
      refine QS.next ?_
      refine W.del (.kp (.dr (.dr .rf))) ?_
      refine W.seq ?_
      refine W.seq ?_
      refine W.region ?_
      refine WL.st (R.fa fo_95_0 (.t L0)) rfl ?_
      refine WL.st (R.ld sc_57 (.t L0) H0 rfl) rfl ?_
      refine WL.st (R.eqi (.t L0) .c) rfl ?_
      refine WL.nil ?_
      refine QS.next ?_
      refine W.del (.kp (.dr (.dr .rf))) ?_
      refine W.cd (.t L0) (fun h2 => ?_) (fun h2 => ?_)
      ·
        have htx : txt x23.1 = x23.1.text := txt_1 h2
        have hgt := hgd.tx
        refine W.del (.dr .rf) ?_
        refine W.region ?_
        refine WL.st (R.mv (.t L8)) rfl ?_
        refine WL.st (R.fa fo_95_2 (.t L1)) rfl ?_
        refine WL.st (R.ld sc_9 (.t L0) H0 rfl) rfl ?_
        refine WL.st (R.lens st_9 (.t L0)) rfl ?_
        refine WL.st (R.add (.t L3) (.t L0) (wi (by omega) (by omega))) rfl ?_
        refine WL.as (.t L0) U13 rfl ?_
        refine WL.nil ?_
        refine QS.next ?_
        refine W.del (.dr (.dr (.dr (.dr (.dr .rf))))) ?_
        refine W.seq ?_
        refine W.region ?_
        refine WL.st (R.mv (.t L8)) rfl ?_
        refine WL.st (R.gtr (.t L0) .c) rfl ?_
        refine WL.nil ?_
        refine QS.next ?_
        refine W.del (.kp (.dr .rf)) ?_
        refine W.cd (.t L0) (fun h3 => ?_) (fun h3 => ?_)
        ·
          refine W.del (.dr .rf) ?_
          refine W.seq ?_
          refine W.region ?_
          refine WL.as .c U5 rfl ?_
          refine WL.as .c U6 rfl ?_
          refine WL.as .c U7 rfl ?_
          refine WL.nil ?_
          refine QS.next ?_
          refine W.ret ?_
          refine QS.blkr ?_
          refine QS.thenr ?_
          refine QS.thenr ?_
          refine QS.blkr ?_
          refine QS.thenr ?_
          have hlt := long_hit hi2 hL23 (by rw [htx]; first | omega | (simp; omega))
          have hr : encS (M.map (·.1)) = ([], [], 2) := by rw [encS, if_neg (by simp; omega), if_pos hlt]
          exact QS.fin (.inl rfl) rfl (.tmp L5 (.tmp L6 (.tmp L7 .nil))) (none, 0) (by rw [hr]; rfl) (.dr .nil) (fun w _ _ => by rw [hr]; exact Rd.nil)
        ·
          refine W.del (.dr .rf) ?_
          refine W.skip ?_
          refine QS.blkn ?_
          refine QS.next ?_
          refine W.region ?_
          refine WL.st (R.add (.t L1) .c (wi (by omega) (by omega))) rfl ?_
          refine WL.up (R.mv (.t L0)) U2 rfl ?_
          refine WL.nil ?_
          exact QS.at ⟨(j + 1, n + (txt x23.1).length), by dsimp only; omega, long_next hi2 hL23 (by rw [htx]; first | omega | (simp; omega)), by dsimp only; rw [htx]; first | omega | (simp; omega)⟩ (show M.length - (j + 1) < M.length - j by omega) (.dr (.dr (.kp rfl (.kp rfl (.kp rfl (.kp rfl (.kp rfl (.kp rfl (.kp rfl (.kp (by simp [htx]) .nil)))))))))) (.dr .nil) (fun w h hd => ⟨h.1, h.2⟩)
      ·
        have htx : txt x23.1 = [] := txt_0 h2
        refine W.del (.dr .rf) ?_
        refine W.skip ?_
        refine QS.next ?_
        refine W.seq ?_
        refine W.region ?_
        refine WL.st (R.mv (.t L8)) rfl ?_
        refine WL.st (R.gtr (.t L0) .c) rfl ?_
        refine WL.nil ?_
        refine QS.next ?_
        refine W.del (.kp (.dr .rf)) ?_
        refine W.cd (.t L0) (fun h3 => ?_) (fun h3 => ?_)
        ·
          refine W.del (.dr .rf) ?_
          refine W.seq ?_
          refine W.region ?_
          refine WL.as .c U5 rfl ?_
          refine WL.as .c U6 rfl ?_
          refine WL.as .c U7 rfl ?_
          refine WL.nil ?_
          refine QS.next ?_
          refine W.ret ?_
          refine QS.blkr ?_
          refine QS.thenr ?_
          refine QS.thenr ?_
          refine QS.blkr ?_
          refine QS.thenr ?_
          have hlt := long_hit hi2 hL23 (by rw [htx]; first | omega | (simp; omega))
          have hr : encS (M.map (·.1)) = ([], [], 2) := by rw [encS, if_neg (by simp; omega), if_pos hlt]
          exact QS.fin (.inl rfl) rfl (.tmp L5 (.tmp L6 (.tmp L7 .nil))) (none, 0) (by rw [hr]; rfl) (.dr .nil) (fun w _ _ => by rw [hr]; exact Rd.nil)
        ·
          refine W.del (.dr .rf) ?_
          refine W.skip ?_
          refine QS.blkn ?_
          refine QS.next ?_
          refine W.region ?_
          refine WL.st (R.add (.t L1) .c (wi (by omega) (by omega))) rfl ?_
          refine WL.up (R.mv (.t L0)) U2 rfl ?_
          refine WL.nil ?_
          exact QS.at ⟨(j + 1, n + (txt x23.1).length), by dsimp only; omega, long_next hi2 hL23 (by rw [htx]; first | omega | (simp; omega)), by dsimp only; rw [htx]; first | omega | (simp; omega)⟩ (show M.length - (j + 1) < M.length - j by omega) (.dr (.dr (.kp rfl (.kp rfl (.kp rfl (.kp rfl (.kp rfl (.kp rfl (.kp rfl (.kp (by simp [htx]) .nil)))))))))) (.dr .nil) (fun w h hd => ⟨h.1, h.2⟩)
    ·
      refine W.del (.dr .rf) ?_
      refine W.exit ?_
      refine QS.thenx ?_
      refine QS.thenx ?_
      refine QS.blkx ?_
      refine QS.next ?_
      refine W.del (.dr (.dr (.dr .rf))) ?_
      refine W.seq ?_
      have hlf := long_end hi2 (by simp; omega)
      have hS : encS (M.map (·.1)) = encF (M.map (·.1)) [] [] := by rw [encS, if_neg (by simp; omega), if_neg (by rw [hlf]; decide)]
      have htot := long_le _ _ hlf (by omega)
      refine W.region ?_
      refine WL.st (R.as .c) rfl ?_
      refine WL.st (R.as .c) rfl ?_
      refine WL.nil ?_
      refine QS.next ?_
      refine W.seq ?_
      refine W.seq ?_
      refine W.region ?_
      refine WL.st (R.mv (.t L2)) rfl ?_
      refine WL.st (R.lenl sl_47 (.t L0)) rfl ?_
      refine WL.st (R.mv .c) rfl ?_
      refine WL.nil ?_
      refine QS.next ?_
      refine W.block ?_
      refine W.nilrow 5 1 ?_
      refine W.nilrow 5 1 ?_
      refine W.loop (ι := {x : (Nat × List UInt8 × List UInt8) × (Option Addr × Nat) × Option Addr × Nat // x.1.1 ≤ M.length ∧ encF ((M.map (·.1)).drop x.1.1) x.1.2.1 x.1.2.2 = encF (M.map (·.1)) [] [] ∧ x.1.2.1.length ≤ 28 * x.1.1 ∧ x.1.2.2.length + (((M.map (·.1)).drop x.1.1).flatMap txt).length ≤ 16384}) (fun x => [(38, .int .i64 (x.1.1.1 : Nat)), (37, .int .i64 M.length), (36, .slice A M.length c), (9, .slice x.1.2.2.1 x.1.1.2.2.length x.1.2.2.2), (8, .slice x.1.2.1.1 x.1.1.2.1.length x.1.2.1.2), (0, .slice A M.length c), (2, .slice none 0 0), (3, str []), (4, .int .i64 0)]) (fun x => [.row (.slice x.1.2.1.1 x.1.1.2.1.length x.1.2.1.2) 5 1 x.1.1.2.1.length (bcells x.1.1.2.1), .row (.slice x.1.2.2.1 x.1.1.2.2.length x.1.2.2.2) 5 1 x.1.1.2.2.length (bcells x.1.1.2.2)]) (fun x w => RdF ocell 4 w A M ∧ (∀ q ∈ M, RdI w q.2.1 q.1.widths)) (fun x => M.length - x.1.1.1) ⟨((0, [], []), (none, 0), none, 0), Nat.zero_le _, rfl, by simp, by simpa using htot⟩ (.kp rfl (.kp rfl (.kp rfl (.kp rfl (.kp rfl (.kp rfl (.kp rfl (.kp rfl (.kp rfl (.dr .nil)))))))))) (.kp rfl (.kp rfl .nil)) (fun w h hd => ⟨h.1, h.2⟩) ?_
      intro x
      obtain ⟨⟨⟨j, b, s⟩, ⟨Ab, cb⟩, As, cs⟩, hi1, hi2, hi3, hi4⟩ := x
      dsimp only at hi1 hi2 hi3 hi4
      show W _ _ _ _ _ [(38, .int .i64 (j : Nat)), (37, .int .i64 M.length), (36, .slice A M.length c), (9, .slice As s.length cs), (8, .slice Ab b.length cb), (0, .slice A M.length c), (2, .slice none 0 0), (3, str []), (4, .int .i64 0)] [.row (.slice Ab b.length cb) 5 1 b.length (bcells b), .row (.slice As s.length cs) 5 1 s.length (bcells s)] (fun w => RdF ocell 4 w A M ∧ (∀ q ∈ M, RdI w q.2.1 q.1.widths))
      refine W.seq ?_
      refine W.region ?_
      refine WL.st (R.lss (.t L0) (.t L1)) rfl ?_
      refine WL.nil ?_
      refine QS.next ?_
      refine W.seq ?_
      refine W.cd (.t L0) (fun h4 => ?_) (fun h4 => ?_)
      ·
        refine W.del (.dr .rf) ?_
        refine W.skip ?_
        refine QS.next ?_
        refine W.seq ?_
        refine W.block ?_
        refine W.seq ?_
        refine W.region ?_
        obtain ⟨x40, hx40⟩ : ∃ x, (M)[j]? = some x := ⟨_, List.getElem?_eq_getElem (by omega)⟩
        have hL40 : (M.map (·.1))[j]? = some x40.1 := by simp [hx40]
        have hgd := hg x40 (List.mem_of_getElem? hx40)
        refine WL.st (R.ixF sl_47 (.t L2) rfl (.t L0) (l := M) (j := j) rfl (List.getElem?_eq_some_iff.1 hx40).1 (by decide) (fun w hb => hb.get.1)) rfl ?_
        refine WL.st (R.ldpF ag_95 (.t L0) (j := j) (k := 0) (fun w hb => hb.get.1) hx40 (by repeat constructor) (by decide)) rfl ?_
        refine WL.alloc z_95 rfl (fun g11 => ?_)
        refine WL.sto sz_95 (.t L0) (.t L1) rfl rfl rfl C0 (by repeat constructor) ?_
        refine WL.nil ?_
        refine QS.next ?_
        refine W.del (.kp (.dr (.dr .rf))) ?_
        refine W.seq ?_
        refine W.seq ?_
        refine W.region ?_
        refine WL.st (R.fa fo_95_0 (.t L0)) rfl ?_
        refine WL.st (R.ld sc_57 (.t L0) H0 rfl) rfl ?_
        refine WL.st (R.lss (.t L0) .c) rfl ?_
        refine WL.st (R.mv (.t L0)) rfl ?_
        refine WL.cd L0 U0 U0 (fun hg45 => ?_) (fun hg45 => ?_)
        ·
          refine WL.gn rfl L0 rfl ?_
          refine WL.gn rfl L1 rfl ?_
          refine WL.gn rfl L2 rfl ?_
          refine WL.st (R.pkt (.t L3) .c) rfl ?_
          refine WL.nil ?_
          refine QS.next ?_
          refine W.del (.kp (.dr (.dr (.dr (.dr (.dr (.dr (.dr .rf)))))))) ?_
          refine W.ct (.t L0) ?_
          refine W.del (.dr .rf) ?_
          refine W.seq ?_
          refine W.region ?_
          refine WL.as .c U7 rfl ?_
          refine WL.as .c U8 rfl ?_
          refine WL.as .c U9 rfl ?_
          refine WL.nil ?_
          refine QS.next ?_
          refine W.ret ?_
          refine QS.thenr ?_
          refine QS.blkr ?_
          refine QS.thenr ?_
          refine QS.thenr ?_
          refine QS.blkr ?_
          refine QS.thenr ?_
          have hr := enc_kind hi2 hL40 (by omega)
          rw [← hS] at hr
          exact QS.fin (.inl rfl) rfl (.tmp L7 (.tmp L8 (.tmp L9 .nil))) (none, 0) (by rw [hr]; rfl) (.dr (.dr (.dr .nil))) (fun w _ _ => by rw [hr]; exact Rd.nil)
        ·
          refine WL.gy rfl L0 (R.fa fo_95_0 (.t L4)) rfl ?_
          refine WL.gy rfl L1 (R.ld sc_57 (.t L0) H0 rfl) rfl ?_
          refine WL.gy rfl L2 (R.gtr (.t L0) .c) rfl ?_
          refine WL.st (R.pkf (.t L3) (.t L0)) rfl ?_
          refine WL.nil ?_
          refine QS.next ?_
          refine W.del (.kp (.dr (.dr (.dr (.dr (.dr (.dr (.dr .rf)))))))) ?_
          refine W.cd (.t L0) (fun h5 => ?_) (fun h5 => ?_)
          ·
            refine W.del (.dr .rf) ?_
            refine W.seq ?_
            refine W.region ?_
            refine WL.as .c U7 rfl ?_
            refine WL.as .c U8 rfl ?_
            refine WL.as .c U9 rfl ?_
            refine WL.nil ?_
            refine QS.next ?_
            refine W.ret ?_
            refine QS.thenr ?_
            refine QS.blkr ?_
            refine QS.thenr ?_
            refine QS.thenr ?_
            refine QS.blkr ?_
            refine QS.thenr ?_
            have hr := enc_kind hi2 hL40 (by omega)
            rw [← hS] at hr
            exact QS.fin (.inl rfl) rfl (.tmp L7 (.tmp L8 (.tmp L9 .nil))) (none, 0) (by rw [hr]; rfl) (.dr (.dr (.dr .nil))) (fun w _ _ => by rw [hr]; exact Rd.nil)
          ·
            refine W.del (.dr .rf) ?_
            refine W.skip ?_
            refine QS.next ?_
            refine W.seq ?_
            refine W.region ?_
            refine WL.st (R.lda ag_95 (.t L0) H0 (by repeat constructor)) rfl ?_
            refine WL.call gf_50 .f (.cons (.t L0) .nil) (.dr (.dr (.dr .nil))) (fun w hb => (code_operand hgd.tx hgd.wd hgd.n (hb.imp fun _ h => h.2 x40 (List.mem_of_getElem? hx40)))) rfl (fun x52 => ?_)
            obtain ⟨v52, hv52⟩ := x52
            refine WL.st (R.mv (.t L0)) rfl ?_
            refine WL.st (R.ex (.t L0) .here) rfl ?_
            refine WL.st (R.ex (.t L1) (.skip .here)) rfl ?_
            refine WL.st (R.as (.t L1)) rfl ?_
            refine WL.st (R.as (.t L1)) rfl ?_
            refine WL.nil ?_
            refine QS.next ?_
            refine W.del (.kp (.kp (.dr (.dr (.dr (.dr (.dr .rf))))))) ?_
            refine W.seq ?_
            refine W.seq ?_
            refine W.region ?_
            refine WL.st (R.mv (.t L0)) rfl ?_
            refine WL.st (R.notb (.t L0)) rfl ?_
            refine WL.nil ?_
            refine QS.next ?_
            refine W.del (.kp (.dr .rf)) ?_
            refine W.cb (.t L0) (fun h6 => ?_) (fun h6 => ?_)
            ·
              refine W.del (.dr .rf) ?_
              refine W.seq ?_
              refine W.region ?_
              refine WL.as .c U9 rfl ?_
              refine WL.as .c U10 rfl ?_
              refine WL.as .c U11 rfl ?_
              refine WL.nil ?_
              refine QS.next ?_
              refine W.ret ?_
              refine QS.thenr ?_
              refine QS.blkr ?_
              refine QS.thenr ?_
              refine QS.thenr ?_
              refine QS.blkr ?_
              refine QS.thenr ?_
              have hr := enc_bad hi2 hL40 (by omega) (by simpa using h6)
              rw [← hS] at hr
              exact QS.fin (.inl rfl) rfl (.tmp L9 (.tmp L10 (.tmp L11 .nil))) (none, 0) (by rw [hr]; rfl) (.dr (.dr (.dr .nil))) (fun w _ _ => by rw [hr]; exact Rd.nil)
            ·
              have hok : opOk x40.1 = true := by simpa using h6
              obtain rfl : v52 = opN x40.1 := hv52 hok
              have hob := opN_bd hok hgd.tx
              have hpl := put_len (k := x40.1.kind) (n := opN x40.1)
              refine W.del (.dr .rf) ?_
              refine W.skip ?_
              refine QS.next ?_
              refine W.seq ?_
              refine W.region ?_
              refine WL.st (R.mv (.t L7)) rfl ?_
              refine WL.st (R.fa fo_95_0 (.t L3)) rfl ?_
              refine WL.st (R.ld sc_57 (.t L0) H0 rfl) rfl ?_
              refine WL.st (R.mv (.t L4)) rfl ?_
              refine WL.call gf_51 .f (.cons (.t L3) (.cons (.t L1) (.cons (.t L0) .nil))) (.dr (.kp rfl (.dr .nil))) (fun w hb => (code_put (b := b) (n := opN x40.1) (by omega) (by omega) (by omega) (hb.imp fun _ _ => trivial))) rfl (fun x61 => ?_)
              have htd := tot_drop hL40
              have hpl2 : (putS x40.1.kind (opN x40.1)).length ≤ 12 := hpl (by by_cases hk : x40.1.kind = 1; (have := txt_1 hk; have e := (ok_text (kd := x40.1.kind) (n := x40.1.n) (tx := x40.1.text) (wd := x40.1.widths) hk).2; have e2 : opN x40.1 = (x40.1.text.length : Int) - 1 := e; rw [this] at htd; omega); exact hob.2.2 hk)
              refine WL.as (.t L0) U12 rfl ?_
              refine WL.nil ?_
              refine QS.next ?_
              refine W.del (.dr (.dr (.dr (.dr (.dr .rf))))) ?_
              refine W.seq ?_
              refine W.seq ?_
              refine W.region ?_
              refine WL.st (R.fa fo_95_0 (.t L2)) rfl ?_
              refine WL.st (R.ld sc_57 (.t L0) H1 rfl) rfl ?_
              refine WL.st (R.eqi (.t L0) .c) rfl ?_
              refine WL.nil ?_
              refine QS.next ?_
              refine W.del (.kp (.dr (.dr .rf))) ?_
              refine W.cd (.t L0) (fun h7 => ?_) (fun h7 => ?_)
              ·
                have htx7 := txt_1 h7
                rw [htx7] at htd
                refine W.del (.dr .rf) ?_
                refine W.region ?_
                refine WL.st (R.mv (.t L6)) rfl ?_
                refine WL.st (R.fa fo_95_2 (.t L3)) rfl ?_
                refine WL.st (R.ld sc_9 (.t L0) H1 rfl) rfl ?_
                refine WL.apps ap_22 zz_5 st_9 (.t L2) (.t L0) (fun _ _ => C2) (by omega) rfl (fun A68 c68 => ?_)
                refine WL.as (.t L0) U10 rfl ?_
                refine WL.nil ?_
                refine QS.next ?_
                refine W.del (.dr (.dr (.dr (.dr .rf)))) ?_
                refine W.seq ?_
                refine W.region ?_
                refine WL.st (R.fa fo_95_0 (.t L2)) rfl ?_
                refine WL.st (R.ld sc_57 (.t L0) H1 rfl) rfl ?_
                refine WL.st (R.eqi (.t L0) .c) rfl ?_
                refine WL.nil ?_
                refine QS.next ?_
                refine W.del (.kp (.dr (.dr .rf))) ?_
                refine W.cdf (.t L0) (by omega) ?_
                refine W.del (.dr .rf) ?_
                refine W.skip ?_
                refine QS.blkn ?_
                refine QS.next ?_
                refine W.region ?_
                refine WL.st (R.add (.t L3) .c (wi (by omega) (by omega))) rfl ?_
                refine WL.up (R.mv (.t L0)) U4 rfl ?_
                refine WL.nil ?_
                have he1 := enc1_no (o := x40.1) (by omega)
                have htx : txt x40.1 = x40.1.text := txt_1 h7
                have hbl : (b ++ encOne x40.1).length ≤ 28 * (j + 1) := by rw [he1]; simp; omega
                have htd := tot_drop hL40
                exact QS.at ⟨((j + 1, b ++ encOne x40.1, s ++ txt x40.1), (x61.1, x61.2), A68, c68), by dsimp only; omega, enc_next hi2 hL40 (by omega) hok, hbl, by dsimp only; rw [List.length_append]; omega⟩ (show M.length - (j + 1) < M.length - j by omega) (.dr (.dr (.dr (.dr (.kp rfl (.kp rfl (.kp rfl (.kp (by simp [htx]) (.kp (by simp [he1, wb_len]; try omega) (.kp rfl (.kp rfl (.kp rfl (.kp rfl .nil))))))))))))) (.kp (chunk_bytes (by simp [he1, wb_len]; try omega) (by first | simp [he1, htk] | simp [he1])) (.dr (.kp (chunk_bytes (by simp [htx]) (by simp [htx, bcells_app])) .nil))) (fun w h hd => ⟨h.1.1.1, h.1.1.2⟩)
              ·
                refine W.del (.dr .rf) ?_
                refine W.skip ?_
                refine QS.next ?_
                refine W.seq ?_
                refine W.region ?_
                refine WL.st (R.fa fo_95_0 (.t L2)) rfl ?_
                refine WL.st (R.ld sc_57 (.t L0) H1 rfl) rfl ?_
                refine WL.st (R.eqi (.t L0) .c) rfl ?_
                refine WL.nil ?_
                refine QS.next ?_
                refine W.del (.kp (.dr (.dr .rf))) ?_
                refine W.cd (.t L0) (fun h8 => ?_) (fun h8 => ?_)
                ·
                  obtain ⟨hw1, hw2⟩ := wok_of hok h8
                  refine W.del (.dr .rf) ?_
                  refine W.seq ?_
                  refine W.region ?_
                  refine WL.st (R.fa fo_95_3 (.t L2)) rfl ?_
                  refine WL.st (R.ld sc_37 (.t L0) H1 rfl) rfl ?_
                  refine WL.st (R.lenl sl_37 (.t L0)) rfl ?_
                  refine WL.st (R.mv .c) rfl ?_
                  refine WL.nil ?_
                  refine QS.next ?_
                  refine W.del (.kp (.kp (.kp (.dr .rf)))) ?_
                  refine W.block ?_
                  refine W.loop (ι := {p : Nat × Option Addr × Nat // p.1 ≤ x40.1.widths.length}) (fun z => [(75, .int .i64 (z.1.1 : Nat)), (74, .int .i64 x40.1.widths.length), (73, .slice x40.2.1 x40.1.widths.length x40.2.2), (38, .int .i64 j), (37, .int .i64 M.length), (36, .slice A M.length c), (9, .slice As s.length cs), (8, .slice z.1.2.1 (b ++ putS x40.1.kind (opN x40.1) ++ wBytes (x40.1.widths.take z.1.1)).length z.1.2.2), (0, .slice A M.length c), (2, .slice none 0 0), (3, str []), (4, .int .i64 0)]) (fun z => [.row (.slice z.1.2.1 (b ++ putS x40.1.kind (opN x40.1) ++ wBytes (x40.1.widths.take z.1.1)).length z.1.2.2) 5 1 (b ++ putS x40.1.kind (opN x40.1) ++ wBytes (x40.1.widths.take z.1.1)).length (bcells (b ++ putS x40.1.kind (opN x40.1) ++ wBytes (x40.1.widths.take z.1.1))), .row (.slice As s.length cs) 5 1 s.length (bcells s)]) (fun z w => RdF ocell 4 w A M ∧ (∀ q ∈ M, RdI w q.2.1 q.1.widths) ∧ RdI w x40.2.1 x40.1.widths) (fun z => x40.1.widths.length - z.1.1) ⟨(0, x61.1, x61.2), Nat.zero_le _⟩ (.kp rfl (.kp rfl (.kp rfl (.dr (.dr (.dr (.kp rfl (.kp rfl (.kp rfl (.kp rfl (.kp (by simp [wBytes]) (.kp rfl (.kp rfl (.kp rfl (.kp rfl .nil))))))))))))))) (.kp (chunk_bytes (by simp [wBytes]) (by simp [wBytes])) (.dr (.kp rfl .nil))) (fun w h hd => ⟨h.1.1.1, h.1.1.2, (h.1.1.2 x40 (List.mem_of_getElem? hx40))⟩) ?_
                  intro z
                  obtain ⟨⟨k, A8, c8⟩, hk⟩ := z
                  dsimp only at hk
                  show W _ _ _ _ _ [(75, .int .i64 (k : Nat)), (74, .int .i64 x40.1.widths.length), (73, .slice x40.2.1 x40.1.widths.length x40.2.2), (38, .int .i64 j), (37, .int .i64 M.length), (36, .slice A M.length c), (9, .slice As s.length cs), (8, .slice A8 (b ++ putS x40.1.kind (opN x40.1) ++ wBytes (x40.1.widths.take k)).length c8), (0, .slice A M.length c), (2, .slice none 0 0), (3, str []), (4, .int .i64 0)] [.row (.slice A8 (b ++ putS x40.1.kind (opN x40.1) ++ wBytes (x40.1.widths.take k)).length c8) 5 1 (b ++ putS x40.1.kind (opN x40.1) ++ wBytes (x40.1.widths.take k)).length (bcells (b ++ putS x40.1.kind (opN x40.1) ++ wBytes (x40.1.widths.take k))), .row (.slice As s.length cs) 5 1 s.length (bcells s)] (fun w => RdF ocell 4 w A M ∧ (∀ q ∈ M, RdI w q.2.1 q.1.widths) ∧ RdI w x40.2.1 x40.1.widths)
                  refine W.seq ?_
                  refine W.region ?_
                  refine WL.st (R.lss (.t L0) (.t L1)) rfl ?_
                  refine WL.nil ?_
                  refine QS.next ?_
                  refine W.seq ?_
                  refine W.cd (.t L0) (fun h9 => ?_) (fun h9 => ?_)
                  ·
                    refine W.del (.dr .rf) ?_
                    refine W.skip ?_
                    refine QS.next ?_
                    refine W.seq ?_
                    refine W.block ?_
                    refine W.seq ?_
                    have hpb : (b ++ putS x40.1.kind (opN x40.1) ++ wBytes (x40.1.widths.take k)).length ≤ 140737488340000 := by simp [wb_len]; omega
                    refine W.region ?_
                    obtain ⟨x77, hx77⟩ : ∃ x, (x40.1.widths)[k]? = some x := ⟨_, List.getElem?_eq_getElem (by omega)⟩
                    have hw3 := hw2 k x77 hx77
                    refine WL.st (R.ixI sl_37 (.t L2) rfl (.t L0) (l := x40.1.widths) (j := k) rfl (List.getElem?_eq_some_iff.1 hx77).1 (fun w hb => hb.get.2.2)) rfl ?_
                    refine WL.st (R.ldp sc_3 (.t L0) (fun w hb => RdI.cell (hb.get.2.2) hx77)) rfl ?_
                    refine WL.st (R.as (.t L0)) rfl ?_
                    refine WL.nil ?_
                    refine QS.next ?_
                    refine W.del (.kp (.dr (.dr .rf))) ?_
                    refine W.region ?_
                    refine WL.st (R.mv (.t L8)) rfl ?_
                    refine WL.st (R.mv (.t L1)) rfl ?_
                    refine WL.st (R.cvi Tryd.underlying3 ti_5 (.t L0) (wu8 (by omega) (by omega))) rfl ?_
                    refine WL.bs1 sl_22 z_5 rfl (by decide) (by decide) (.t L0) rfl rfl rfl (fun g82 => ?_)
                    refine WL.app' ap_22 (.t L3) (.t L0) (fun _ _ => C1) (fun w hb => Rd.of_blk (hb.has H0) rfl) rfl (by unfold maxLen; omega) (by omega) rfl (fun A83 c83 => ?_)
                    refine WL.as (.t L0) U13 rfl ?_
                    refine WL.nil ?_
                    refine QS.blkn ?_
                    refine QS.next ?_
                    refine W.del (.dr (.dr (.dr (.dr (.dr .rf))))) ?_
                    refine W.region ?_
                    refine WL.st (R.add (.t L1) .c (wi (by omega) (by omega))) rfl ?_
                    refine WL.up (R.mv (.t L0)) U2 rfl ?_
                    refine WL.nil ?_
                    exact QS.at ⟨(k + 1, A83, c83), by dsimp only; omega⟩ (show x40.1.widths.length - (k + 1) < x40.1.widths.length - k by omega) (.dr (.dr (.kp rfl (.kp rfl (.kp rfl (.kp rfl (.kp rfl (.kp rfl (.kp rfl (.kp (by simp [wb_len]; omega) (.kp rfl (.kp rfl (.kp rfl (.kp rfl .nil)))))))))))))) (.dr (.kp (chunk_bytes (by simp [wb_len]; omega) (by rw [bcells_app, List.append_assoc, wb_snoc hx77 (hw2 k x77 hx77), bcells_app, bcells_app, bcells_app])) (.kp rfl .nil))) (fun w h hd => ⟨h.1, h.2.1, h.2.2⟩)
                  ·
                    refine W.del (.dr .rf) ?_
                    refine W.exit ?_
                    refine QS.thenx ?_
                    refine QS.thenx ?_
                    refine QS.blkx ?_
                    refine QS.blkn ?_
                    refine QS.next ?_
                    refine W.del (.dr (.dr (.dr .rf))) ?_
                    refine W.region ?_
                    refine WL.st (R.add (.t L0) .c (wi (by omega) (by omega))) rfl ?_
                    refine WL.up (R.mv (.t L0)) U1 rfl ?_
                    refine WL.nil ?_
                    have hk0 : k = x40.1.widths.length := by omega
                    have htk : x40.1.widths.take k = x40.1.widths := List.take_of_length_le (by omega)
                    have he1 := enc1_12 (o := x40.1) (by omega)
                    have htx : txt x40.1 = [] := txt_0 h7
                    have hbl : (b ++ encOne x40.1).length ≤ 28 * (j + 1) := by rw [he1]; simp [wb_len]; omega
                    have htd := tot_drop hL40
                    exact QS.at ⟨((j + 1, b ++ encOne x40.1, s ++ txt x40.1), (A8, c8), As, cs), by dsimp only; omega, enc_next hi2 hL40 (by omega) hok, hbl, by dsimp only; rw [List.length_append]; omega⟩ (show M.length - (j + 1) < M.length - j by omega) (.dr (.kp rfl (.kp rfl (.kp rfl (.kp (by simp [htx]) (.kp (by simp [he1, wb_len]; try omega) (.kp rfl (.kp rfl (.kp rfl (.kp rfl .nil)))))))))) (.kp (chunk_bytes (by simp [he1, wb_len]; try omega) (by first | simp [he1, htk] | simp [he1])) (.kp (chunk_bytes (by simp [htx]) (by simp [htx, bcells_app])) .nil)) (fun w h hd => ⟨h.1, h.2.1⟩)
                ·
                  refine W.del (.dr .rf) ?_
                  refine W.skip ?_
                  refine QS.blkn ?_
                  refine QS.next ?_
                  refine W.region ?_
                  refine WL.st (R.add (.t L3) .c (wi (by omega) (by omega))) rfl ?_
                  refine WL.up (R.mv (.t L0)) U4 rfl ?_
                  refine WL.nil ?_
                  have he1 := enc1_no (o := x40.1) (by omega)
                  have htx : txt x40.1 = [] := txt_0 h7
                  have hbl : (b ++ encOne x40.1).length ≤ 28 * (j + 1) := by rw [he1]; simp; omega
                  have htd := tot_drop hL40
                  exact QS.at ⟨((j + 1, b ++ encOne x40.1, s ++ txt x40.1), (x61.1, x61.2), As, cs), by dsimp only; omega, enc_next hi2 hL40 (by omega) hok, hbl, by dsimp only; rw [List.length_append]; omega⟩ (show M.length - (j + 1) < M.length - j by omega) (.dr (.dr (.dr (.dr (.kp rfl (.kp rfl (.kp rfl (.kp (by simp [htx]) (.kp (by simp [he1, wb_len]; try omega) (.kp rfl (.kp rfl (.kp rfl (.kp rfl .nil))))))))))))) (.kp (chunk_bytes (by simp [he1, wb_len]; try omega) (by first | simp [he1, htk] | simp [he1])) (.dr (.kp (chunk_bytes (by simp [htx]) (by simp [htx, bcells_app])) .nil))) (fun w h hd => ⟨h.1.1.1, h.1.1.2⟩)
      ·
        refine W.del (.dr .rf) ?_
        refine W.exit ?_
        refine QS.thenx ?_
        refine QS.thenx ?_
        refine QS.blkx ?_
        refine QS.next ?_
        refine W.del (.dr (.dr (.dr .rf))) ?_
        refine W.seq ?_
        have hr := enc_end hi2 (by simp; omega)
        rw [← hS] at hr
        refine W.any mixed (n := 7) rfl ?_
        refine WA.more [0, 2] (by kernel_rfl) (List.cons_ne_nil _ _) ⟨⟨_, rfl, ?_⟩, ⟨_, rfl, ?_⟩, trivial⟩
        ·
          refine WL.st (R.mv (.t L1)) rfl ?_
          refine WL.nil (WA.next ?_)
          refine WA.more [1, 2] (by kernel_rfl) (List.cons_ne_nil _ _) ⟨⟨_, rfl, ?_⟩, ⟨_, rfl, ?_⟩, trivial⟩
          ·
            refine WL.call gf_51 .f (.cons (.t L0) (.cons .c (.cons .c .nil))) (.kp rfl (.dr .nil)) (fun w hb => (code_put (b := b) (k := 15) (n := 0) (by omega) (by omega) (by omega) (hb.imp fun _ _ => trivial))) rfl (fun x87 => ?_)
            refine WL.nil (WA.next ?_)
            refine WA.more [2, 4] (by kernel_rfl) (List.cons_ne_nil _ _) ⟨⟨_, rfl, ?_⟩, ⟨_, rfl, ?_⟩, trivial⟩
            ·
              refine WL.st (R.mv (.t L2)) rfl ?_
              refine WL.nil (WA.next ?_)
              refine WA.more [3, 4] (by kernel_rfl) (List.cons_ne_nil _ _) ⟨⟨_, rfl, ?_⟩, ⟨_, rfl, ?_⟩, trivial⟩
              ·
                refine WL.st (R.cvbs by_22 st_9 (.t L0) rfl (fun w hb => rdB_row (hb.has H1))) rfl ?_
                refine WL.nil (WA.next ?_)
                refine WA.more [4] (by kernel_rfl) (List.cons_ne_nil _ _) ⟨⟨_, rfl, ?_⟩, trivial⟩
                refine WL.as (.t L2) U7 rfl ?_
                refine WL.nil (WA.next ?_)
                refine WA.more [5] (by kernel_rfl) (List.cons_ne_nil _ _) ⟨⟨_, rfl, ?_⟩, trivial⟩
                refine WL.as (.t L0) U8 rfl ?_
                refine WL.nil (WA.next ?_)
                refine WA.more [6] (by kernel_rfl) (List.cons_ne_nil _ _) ⟨⟨_, rfl, ?_⟩, trivial⟩
                refine WL.as .c U9 rfl ?_
                refine WL.nil (WA.next ?_)
                refine WA.done (by kernel_rfl) ?_
                refine QS.next ?_
                refine W.del (.dr (.dr (.dr (.dr .rf)))) ?_
                refine W.ret ?_
                exact QS.fin (.inl rfl) rfl (.tmp L3 (.tmp L4 (.tmp L5 .nil))) x87 (by rw [hr]; rfl) (.dr (.dr .nil)) (fun w h hd => by rw [hr]; exact rdB_row hd.1)
              ·
                refine WL.as (.t L1) U6 rfl ?_
                refine WL.nil (WA.next ?_)
                refine WA.more [3] (by kernel_rfl) (List.cons_ne_nil _ _) ⟨⟨_, rfl, ?_⟩, trivial⟩
                refine WL.st (R.cvbs by_22 st_9 (.t L0) rfl (fun w hb => rdB_row (hb.has H1))) rfl ?_
                refine WL.nil (WA.next ?_)
                refine WA.more [5] (by kernel_rfl) (List.cons_ne_nil _ _) ⟨⟨_, rfl, ?_⟩, trivial⟩
                refine WL.as (.t L0) U8 rfl ?_
                refine WL.nil (WA.next ?_)
                refine WA.more [6] (by kernel_rfl) (List.cons_ne_nil _ _) ⟨⟨_, rfl, ?_⟩, trivial⟩
                refine WL.as .c U9 rfl ?_
                refine WL.nil (WA.next ?_)
                refine WA.done (by kernel_rfl) ?_
                refine QS.next ?_
                refine W.del (.dr (.dr (.dr (.dr .rf)))) ?_
                refine W.ret ?_
                exact QS.fin (.inl rfl) rfl (.tmp L3 (.tmp L4 (.tmp L5 .nil))) x87 (by rw [hr]; rfl) (.dr (.dr .nil)) (fun w h hd => by rw [hr]; exact rdB_row hd.1)
            ·
              refine WL.as (.t L0) U5 rfl ?_
              refine WL.nil (WA.next ?_)
              refine WA.more [2] (by kernel_rfl) (List.cons_ne_nil _ _) ⟨⟨_, rfl, ?_⟩, trivial⟩
              refine WL.st (R.mv (.t L2)) rfl ?_
              refine WL.nil (WA.next ?_)
              refine WA.more [3] (by kernel_rfl) (List.cons_ne_nil _ _) ⟨⟨_, rfl, ?_⟩, trivial⟩
              refine WL.st (R.cvbs by_22 st_9 (.t L0) rfl (fun w hb => rdB_row (hb.has H1))) rfl ?_
              refine WL.nil (WA.next ?_)
              refine WA.more [5] (by kernel_rfl) (List.cons_ne_nil _ _) ⟨⟨_, rfl, ?_⟩, trivial⟩
              refine WL.as (.t L0) U8 rfl ?_
              refine WL.nil (WA.next ?_)
              refine WA.more [6] (by kernel_rfl) (List.cons_ne_nil _ _) ⟨⟨_, rfl, ?_⟩, trivial⟩
              refine WL.as .c U9 rfl ?_
              refine WL.nil (WA.next ?_)
              refine WA.done (by kernel_rfl) ?_
              refine QS.next ?_
              refine W.del (.dr (.dr (.dr (.dr .rf)))) ?_
              refine W.ret ?_
              exact QS.fin (.inl rfl) rfl (.tmp L3 (.tmp L4 (.tmp L5 .nil))) x87 (by rw [hr]; rfl) (.dr (.dr .nil)) (fun w h hd => by rw [hr]; exact rdB_row hd.1)
          ·
            refine WL.st (R.mv (.t L1)) rfl ?_
            refine WL.nil (WA.next ?_)
            refine WA.more [1, 3] (by kernel_rfl) (List.cons_ne_nil _ _) ⟨⟨_, rfl, ?_⟩, ⟨_, rfl, ?_⟩, trivial⟩
            ·
              refine WL.call gf_51 .f (.cons (.t L1) (.cons .c (.cons .c .nil))) (.kp rfl (.dr .nil)) (fun w hb => (code_put (b := b) (k := 15) (n := 0) (by omega) (by omega) (by omega) (hb.imp fun _ _ => trivial))) rfl (fun x87 => ?_)
              refine WL.nil (WA.next ?_)
              refine WA.more [3, 4] (by kernel_rfl) (List.cons_ne_nil _ _) ⟨⟨_, rfl, ?_⟩, ⟨_, rfl, ?_⟩, trivial⟩
              ·
                refine WL.st (R.cvbs by_22 st_9 (.t L1) rfl (fun w hb => rdB_row (hb.has H1))) rfl ?_
                refine WL.nil (WA.next ?_)
                refine WA.more [4] (by kernel_rfl) (List.cons_ne_nil _ _) ⟨⟨_, rfl, ?_⟩, trivial⟩
                refine WL.as (.t L1) U7 rfl ?_
                refine WL.nil (WA.next ?_)
                refine WA.more [5] (by kernel_rfl) (List.cons_ne_nil _ _) ⟨⟨_, rfl, ?_⟩, trivial⟩
                refine WL.as (.t L0) U8 rfl ?_
                refine WL.nil (WA.next ?_)
                refine WA.more [6] (by kernel_rfl) (List.cons_ne_nil _ _) ⟨⟨_, rfl, ?_⟩, trivial⟩
                refine WL.as .c U9 rfl ?_
                refine WL.nil (WA.next ?_)
                refine WA.done (by kernel_rfl) ?_
                refine QS.next ?_
                refine W.del (.dr (.dr (.dr (.dr .rf)))) ?_
                refine W.ret ?_
                exact QS.fin (.inl rfl) rfl (.tmp L3 (.tmp L4 (.tmp L5 .nil))) x87 (by rw [hr]; rfl) (.dr (.dr .nil)) (fun w h hd => by rw [hr]; exact rdB_row hd.1)
              ·
                refine WL.as (.t L0) U6 rfl ?_
                refine WL.nil (WA.next ?_)
                refine WA.more [3] (by kernel_rfl) (List.cons_ne_nil _ _) ⟨⟨_, rfl, ?_⟩, trivial⟩
                refine WL.st (R.cvbs by_22 st_9 (.t L1) rfl (fun w hb => rdB_row (hb.has H1))) rfl ?_
                refine WL.nil (WA.next ?_)
                refine WA.more [5] (by kernel_rfl) (List.cons_ne_nil _ _) ⟨⟨_, rfl, ?_⟩, trivial⟩
                refine WL.as (.t L0) U8 rfl ?_
                refine WL.nil (WA.next ?_)
                refine WA.more [6] (by kernel_rfl) (List.cons_ne_nil _ _) ⟨⟨_, rfl, ?_⟩, trivial⟩
                refine WL.as .c U9 rfl ?_
                refine WL.nil (WA.next ?_)
                refine WA.done (by kernel_rfl) ?_
                refine QS.next ?_
                refine W.del (.dr (.dr (.dr (.dr .rf)))) ?_
                refine W.ret ?_
                exact QS.fin (.inl rfl) rfl (.tmp L3 (.tmp L4 (.tmp L5 .nil))) x87 (by rw [hr]; rfl) (.dr (.dr .nil)) (fun w h hd => by rw [hr]; exact rdB_row hd.1)
            ·
              refine WL.st (R.cvbs by_22 st_9 (.t L0) rfl (fun w hb => rdB_row (hb.has H1))) rfl ?_
              refine WL.nil (WA.next ?_)
              refine WA.more [1] (by kernel_rfl) (List.cons_ne_nil _ _) ⟨⟨_, rfl, ?_⟩, trivial⟩
              refine WL.call gf_51 .f (.cons (.t L2) (.cons .c (.cons .c .nil))) (.kp rfl (.dr .nil)) (fun w hb => (code_put (b := b) (k := 15) (n := 0) (by omega) (by omega) (by omega) (hb.imp fun _ _ => trivial))) rfl (fun x87 => ?_)
              refine WL.nil (WA.next ?_)
              refine WA.more [4] (by kernel_rfl) (List.cons_ne_nil _ _) ⟨⟨_, rfl, ?_⟩, trivial⟩
              refine WL.as (.t L0) U7 rfl ?_
              refine WL.nil (WA.next ?_)
              refine WA.more [5] (by kernel_rfl) (List.cons_ne_nil _ _) ⟨⟨_, rfl, ?_⟩, trivial⟩
              refine WL.as (.t L1) U8 rfl ?_
              refine WL.nil (WA.next ?_)
              refine WA.more [6] (by kernel_rfl) (List.cons_ne_nil _ _) ⟨⟨_, rfl, ?_⟩, trivial⟩
              refine WL.as .c U9 rfl ?_
              refine WL.nil (WA.next ?_)
              refine WA.done (by kernel_rfl) ?_
              refine QS.next ?_
              refine W.del (.dr (.dr (.dr (.dr .rf)))) ?_
              refine W.ret ?_
              exact QS.fin (.inl rfl) rfl (.tmp L3 (.tmp L4 (.tmp L5 .nil))) x87 (by rw [hr]; rfl) (.dr (.dr .nil)) (fun w h hd => by rw [hr]; exact rdB_row hd.1)
        ·
          refine WL.st (R.mv (.t L0)) rfl ?_
          refine WL.nil (WA.next ?_)
          refine WA.more [0, 3] (by kernel_rfl) (List.cons_ne_nil _ _) ⟨⟨_, rfl, ?_⟩, ⟨_, rfl, ?_⟩, trivial⟩
          ·
            refine WL.st (R.mv (.t L2)) rfl ?_
            refine WL.nil (WA.next ?_)
            refine WA.more [1, 3] (by kernel_rfl) (List.cons_ne_nil _ _) ⟨⟨_, rfl, ?_⟩, ⟨_, rfl, ?_⟩, trivial⟩
            ·
              refine WL.call gf_51 .f (.cons (.t L0) (.cons .c (.cons .c .nil))) (.kp rfl (.dr .nil)) (fun w hb => (code_put (b := b) (k := 15) (n := 0) (by omega) (by omega) (by omega) (hb.imp fun _ _ => trivial))) rfl (fun x87 => ?_)
              refine WL.nil (WA.next ?_)
              refine WA.more [3, 4] (by kernel_rfl) (List.cons_ne_nil _ _) ⟨⟨_, rfl, ?_⟩, ⟨_, rfl, ?_⟩, trivial⟩
              ·
                refine WL.st (R.cvbs by_22 st_9 (.t L2) rfl (fun w hb => rdB_row (hb.has H1))) rfl ?_
                refine WL.nil (WA.next ?_)
                refine WA.more [4] (by kernel_rfl) (List.cons_ne_nil _ _) ⟨⟨_, rfl, ?_⟩, trivial⟩
                refine WL.as (.t L1) U7 rfl ?_
                refine WL.nil (WA.next ?_)
                refine WA.more [5] (by kernel_rfl) (List.cons_ne_nil _ _) ⟨⟨_, rfl, ?_⟩, trivial⟩
                refine WL.as (.t L0) U8 rfl ?_
                refine WL.nil (WA.next ?_)
                refine WA.more [6] (by kernel_rfl) (List.cons_ne_nil _ _) ⟨⟨_, rfl, ?_⟩, trivial⟩
                refine WL.as .c U9 rfl ?_
                refine WL.nil (WA.next ?_)
                refine WA.done (by kernel_rfl) ?_
                refine QS.next ?_
                refine W.del (.dr (.dr (.dr (.dr .rf)))) ?_
                refine W.ret ?_
                exact QS.fin (.inl rfl) rfl (.tmp L3 (.tmp L4 (.tmp L5 .nil))) x87 (by rw [hr]; rfl) (.dr (.dr .nil)) (fun w h hd => by rw [hr]; exact rdB_row hd.1)
              ·
                refine WL.as (.t L0) U6 rfl ?_
                refine WL.nil (WA.next ?_)
                refine WA.more [3] (by kernel_rfl) (List.cons_ne_nil _ _) ⟨⟨_, rfl, ?_⟩, trivial⟩
                refine WL.st (R.cvbs by_22 st_9 (.t L2) rfl (fun w hb => rdB_row (hb.has H1))) rfl ?_
                refine WL.nil (WA.next ?_)
                refine WA.more [5] (by kernel_rfl) (List.cons_ne_nil _ _) ⟨⟨_, rfl, ?_⟩, trivial⟩
                refine WL.as (.t L0) U8 rfl ?_
                refine WL.nil (WA.next ?_)
                refine WA.more [6] (by kernel_rfl) (List.cons_ne_nil _ _) ⟨⟨_, rfl, ?_⟩, trivial⟩
                refine WL.as .c U9 rfl ?_
                refine WL.nil (WA.next ?_)
                refine WA.done (by kernel_rfl) ?_
                refine QS.next ?_
                refine W.del (.dr (.dr (.dr (.dr .rf)))) ?_
                refine W.ret ?_
                exact QS.fin (.inl rfl) rfl (.tmp L3 (.tmp L4 (.tmp L5 .nil))) x87 (by rw [hr]; rfl) (.dr (.dr .nil)) (fun w h hd => by rw [hr]; exact rdB_row hd.1)
            ·
              refine WL.st (R.cvbs by_22 st_9 (.t L1) rfl (fun w hb => rdB_row (hb.has H1))) rfl ?_
              refine WL.nil (WA.next ?_)
              refine WA.more [1] (by kernel_rfl) (List.cons_ne_nil _ _) ⟨⟨_, rfl, ?_⟩, trivial⟩
              refine WL.call gf_51 .f (.cons (.t L1) (.cons .c (.cons .c .nil))) (.kp rfl (.dr .nil)) (fun w hb => (code_put (b := b) (k := 15) (n := 0) (by omega) (by omega) (by omega) (hb.imp fun _ _ => trivial))) rfl (fun x87 => ?_)
              refine WL.nil (WA.next ?_)
              refine WA.more [4] (by kernel_rfl) (List.cons_ne_nil _ _) ⟨⟨_, rfl, ?_⟩, trivial⟩
              refine WL.as (.t L0) U7 rfl ?_
              refine WL.nil (WA.next ?_)
              refine WA.more [5] (by kernel_rfl) (List.cons_ne_nil _ _) ⟨⟨_, rfl, ?_⟩, trivial⟩
              refine WL.as (.t L1) U8 rfl ?_
              refine WL.nil (WA.next ?_)
              refine WA.more [6] (by kernel_rfl) (List.cons_ne_nil _ _) ⟨⟨_, rfl, ?_⟩, trivial⟩
              refine WL.as .c U9 rfl ?_
              refine WL.nil (WA.next ?_)
              refine WA.done (by kernel_rfl) ?_
              refine QS.next ?_
              refine W.del (.dr (.dr (.dr (.dr .rf)))) ?_
              refine W.ret ?_
              exact QS.fin (.inl rfl) rfl (.tmp L3 (.tmp L4 (.tmp L5 .nil))) x87 (by rw [hr]; rfl) (.dr (.dr .nil)) (fun w h hd => by rw [hr]; exact rdB_row hd.1)
          ·
            refine WL.st (R.cvbs by_22 st_9 (.t L0) rfl (fun w hb => rdB_row (hb.has H1))) rfl ?_
            refine WL.nil (WA.next ?_)
            refine WA.more [0] (by kernel_rfl) (List.cons_ne_nil _ _) ⟨⟨_, rfl, ?_⟩, trivial⟩
            refine WL.st (R.mv (.t L3)) rfl ?_
            refine WL.nil (WA.next ?_)
            refine WA.more [1] (by kernel_rfl) (List.cons_ne_nil _ _) ⟨⟨_, rfl, ?_⟩, trivial⟩
            refine WL.call gf_51 .f (.cons (.t L0) (.cons .c (.cons .c .nil))) (.kp rfl (.dr .nil)) (fun w hb => (code_put (b := b) (k := 15) (n := 0) (by omega) (by omega) (by omega) (hb.imp fun _ _ => trivial))) rfl (fun x87 => ?_)
            refine WL.nil (WA.next ?_)
            refine WA.more [4] (by kernel_rfl) (List.cons_ne_nil _ _) ⟨⟨_, rfl, ?_⟩, trivial⟩
            refine WL.as (.t L0) U7 rfl ?_
            refine WL.nil (WA.next ?_)
            refine WA.more [5] (by kernel_rfl) (List.cons_ne_nil _ _) ⟨⟨_, rfl, ?_⟩, trivial⟩
            refine WL.as (.t L2) U8 rfl ?_
            refine WL.nil (WA.next ?_)
            refine WA.more [6] (by kernel_rfl) (List.cons_ne_nil _ _) ⟨⟨_, rfl, ?_⟩, trivial⟩
            refine WL.as .c U9 rfl ?_
            refine WL.nil (WA.next ?_)
            refine WA.done (by kernel_rfl) ?_
            refine QS.next ?_
            refine W.del (.dr (.dr (.dr (.dr .rf)))) ?_
            refine W.ret ?_
            exact QS.fin (.inl rfl) rfl (.tmp L3 (.tmp L4 (.tmp L5 .nil))) x87 (by rw [hr]; rfl) (.dr (.dr .nil)) (fun w h hd => by rw [hr]; exact rdB_row hd.1)

end Go.Proofs.YtpaecijilnfkhaaDoor
