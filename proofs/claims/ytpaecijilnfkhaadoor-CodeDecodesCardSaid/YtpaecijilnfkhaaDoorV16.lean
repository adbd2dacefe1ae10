/- The laws of chapter 16. -/
import Derived.Test.YtpaecijilnfkhaaDoorU16

namespace Go.Proofs.YtpaecijilnfkhaaDoor
open Go Go.Eng Go.RowKit
open Go.Proofs
def awM : List (OpS × Option Addr × Nat) := [((⟨8, -1, [], []⟩ : OpS), (none : Option Addr), 0), (⟨1, 0, [97, 98], []⟩, none, 0), (⟨9, 0, [], []⟩, none, 0)]
theorem aw16 : encS (awM.map (·.1)) = ([128, 17, 144, 240], [97, 98], 0) := by kernel_rfl
theorem aw17 : nextS [47, 5] 0 = (⟨0, 2, 2, 20, []⟩, 0) := by kernel_rfl
def awL : List (List UInt8) := [[48, 32, 112, 97, 114, 97, 32, 45, 49], [49, 32, 116, 101, 120, 116, 32, 50], [50, 32, 100, 111, 110, 101], [51, 32, 104, 97, 108, 116]]
theorem aw18i : instrsS [128, 17, 144, 240] = ([⟨0, 1, 8, -1, []⟩, ⟨1, 1, 1, 2, []⟩, ⟨2, 1, 9, 0, []⟩, ⟨3, 1, 15, 0, []⟩], 0, 0) := by kernel_rfl
theorem awi (i : Nat) (h : i < 10) : Lib.itoa (i : Int) = [UInt8.ofNat (48 + i)] := by rw [Lib.itoa_nonneg, Lib.decDigits_one h]
theorem awin : Lib.itoa (-1) = [45, 49] := by
  have := Lib.itoa_neg 1 (by decide)
  rw [Lib.decDigits_one (by decide)] at this
  exact this
theorem aw18 : listS [128, 17, 144, 240] = (awL, 0, 0) := by
  have h0 := awi 0 (by decide)
  have h1 := awi 1 (by decide)
  have h2 := awi 2 (by decide)
  have h3 := awi 3 (by decide)
  rw [listS, aw18i, if_neg (by decide)]
  simp only [List.map_cons, List.map_nil, lineS, headS, wordsS, List.flatMap_nil, List.append_nil]
  rw [show Lib.itoa (0 : Int) = _ from h0, show Lib.itoa (1 : Int) = _ from h1, show Lib.itoa (2 : Int) = _ from h2, show Lib.itoa (3 : Int) = _ from h3, awin]
  rfl

theorem law16_awake  {C : Cx} (hb : Hb C C.w0 [] (fun w => Lib.TabIs Tryd.prog w "internal/strconv.uint64pow10" .u64 Lib.pow10Tab)) :
    Ret Tryd.prog 29 [] C (.bool true) := by
  refine Sp.enter (N := 72) (e := entryEnv [] 0 10) Tryd.func29 rfl rfl (Nat.le_of_ble_eq_true rfl) (entry_ok (Nat.le_of_ble_eq_true rfl) (Nat.le_of_ble_eq_true rfl)) (entry_nd _ _) hb ?_
  show W _ _ _ _ _ [(0, undef), (1, undef), (2, undef), (3, undef), (4, undef), (5, undef), (6, undef), (7, undef), (8, undef), (9, undef)] _ _
  refine W.seq ?_
  refine W.region ?_
  refine WL.as .c U0 rfl ?_
  refine WL.nil ?_
  refine QS.next ?_
  refine W.seq ?_
  refine W.region ?_
  refine WL.st (R.bld (z := [.int .i64 0, .int .i64 0, str [], .slice none 0 0]) Tryd.underlying95 (by kernel_rfl) z_95 (.cons fo_95_0 fz_95_0 rfl .c rfl (by repeat constructor) (.cons fo_95_1 fz_95_1 rfl .c rfl (by repeat constructor) .nil))) rfl ?_
  refine WL.st (R.bld (z := [.int .i64 0, .int .i64 0, str [], .slice none 0 0]) Tryd.underlying95 (by kernel_rfl) z_95 (.cons fo_95_0 fz_95_0 rfl .c rfl (by repeat constructor) (.cons fo_95_2 fz_95_2 rfl .c rfl (by repeat constructor) .nil))) rfl ?_
  refine WL.st (R.bld (z := [.int .i64 0, .int .i64 0, str [], .slice none 0 0]) Tryd.underlying95 (by kernel_rfl) z_95 (.cons fo_95_0 fz_95_0 rfl .c rfl (by repeat constructor) .nil)) rfl ?_
  refine WL.bse sl_47 z_95 (by decide) (by decide) (pv := [(0, .agg #[.int .i64 8, .int .i64 (-1), str [], .slice none 0 0]), (1, .agg #[.int .i64 1, .int .i64 0, str [97, 98], .slice none 0 0]), (2, .agg #[.int .i64 9, .int .i64 0, str [], .slice none 0 0])]) (fun a hf => by simp [hf.ev (.t L2), hf.ev (.t L1), hf.ev (.t L0)]) (l := flat ocell awM) (by kernel_rfl) rfl (fun g13 => ?_)
  refine WL.weak (J := fun w => Lib.TabIs Tryd.prog w "internal/strconv.uint64pow10" .u64 Lib.pow10Tab ∧ RdF ocell 4 w (some ⟨g13, 0, none⟩) awM) (.dr .nil) (fun w h hd => ⟨h, ⟨ocell_length, Rd.of_blk hd.1 rfl⟩⟩) ?_
  refine WL.as (.t L0) U5 rfl ?_
  refine WL.nil ?_
  refine QS.next ?_
  refine W.del (.dr (.dr (.dr (.dr .rf)))) ?_
  refine W.seq ?_
  refine W.region ?_
  refine WL.st (R.mv (.t L1)) rfl ?_
  refine WL.call gf_26 .f (.cons (.t L0) .nil) .nil (fun w hb => (code_Encode (M := awM) (fun q hq => by simp [awM] at hq; rcases hq with rfl | rfl | rfl <;> exact ⟨by decide, by decide, by decide⟩) (by decide) (hb.imp fun _ h => ⟨h.2, fun q hq => by simp [awM] at hq; rcases hq with rfl | rfl | rfl <;> exact Rd.nil⟩))) rfl (fun x16 => ?_)
  refine WL.rw L0 (v' := .tuple #[.slice x16.1 4 x16.2, str [97, 98], .int .i64 0]) (by rw [aw16]; rfl) U0 ?_
  refine WL.st (R.mv (.t L0)) rfl ?_
  refine WL.st (R.ex (.t L0) .here) rfl ?_
  refine WL.st (R.ex (.t L1) (.skip .here)) rfl ?_
  refine WL.st (R.ex (.t L2) (.skip (.skip .here))) rfl ?_
  refine WL.as (.t L2) U8 rfl ?_
  refine WL.as (.t L1) U9 rfl ?_
  refine WL.as (.t L0) U10 rfl ?_
  refine WL.nil ?_
  refine QS.next ?_
  refine W.del (.dr (.dr (.dr (.dr (.dr (.dr .rf)))))) ?_
  refine W.seq ?_
  refine W.region ?_
  refine WL.bsc sl_22 z_5 (by decide) (by decide) (pv := [(0, .int .u8 47), (1, .int .u8 5)]) (fun a => by simp [Act.eval]) (l := [.int .u8 47, .int .u8 5]) (by kernel_rfl) rfl (fun g21 => ?_)
  refine WL.weak (J := fun w => Lib.TabIs Tryd.prog w "internal/strconv.uint64pow10" .u64 Lib.pow10Tab ∧ RdF ocell 4 w (some ⟨g13, 0, none⟩) awM ∧ RdB w x16.1 (encS (awM.map (·.1))).1 ∧ RdB w (some ⟨g21, 0, none⟩) [47, 5]) (.dr .nil) (fun w h hd => ⟨h.1.1, h.1.2, h.2, Rd.of_blk hd.1 rfl⟩) ?_
  refine WL.call gf_30 .f (.cons (.t L0) (.cons .c .nil)) .nil (fun w hb => (code_Next (b := [47, 5]) (by decide) (by decide) (hb.imp fun _ h => h.2.2.2))) rfl (fun x22 => ?_)
  refine WL.rw L0 (v' := .tuple #[.agg #[.int .i64 0, .int .i64 2, .int .i64 2, .int .i64 20, .slice x22.1 0 x22.2], .int .i64 0]) (by rw [aw17]; rfl) U0 ?_
  refine WL.st (R.mv (.t L0)) rfl ?_
  refine WL.st (R.ex (.t L0) .here) rfl ?_
  refine WL.st (R.ex (.t L1) (.skip .here)) rfl ?_
  refine WL.allocu z_59 (fun _ => U10) rfl (fun g5 => ?_)
  refine WL.sto sz_59 (.t L10) (.t L1) rfl rfl rfl C0 (by repeat constructor) ?_
  refine WL.as (.t L0) U11 rfl ?_
  refine WL.nil ?_
  refine QS.next ?_
  refine W.del (.dr (.dr (.dr (.dr (.dr .rf))))) ?_
  refine W.seq ?_
  refine W.region ?_
  refine WL.bsc sl_22 z_5 (by decide) (by decide) (pv := [(0, .int .u8 128), (1, .int .u8 17), (2, .int .u8 144), (3, .int .u8 240)]) (fun a => by simp [Act.eval]) (l := [.int .u8 128, .int .u8 17, .int .u8 144, .int .u8 240]) (by kernel_rfl) rfl (fun g26 => ?_)
  refine WL.weak (J := fun w => Lib.TabIs Tryd.prog w "internal/strconv.uint64pow10" .u64 Lib.pow10Tab ∧ RdF ocell 4 w (some ⟨g13, 0, none⟩) awM ∧ RdB w x16.1 (encS (awM.map (·.1))).1 ∧ RdB w (some ⟨g21, 0, none⟩) [47, 5] ∧ RdI w x22.1 (nextS [47, 5] 0).1.widths ∧ RdB w (some ⟨g26, 0, none⟩) [128, 17, 144, 240]) (.dr (.kp rfl .nil)) (fun w h hd => ⟨h.1.1, h.1.2.1, h.1.2.2.1, h.1.2.2.2, h.2, Rd.of_blk hd.1 rfl⟩) ?_
  refine WL.call gf_39 .f (.cons (.t L0) .nil) (.dr .nil) (fun w hb => (code_List (b := [128, 17, 144, 240]) (by decide) (by decide) (hb.imp fun _ h => ⟨h.2.2.2.2.2, h.1⟩))) rfl (fun x27 => ?_)
  refine WL.rw L0 (v' := .tuple #[.slice x27.1 4 x27.2, .int .i64 0, .int .i64 0]) (by rw [aw18]; rfl) U0 ?_
  refine WL.st (R.mv (.t L0)) rfl ?_
  refine WL.st (R.ex (.t L0) .here) rfl ?_
  refine WL.st (R.ex (.t L1) (.skip .here)) rfl ?_
  refine WL.st (R.ex (.t L2) (.skip (.skip .here))) rfl ?_
  refine WL.as (.t L2) U13 rfl ?_
  refine WL.as (.t L1) U14 rfl ?_
  refine WL.as (.t L0) U15 rfl ?_
  refine WL.nil ?_
  refine QS.next ?_
  refine W.del (.dr (.dr (.dr (.dr (.dr (.dr .rf)))))) ?_
  refine W.seq ?_
  refine W.region ?_
  refine WL.st (R.mv (.t L4)) rfl ?_
  refine WL.st (R.eqi (.t L0) .c) rfl ?_
  refine WL.st (R.mv (.t L0)) rfl ?_
  refine WL.rw L0 (v' := .bool true) (congrArg Value.bool (decide_eq_true rfl)) U0 ?_
  refine WL.gy rfl L0 (R.mv (.t L5)) rfl ?_
  refine WL.gy rfl L1 (R.cvbs by_22 st_9 (.t L0) rfl (fun w hb => by have := hb.get.1.2.2.1; rw [aw16] at this; exact this)) rfl ?_
  refine WL.gyw rfl L2 ?_
  refine WL.bsc sl_22 z_5 (by decide) (by decide) (pv := [(0, .int .u8 128), (1, .int .u8 17), (2, .int .u8 144), (3, .int .u8 240)]) (fun a => by simp [Act.eval]) (l := [.int .u8 128, .int .u8 17, .int .u8 144, .int .u8 240]) (by kernel_rfl) rfl (fun g36 => ?_)
  refine WL.weak (J := fun w => Lib.TabIs Tryd.prog w "internal/strconv.uint64pow10" .u64 Lib.pow10Tab ∧ RdF ocell 4 w (some ⟨g13, 0, none⟩) awM ∧ RdB w x16.1 (encS (awM.map (·.1))).1 ∧ RdB w (some ⟨g21, 0, none⟩) [47, 5] ∧ RdI w x22.1 (nextS [47, 5] 0).1.widths ∧ RdB w (some ⟨g26, 0, none⟩) [128, 17, 144, 240] ∧ RdS w x27.1 (listS [128, 17, 144, 240]).1 ∧ RdB w (some ⟨g36, 0, none⟩) [128, 17, 144, 240]) (.dr (.kp rfl .nil)) (fun w h hd => ⟨h.1.1, h.1.2.1, h.1.2.2.1, h.1.2.2.2.1, h.1.2.2.2.2.1, h.1.2.2.2.2.2, h.2, Rd.of_blk hd.1 rfl⟩) ?_
  refine WL.gy rfl L3 (R.cvbs by_22 st_9 (.t L0) rfl (fun w hb => hb.get.2.2.2.2.2.2.2)) rfl ?_
  refine WL.gy rfl L4 (R.eqs (.t L2) (.t L0)) rfl ?_
  refine WL.st (R.pkt (.t L5) (.t L0)) rfl ?_
  refine WL.st (R.mv (.t L0)) rfl ?_
  refine WL.rw L0 (v' := .bool true) (congrArg Value.bool (decide_eq_true rfl)) U0 ?_
  refine WL.gy rfl L0 (R.mv (.t L13)) rfl ?_
  refine WL.gy rfl L1 (R.eqs (.t L0) .c) rfl ?_
  refine WL.st (R.pkt (.t L2) (.t L0)) rfl ?_
  refine WL.st (R.mv (.t L0)) rfl ?_
  refine WL.rw L0 (v' := .bool true) (congrArg Value.bool (decide_eq_true rfl)) U0 ?_
  refine WL.gy rfl L0 (R.mv (.t L20)) rfl ?_
  refine WL.gy rfl L1 (R.eqi (.t L0) .c) rfl ?_
  refine WL.st (R.pkt (.t L2) (.t L0)) rfl ?_
  refine WL.st (R.mv (.t L0)) rfl ?_
  refine WL.rw L0 (v' := .bool true) (congrArg Value.bool (decide_eq_true rfl)) U0 ?_
  refine WL.gy rfl L0 (R.fa fo_59_2 (.t L23)) rfl ?_
  refine WL.gy rfl L1 (R.ld sc_57 (.t L0) H0 rfl) rfl ?_
  refine WL.gy rfl L2 (R.eqi (.t L0) .c) rfl ?_
  refine WL.st (R.pkt (.t L3) (.t L0)) rfl ?_
  refine WL.st (R.mv (.t L0)) rfl ?_
  refine WL.rw L0 (v' := .bool true) (congrArg Value.bool (decide_eq_true rfl)) U0 ?_
  refine WL.gy rfl L0 (R.fa fo_59_3 (.t L28)) rfl ?_
  refine WL.gy rfl L1 (R.ld sc_3 (.t L0) H0 rfl) rfl ?_
  refine WL.gy rfl L2 (R.eqi (.t L0) .c) rfl ?_
  refine WL.st (R.pkt (.t L3) (.t L0)) rfl ?_
  refine WL.st (R.mv (.t L0)) rfl ?_
  refine WL.rw L0 (v' := .bool true) (congrArg Value.bool (decide_eq_true rfl)) U0 ?_
  refine WL.gy rfl L0 (R.fa fo_59_1 (.t L33)) rfl ?_
  refine WL.gy rfl L1 (R.ld sc_3 (.t L0) H0 rfl) rfl ?_
  refine WL.gy rfl L2 (R.eqi (.t L0) .c) rfl ?_
  refine WL.st (R.pkt (.t L3) (.t L0)) rfl ?_
  refine WL.st (R.mv (.t L0)) rfl ?_
  refine WL.rw L0 (v' := .bool true) (congrArg Value.bool (decide_eq_true rfl)) U0 ?_
  refine WL.gy rfl L0 (R.mv (.t L42)) rfl ?_
  refine WL.gy rfl L1 (R.eqi (.t L0) .c) rfl ?_
  refine WL.st (R.pkt (.t L2) (.t L0)) rfl ?_
  refine WL.st (R.mv (.t L0)) rfl ?_
  refine WL.rw L0 (v' := .bool true) (congrArg Value.bool (decide_eq_true rfl)) U0 ?_
  refine WL.gy rfl L0 (R.mv (.t L44)) rfl ?_
  refine WL.gyw rfl L1 ?_
  refine WL.bsc sl_76 z_9 (by decide) (by decide) (pv := [(0, str [48, 32, 112, 97, 114, 97, 32, 45, 49]), (1, str [49, 32, 116, 101, 120, 116, 32, 50]), (2, str [50, 32, 100, 111, 110, 101]), (3, str [51, 32, 104, 97, 108, 116])]) (fun a => by simp [Act.eval]) (l := scells awL) (by kernel_rfl) rfl (fun g69 => ?_)
  refine WL.weak (J := fun w => Lib.TabIs Tryd.prog w "internal/strconv.uint64pow10" .u64 Lib.pow10Tab ∧ RdF ocell 4 w (some ⟨g13, 0, none⟩) awM ∧ RdB w x16.1 (encS (awM.map (·.1))).1 ∧ RdB w (some ⟨g21, 0, none⟩) [47, 5] ∧ RdI w x22.1 (nextS [47, 5] 0).1.widths ∧ RdB w (some ⟨g26, 0, none⟩) [128, 17, 144, 240] ∧ RdS w x27.1 (listS [128, 17, 144, 240]).1 ∧ RdB w (some ⟨g36, 0, none⟩) [128, 17, 144, 240] ∧ RdS w (some ⟨g69, 0, none⟩) awL) (.dr (.kp rfl .nil)) (fun w h hd => ⟨h.1, h.2.1, h.2.2.1, h.2.2.2.1, h.2.2.2.2.1, h.2.2.2.2.2.1, h.2.2.2.2.2.2.1, h.2.2.2.2.2.2.2, Rd.of_blk hd.1 rfl⟩) ?_
  refine WL.gyw rfl L2 ?_
  refine WL.callr gf_41 .f (.cons (.t L1) (.cons (.t L0) .nil)) (fun w hb => (law16_lines (l := awL) (m := awL) (by decide) (hb.imp fun _ h => ⟨by have := h.2.2.2.2.2.2.1; rw [aw18] at this; exact this, h.2.2.2.2.2.2.2.2⟩))) rfl ?_
  refine WL.st (R.pkt (.t L3) (.t L0)) rfl ?_
  refine WL.as (.t L0) U41 rfl ?_
  refine WL.nil ?_
  refine QS.next ?_
  refine W.del (.dr (.dr (.dr (.dr (.dr (.dr (.dr (.dr (.dr (.dr (.dr (.dr (.dr (.dr (.dr (.dr (.dr (.dr (.dr (.dr (.dr (.dr (.dr (.dr (.dr (.dr (.dr (.dr (.dr (.dr (.dr (.dr (.dr (.dr (.dr (.dr (.dr (.dr (.dr (.dr (.dr .rf))))))))))))))))))))))))))))))))))))))))) ?_
  refine W.ret ?_
  exact QS.fin (.inl rfl) rfl (.tmp L0 .nil) () (congrArg Value.bool (decide_eq_true rfl)) (.dr .nil) (fun _ _ _ => trivial)

theorem law16_CodeEncodes {A : Option Addr} {M : List (OpS × Option Addr × Nat)} {c : Nat} (hM : M.length ≤ 2513169434916) (hg : ∀ q ∈ M, OpGood q.1) (hW : ∀ q ∈ M, q.1.widths.length ≤ 17592186044416) {C : Cx} (hb : Hb C C.w0 [] (fun w => (RdF ocell 4 w A M ∧ ∀ q ∈ M, RdI w q.2.1 q.1.widths) ∧ Lib.TabIs Tryd.prog w "internal/strconv.uint64pow10" .u64 Lib.pow10Tab)) :
    Ret Tryd.prog 6 [.slice A M.length c] C (.bool true) := by
  replace hb := hb.imp (J := fun w => RdF ocell 4 w A M ∧ (∀ q ∈ M, RdI w q.2.1 q.1.widths) ∧ Lib.TabIs Tryd.prog w "internal/strconv.uint64pow10" .u64 Lib.pow10Tab) (fun _ h => ⟨h.1.1, h.1.2, h.2⟩)
  refine Sp.enter (N := 40) (e := entryEnv [.slice A M.length c] 0 9) Tryd.func6 rfl rfl (Nat.le_of_ble_eq_true rfl) (entry_ok (Nat.le_of_ble_eq_true rfl) (Nat.le_of_ble_eq_true rfl)) (entry_nd _ _) hb ?_
  show W _ _ _ _ _ [(0, .slice A M.length c), (1, undef), (2, undef), (3, undef), (4, undef), (5, undef), (6, undef), (7, undef), (8, undef)] _ _
  refine W.seq ?_
  refine W.region ?_
  refine WL.as .c U2 rfl ?_
  refine WL.nil ?_
  refine QS.next ?_
  refine W.seq ?_
  refine W.region ?_
  refine WL.st (R.mv (.t L0)) rfl ?_
  refine WL.call gf_27 .f (.cons (.t L0) .nil) .nil (fun w hb => (law16_twin hM hW (hb.imp fun _ h => ⟨h.1, h.2.1⟩))) rfl (fun x11 => ?_)
  obtain ⟨⟨⟨At, ct⟩, K⟩, hK⟩ := x11
  have hKl : K.length = M.length := by have := congrArg List.length hK; simpa using this
  have hKg : ∀ q ∈ K, OpGood q.1 := fun q hq => by
    have h1 : q.1 ∈ K.map (·.1) := List.mem_map.2 ⟨q, hq, rfl⟩
    rw [hK] at h1
    obtain ⟨p, hp, h2⟩ := List.mem_map.1 h1
    rw [← h2]; exact hg p hp
  refine WL.call gf_26 .f (.cons (.t L0) .nil) .nil (fun w hb => (code_Encode hKg (by omega) (hb.imp fun _ h => ⟨h.2.1, h.2.2⟩))) rfl (fun x12 => ?_)
  refine WL.st (R.mv (.t L0)) rfl ?_
  refine WL.st (R.ex (.t L0) .here) rfl ?_
  refine WL.st (R.ex (.t L1) (.skip .here)) rfl ?_
  refine WL.st (R.ex (.t L2) (.skip (.skip .here))) rfl ?_
  refine WL.as (.t L2) U10 rfl ?_
  refine WL.as (.t L1) U11 rfl ?_
  refine WL.as (.t L0) U12 rfl ?_
  refine WL.nil ?_
  refine QS.next ?_
  refine W.del (.dr (.dr (.dr (.dr (.dr (.dr (.dr .rf))))))) ?_
  refine W.seq ?_
  refine W.region ?_
  refine WL.st (R.mv (.t L0)) rfl ?_
  refine WL.call gf_28 .f (.cons (.t L0) .nil) .nil (fun w hb => (ref16_Encode hg (by omega) (hb.imp fun _ h => ⟨h.1.1.1, h.1.1.2.1⟩))) rfl (fun x18 => ?_)
  refine WL.st (R.mv (.t L0)) rfl ?_
  refine WL.st (R.ex (.t L0) .here) rfl ?_
  refine WL.st (R.ex (.t L1) (.skip .here)) rfl ?_
  refine WL.st (R.ex (.t L2) (.skip (.skip .here))) rfl ?_
  refine WL.as (.t L2) U12 rfl ?_
  refine WL.as (.t L1) U13 rfl ?_
  refine WL.as (.t L0) U14 rfl ?_
  refine WL.nil ?_
  refine QS.next ?_
  refine W.del (.dr (.dr (.dr (.dr (.dr (.dr .rf)))))) ?_
  refine W.seq ?_
  refine W.region ?_
  refine WL.st (R.mv (.t L3)) rfl ?_
  refine WL.st (R.cvbs by_22 st_9 (.t L0) rfl (fun w hb => hb.get.1.2)) rfl ?_
  refine WL.st (R.mv (.t L8)) rfl ?_
  refine WL.st (R.cvbs by_22 st_9 (.t L0) rfl (fun w hb => hb.get.2)) rfl ?_
  refine WL.st (R.eqs (.t L2) (.t L0)) rfl ?_
  refine WL.st (R.mv (.t L0)) rfl ?_
  refine WL.rw L0 (v' := .bool true) (congrArg Value.bool (decide_eq_true (by rw [hK]))) U0 ?_
  refine WL.gy rfl L0 (R.mv (.t L10)) rfl ?_
  refine WL.gy rfl L1 (R.mv (.t L14)) rfl ?_
  refine WL.gy rfl L2 (R.eqs (.t L1) (.t L0)) rfl ?_
  refine WL.st (R.pkt (.t L3) (.t L0)) rfl ?_
  refine WL.st (R.mv (.t L0)) rfl ?_
  refine WL.rw L0 (v' := .bool true) (congrArg Value.bool (decide_eq_true (by rw [hK]))) U0 ?_
  refine WL.gy rfl L0 (R.mv (.t L16)) rfl ?_
  refine WL.gy rfl L1 (R.mv (.t L20)) rfl ?_
  refine WL.gy rfl L2 (R.eqi (.t L1) (.t L0)) rfl ?_
  refine WL.st (R.pkt (.t L3) (.t L0)) rfl ?_
  refine WL.st (R.mv (.t L0)) rfl ?_
  refine WL.rw L0 (v' := .bool true) (congrArg Value.bool (decide_eq_true (by rw [hK]))) U0 ?_
  refine WL.gyw rfl L0 ?_
  refine WL.callr gf_29 .f .nil (fun w hb => (law16_awake (hb.imp fun _ h => h.1.1.1.2.2))) rfl ?_
  refine WL.st (R.pkt (.t L1) (.t L0)) rfl ?_
  refine WL.as (.t L0) U20 rfl ?_
  refine WL.nil ?_
  refine QS.next ?_
  refine W.del (.dr (.dr (.dr (.dr (.dr (.dr (.dr (.dr (.dr (.dr (.dr (.dr (.dr (.dr (.dr (.dr (.dr (.dr .rf)))))))))))))))))) ?_
  refine W.ret ?_
  exact QS.fin (.inl rfl) rfl (.tmp L2 .nil) () rfl .nil (fun _ _ _ => trivial)

theorem law16_CodeInstrs {A : Option Addr} {b : List UInt8} {c : Nat} {at_ : Int} (hc : b.length ≤ c) (hl : b.length ≤ 140737488355328) {C : Cx} (hb : Hb C C.w0 [] (fun w => RdB w A b ∧ Lib.TabIs Tryd.prog w "internal/strconv.uint64pow10" .u64 Lib.pow10Tab)) :
    Ret Tryd.prog 7 [.slice A b.length c, .int .i64 at_] C (.bool true) := by
  have hnw : (nextS b at_).1.widths.length ≤ 140737488355328 := by
    by_cases h : at_ < 0
    · rw [next_rng (.inl h)]; exact Nat.zero_le _
    · obtain ⟨k, rfl⟩ : ∃ k : Nat, at_ = (k : Int) := ⟨at_.toNat, by omega⟩
      by_cases he : (nextS b k).2 = 0
      · have := (next_good he).2; omega
      · rw [next_zero he]; exact Nat.zero_le _
  refine Sp.enter (N := 65) (e := entryEnv [.slice A b.length c, .int .i64 at_] 0 13) Tryd.func7 rfl rfl (Nat.le_of_ble_eq_true rfl) (entry_ok (Nat.le_of_ble_eq_true rfl) (Nat.le_of_ble_eq_true rfl)) (entry_nd _ _) hb ?_
  show W _ _ _ _ _ [(0, .slice A b.length c), (1, .int .i64 at_), (2, undef), (3, undef), (4, undef), (5, undef), (6, undef), (7, undef), (8, undef), (9, undef), (10, undef), (11, undef), (12, undef)] _ _
  refine W.seq ?_
  refine W.region ?_
  refine WL.as .c U4 rfl ?_
  refine WL.nil ?_
  refine QS.next ?_
  refine W.seq ?_
  refine W.region ?_
  refine WL.st (R.mv (.t L0)) rfl ?_
  refine WL.call gf_31 .f (.cons (.t L0) .nil) .nil (fun w hb => (law16_bytes hl (hb.imp fun _ h => h.1))) rfl (fun x15 => ?_)
  obtain ⟨⟨A1, c1⟩, hc1⟩ := x15
  refine WL.st (R.mv (.t L3)) rfl ?_
  refine WL.call gf_30 .f (.cons (.t L1) (.cons (.t L0) .nil)) .nil (fun w hb => (code_Next hc1 hl (hb.imp fun _ h => h.2))) rfl (fun x17 => ?_)
  refine WL.st (R.mv (.t L0)) rfl ?_
  refine WL.st (R.ex (.t L0) .here) rfl ?_
  refine WL.st (R.ex (.t L1) (.skip .here)) rfl ?_
  refine WL.allocu z_59 (fun _ => U12) rfl (fun g5 => ?_)
  refine WL.sto sz_59 (.t L12) (.t L1) rfl rfl rfl C0 (by repeat constructor) ?_
  refine WL.as (.t L0) U13 rfl ?_
  refine WL.nil ?_
  refine QS.next ?_
  refine W.del (.dr (.dr (.dr (.dr (.dr (.dr (.dr .rf))))))) ?_
  refine W.seq ?_
  refine W.region ?_
  refine WL.st (R.mv (.t L0)) rfl ?_
  refine WL.st (R.mv (.t L2)) rfl ?_
  refine WL.call gf_32 .f (.cons (.t L1) (.cons (.t L0) .nil)) (.dr .nil) (fun w hb => (ref16_Next hc hl (hb.imp fun _ h => h.1.1.1))) rfl (fun x23 => ?_)
  refine WL.st (R.mv (.t L0)) rfl ?_
  refine WL.st (R.ex (.t L0) .here) rfl ?_
  refine WL.st (R.ex (.t L1) (.skip .here)) rfl ?_
  refine WL.allocu z_59 (fun _ => U13) rfl (fun g7 => ?_)
  refine WL.sto sz_59 (.t L13) (.t L1) rfl rfl rfl C0 (by repeat constructor) ?_
  refine WL.as (.t L0) U14 rfl ?_
  refine WL.nil ?_
  refine QS.next ?_
  refine W.del (.dr (.dr (.dr (.dr (.dr (.dr .rf)))))) ?_
  refine W.seq ?_
  refine W.seq ?_
  refine W.region ?_
  refine WL.st (R.lda ag_59 (.t L5) H1 (by repeat constructor)) rfl ?_
  refine WL.st (R.lda ag_59 (.t L8) H0 (by repeat constructor)) rfl ?_
  refine WL.callr gf_33 .f (.cons (.t L1) (.cons (.t L0) .nil)) (fun w hb => (ref16_SameInstr hnw (hb.imp fun _ h => ⟨h.1.2, h.2⟩))) rfl ?_
  refine WL.st (R.not (.t L0)) rfl ?_
  refine WL.st (R.mv (.t L0)) rfl ?_
  refine WL.rw L0 (v' := .bool false) (congrArg Value.bool (decide_eq_false (by simp))) U0 ?_
  refine WL.gy rfl L0 (R.mv (.t L11)) rfl ?_
  refine WL.gy rfl L1 (R.mv (.t L14)) rfl ?_
  refine WL.gy rfl L2 (R.nei (.t L1) (.t L0)) rfl ?_
  refine WL.st (R.pkf (.t L3) (.t L0)) rfl ?_
  refine WL.st (R.mv (.t L0)) rfl ?_
  refine WL.rw L0 (v' := .bool false) (congrArg Value.bool (decide_eq_false (by simp))) U0 ?_
  refine WL.gyw rfl L0 ?_
  refine WL.callr gf_29 .f .nil (fun w hb => (law16_awake (hb.imp fun _ h => h.1.1.1.2))) rfl ?_
  refine WL.gy rfl L1 (R.notb (.t L0)) rfl ?_
  refine WL.st (R.pkf (.t L2) (.t L0)) rfl ?_
  refine WL.nil ?_
  refine QS.next ?_
  refine W.del (.kp (.dr (.dr (.dr (.dr (.dr (.dr (.dr (.dr (.dr (.dr (.dr (.dr .rf))))))))))))) ?_
  refine W.cf (.t L0) ?_
  refine W.del (.dr .rf) ?_
  refine W.skip ?_
  refine QS.next ?_
  refine W.seq ?_
  refine W.region ?_
  refine WL.st (R.mv (.t L0)) rfl ?_
  refine WL.call gf_31 .f (.cons (.t L0) .nil) (.dr (.dr .nil)) (fun w hb => (law16_bytes hl (hb.imp fun _ h => h.1.1.1.1))) rfl (fun x41 => ?_)
  obtain ⟨⟨A2, c2⟩, hc2⟩ := x41
  refine WL.call gf_34 .f (.cons (.t L0) .nil) (.dr (.dr .nil)) (fun w hb => (code_InstrsF hc2 hl (hb.imp fun _ h => h.2))) rfl (fun x42 => ?_)
  obtain ⟨⟨⟨A3, c3⟩, M⟩, hM⟩ := x42
  refine WL.st (R.mv (.t L0)) rfl ?_
  refine WL.st (R.ex (.t L0) .here) rfl ?_
  refine WL.st (R.ex (.t L1) (.skip .here)) rfl ?_
  refine WL.st (R.ex (.t L2) (.skip (.skip .here))) rfl ?_
  refine WL.as (.t L2) U16 rfl ?_
  refine WL.as (.t L1) U17 rfl ?_
  refine WL.as (.t L0) U13 rfl ?_
  refine WL.nil ?_
  refine QS.next ?_
  refine W.del (.dr (.dr (.dr (.dr (.dr (.dr (.dr .rf))))))) ?_
  refine W.seq ?_
  refine W.region ?_
  refine WL.st (R.mv (.t L0)) rfl ?_
  refine WL.call gf_35 .f (.cons (.t L0) .nil) (.dr (.dr .nil)) (fun w hb => (ref16_InstrsF hc hl (hb.imp fun _ h => h.1.1.1.1.1.1))) rfl (fun x48 => ?_)
  obtain ⟨⟨⟨A4, c4⟩, K⟩, hK⟩ := x48
  refine WL.st (R.mv (.t L0)) rfl ?_
  refine WL.st (R.ex (.t L0) .here) rfl ?_
  refine WL.st (R.ex (.t L1) (.skip .here)) rfl ?_
  refine WL.st (R.ex (.t L2) (.skip (.skip .here))) rfl ?_
  refine WL.as (.t L2) U17 rfl ?_
  refine WL.as (.t L1) U18 rfl ?_
  refine WL.as (.t L0) U14 rfl ?_
  refine WL.nil ?_
  refine QS.next ?_
  refine W.del (.dr (.dr (.dr (.dr (.dr (.dr .rf)))))) ?_
  refine W.seq ?_
  refine W.region ?_
  refine WL.st (R.mv (.t L9)) rfl ?_
  refine WL.st (R.mv (.t L12)) rfl ?_
  refine WL.callr gf_36 .f (.cons (.t L1) (.cons (.t L0) .nil)) (fun w hb => (law16_instrs (show M.length ≤ _ by have h1 := (instrs_good b).2.1; rw [← hM, List.length_map] at h1; dsimp only at h1; omega) (fun q hq => by have h1 := ((instrs_good b).1 q.1 (by rw [← hM]; exact List.mem_map.2 ⟨q, hq, rfl⟩)).2; omega) (hb.imp fun _ h => ⟨h.1.2.1, h.1.2.2, h.2.1, h.2.2⟩))) rfl ?_
  refine WL.st (R.mv (.t L0)) rfl ?_
  refine WL.rw L0 (v' := .bool true) (congrArg Value.bool (decide_eq_true (by rw [hM, hK]))) U0 ?_
  refine WL.gy rfl L0 (R.mv (.t L14)) rfl ?_
  refine WL.gy rfl L1 (R.mv (.t L17)) rfl ?_
  refine WL.gy rfl L2 (R.eqi (.t L1) (.t L0)) rfl ?_
  refine WL.st (R.pkt (.t L3) (.t L0)) rfl ?_
  refine WL.st (R.mv (.t L0)) rfl ?_
  refine WL.rw L0 (v' := .bool true) (congrArg Value.bool (decide_eq_true rfl)) U0 ?_
  refine WL.gy rfl L0 (R.mv (.t L15)) rfl ?_
  refine WL.gy rfl L1 (R.mv (.t L18)) rfl ?_
  refine WL.gy rfl L2 (R.eqi (.t L1) (.t L0)) rfl ?_
  refine WL.st (R.pkt (.t L3) (.t L0)) rfl ?_
  refine WL.as (.t L0) U17 rfl ?_
  refine WL.nil ?_
  refine QS.next ?_
  refine W.del (.dr (.dr (.dr (.dr (.dr (.dr (.dr (.dr (.dr (.dr (.dr (.dr (.dr .rf))))))))))))) ?_
  refine W.ret ?_
  exact QS.fin (.inl rfl) rfl (.tmp L4 .nil) () (congrArg Value.bool (decide_eq_true rfl)) (.dr (.dr .nil)) (fun _ _ _ => trivial)

theorem law16_CodeDecodes {A : Option Addr} {b s : List UInt8} {c : Nat} (hc : b.length ≤ c) (hl : b.length ≤ 140737488355328) (hs : s.length ≤ 140737488355328) {C : Cx} (hb : Hb C C.w0 [] (fun w => RdB w A b ∧ Lib.TabIs Tryd.prog w "internal/strconv.uint64pow10" .u64 Lib.pow10Tab)) :
    Ret Tryd.prog 8 [.slice A b.length c, str s] C (.bool true) := by
  refine Sp.enter (N := 42) (e := entryEnv [.slice A b.length c, str s] 0 11) Tryd.func8 rfl rfl (Nat.le_of_ble_eq_true rfl) (entry_ok (Nat.le_of_ble_eq_true rfl) (Nat.le_of_ble_eq_true rfl)) (entry_nd _ _) hb ?_
  show W _ _ _ _ _ [(0, .slice A b.length c), (1, str s), (2, undef), (3, undef), (4, undef), (5, undef), (6, undef), (7, undef), (8, undef), (9, undef), (10, undef)] _ _
  refine W.seq ?_
  refine W.region ?_
  refine WL.as .c U4 rfl ?_
  refine WL.nil ?_
  refine QS.next ?_
  refine W.seq ?_
  refine W.region ?_
  refine WL.st (R.mv (.t L0)) rfl ?_
  refine WL.call gf_31 .f (.cons (.t L0) .nil) .nil (fun w hb => (law16_bytes hl (hb.imp fun _ h => h.1))) rfl (fun x13 => ?_)
  obtain ⟨⟨A1, c1⟩, hc1⟩ := x13
  refine WL.st (R.mv (.t L3)) rfl ?_
  refine WL.call gf_24 .f (.cons (.t L1) (.cons (.t L0) .nil)) .nil (fun w hb => (code_Decode hc1 hl hs (hb.imp fun _ h => h.2))) rfl (fun x15 => ?_)
  obtain ⟨⟨⟨A3, c3⟩, M⟩, hM⟩ := x15
  refine WL.st (R.mv (.t L0)) rfl ?_
  refine WL.st (R.ex (.t L0) .here) rfl ?_
  refine WL.st (R.ex (.t L1) (.skip .here)) rfl ?_
  refine WL.st (R.ex (.t L2) (.skip (.skip .here))) rfl ?_
  refine WL.as (.t L2) U13 rfl ?_
  refine WL.as (.t L1) U14 rfl ?_
  refine WL.as (.t L0) U15 rfl ?_
  refine WL.nil ?_
  refine QS.next ?_
  refine W.del (.dr (.dr (.dr (.dr (.dr (.dr (.dr (.dr .rf)))))))) ?_
  refine W.seq ?_
  refine W.region ?_
  refine WL.st (R.mv (.t L0)) rfl ?_
  refine WL.st (R.mv (.t L2)) rfl ?_
  refine WL.call gf_37 .f (.cons (.t L1) (.cons (.t L0) .nil)) .nil (fun w hb => (ref16_Decode hc hl hs (hb.imp fun _ h => h.1.1.1))) rfl (fun x22 => ?_)
  obtain ⟨⟨⟨A4, c4⟩, K⟩, hK⟩ := x22
  have hD := dec_good b s
  refine WL.st (R.mv (.t L0)) rfl ?_
  refine WL.st (R.ex (.t L0) .here) rfl ?_
  refine WL.st (R.ex (.t L1) (.skip .here)) rfl ?_
  refine WL.st (R.ex (.t L2) (.skip (.skip .here))) rfl ?_
  refine WL.as (.t L2) U15 rfl ?_
  refine WL.as (.t L1) U16 rfl ?_
  refine WL.as (.t L0) U17 rfl ?_
  refine WL.nil ?_
  refine QS.next ?_
  refine W.del (.dr (.dr (.dr (.dr (.dr (.dr (.dr .rf))))))) ?_
  refine W.seq ?_
  refine W.region ?_
  refine WL.st (R.mv (.t L5)) rfl ?_
  refine WL.st (R.mv (.t L9)) rfl ?_
  refine WL.callr gf_38 .f (.cons (.t L1) (.cons (.t L0) .nil)) (fun w hb => (ref16_SameOps (show M.length ≤ _ by have h1 := hD.1; rw [← hM, List.length_map] at h1; dsimp only at h1; omega) (fun q hq => by have h1 := hD.2 q.1 (by rw [← hM]; exact List.mem_map.2 ⟨q, hq, rfl⟩); omega) (hb.imp fun _ h => ⟨h.1.2.1, h.1.2.2, h.2.1, h.2.2⟩))) rfl ?_
  refine WL.st (R.mv (.t L0)) rfl ?_
  refine WL.rw L0 (v' := .bool true) (congrArg Value.bool (decide_eq_true (by rw [hM, hK]))) U0 ?_
  refine WL.gy rfl L0 (R.mv (.t L10)) rfl ?_
  refine WL.gy rfl L1 (R.mv (.t L14)) rfl ?_
  refine WL.gy rfl L2 (R.eqi (.t L1) (.t L0)) rfl ?_
  refine WL.st (R.pkt (.t L3) (.t L0)) rfl ?_
  refine WL.st (R.mv (.t L0)) rfl ?_
  refine WL.rw L0 (v' := .bool true) (congrArg Value.bool (decide_eq_true rfl)) U0 ?_
  refine WL.gy rfl L0 (R.mv (.t L16)) rfl ?_
  refine WL.gy rfl L1 (R.mv (.t L20)) rfl ?_
  refine WL.gy rfl L2 (R.eqi (.t L1) (.t L0)) rfl ?_
  refine WL.st (R.pkt (.t L3) (.t L0)) rfl ?_
  refine WL.st (R.mv (.t L0)) rfl ?_
  refine WL.rw L0 (v' := .bool true) (congrArg Value.bool (decide_eq_true rfl)) U0 ?_
  refine WL.gyw rfl L0 ?_
  refine WL.callr gf_29 .f .nil (fun w hb => (law16_awake (hb.imp fun _ h => h.1.1.1.2))) rfl ?_
  refine WL.st (R.pkt (.t L1) (.t L0)) rfl ?_
  refine WL.as (.t L0) U20 rfl ?_
  refine WL.nil ?_
  refine QS.next ?_
  refine W.del (.dr (.dr (.dr (.dr (.dr (.dr (.dr (.dr (.dr (.dr (.dr (.dr (.dr (.dr (.dr (.dr .rf)))))))))))))))) ?_
  refine W.ret ?_
  exact QS.fin (.inl rfl) rfl (.tmp L4 .nil) () rfl .nil (fun _ _ _ => trivial)

end Go.Proofs.YtpaecijilnfkhaaDoor
