/- Contracts: check. -/
import Derived.Test.YtpaecijilnfkhaaDoorA2
import Derived.Test.YtpaecijilnfkhaaDoorA4

namespace Go.Proofs.YtpaecijilnfkhaaDoor
open Go Go.Eng Go.RowKit
theorem walk_push {g : Nat} {st : List FrameS} {d : Nat} {p m li la : Int} {s : List UInt8} {sy tp : Int} (hk : st.length = 32) {f : FrameS} (hd : d < 32) {C : Cx} (hb : Hb C C.w0 [blk g 130 (wcells ⟨st, d, p, m, li, la, s, sy, tp⟩)] (fun _ => True)) :
    Ret1 Tryd.prog 91 [.pointer (some ⟨g, 0, none⟩), .agg #[.int .i64 f.kind, .int .i64 f.items, .int .i64 f.rows, .int .i64 f.cells, .int .i64 f.wide]] C (.tuple #[]) (blk g 130 (wcells ⟨st.set d f, d + 1, p, m, li, la, s, sy, tp⟩)) := by
 obtain ⟨f0, hf0⟩ : ∃ f0, st[d]? = some f0 := ⟨_, List.getElem?_eq_getElem (by omega)⟩
 refine Sp.enter (N := 20) (e := entryEnv [.pointer (some ⟨g, 0, none⟩), .agg #[.int .i64 f.kind, .int .i64 f.items, .int .i64 f.rows, .int .i64 f.cells, .int .i64 f.wide]] 0 4) Tryd.func91 rfl rfl (Nat.le_of_ble_eq_true rfl) (entry_ok (Nat.le_of_ble_eq_true rfl) (Nat.le_of_ble_eq_true rfl)) (entry_nd _ _) hb ?_
 show W _ _ _ _ _ [(0, .pointer (some ⟨g, 0, none⟩)), (1, .agg #[.int .i64 f.kind, .int .i64 f.items, .int .i64 f.rows, .int .i64 f.cells, .int .i64 f.wide]), (2, undef), (3, undef)] _ _
 refine W.seq (W.region ?_)
 refine WL.boxu (.t L1) rfl (fun _ => U3) rfl (fun g3 => ?_)
 refine WL.nil (QS.next (W.seq ?_))
 refine W.draw 9 mixed (by kernel_rfl) ?_
 refine HD.st (R.mv (.t L0)) rfl ?_
 refine HD.st (R.mv (.t L1)) rfl ?_
 refine HD.st (R.nc (.t L0)) rfl ?_
 refine HD.st (R.fa fo_130_1 (.t L0)) rfl ?_
 refine HD.st (R.ld sc_3 (.t L0) H1 (w_depth hk)) rfl ?_
 refine HD.st (R.lda ag_127 (.t L8) H0 (by repeat constructor)) rfl ?_
 refine HD.st (R.nc (.t L5)) rfl ?_
 refine HD.st (R.fa fo_130_0 (.t L0)) rfl ?_
 refine HD.st (R.ixr ar_stack (.t L0) (.t L3) (j := d) rfl hd (r := d * 5) (by omega)) rfl ?_
 refine HD.nil ?_
 refine WL.sto sz_127 (.t L0) (.t L3) rfl rfl rfl C1 (wp_frame (j := 0) hf0 (LPut.whole (l' := fcells f) rfl)) ?_
 refine WL.nil (QS.next (W.del (.dr (.dr (.dr (.dr (.dr (.dr (.dr (.dr (.dr .rf))))))))) (W.region ?_)))
 refine WL.st (R.mv (.t L0)) rfl ?_
 refine WL.st (R.nc (.t L0)) rfl ?_
 refine WL.st (R.fa fo_130_1 (.t L0)) rfl ?_
 refine WL.st (R.ld sc_3 (.t L0) H1 (w_depth (by simpa using hk))) rfl ?_
 refine WL.st (R.add (.t L0) .c (wi (by omega) (by omega))) rfl ?_
 refine WL.st (R.nc (.t L4)) rfl ?_
 refine WL.st (R.fa fo_130_1 (.t L0)) rfl ?_
 refine WL.sto sz_3 (.t L0) (.t L2) rfl rfl rfl C1 (wp_depth (n := d + 1) (by simpa using hk)) ?_
 refine WL.nil ?_
 exact QS.fin (.inr rfl) rfl .nil () rfl (.dr (.kp rfl .nil)) (fun _ _ _ => trivial)

theorem walk_top0 {g : Nat} {st : List FrameS} {d : Nat} {p m li la : Int} {s : List UInt8} {sy tp : Int} (hk : st.length = 32) (hd : d = 0) {C : Cx} (hb : Hb C C.w0 [blk g 130 (wcells ⟨st, d, p, m, li, la, s, sy, tp⟩)] (fun _ => True)) :
    Ret1 Tryd.prog 90 [.pointer (some ⟨g, 0, none⟩)] C (topV g d) (blk g 130 (wcells ⟨st, d, p, m, li, la, s, sy, tp⟩)) := by
 subst hd
 refine Sp.enter (N := 17) (e := entryEnv [.pointer (some ⟨g, 0, none⟩)] 0 3) Tryd.func90 rfl rfl (Nat.le_of_ble_eq_true rfl) (entry_ok (Nat.le_of_ble_eq_true rfl) (Nat.le_of_ble_eq_true rfl)) (entry_nd _ _) hb ?_
 show W _ _ _ _ _ [(0, .pointer (some ⟨g, 0, none⟩)), (1, undef), (2, undef)] _ _
 refine W.seq (W.region ?_)
 refine WL.as .c U2 rfl ?_
 refine WL.nil (QS.next (W.seq (W.seq (W.region ?_))))
 refine WL.st (R.mv (.t L0)) rfl ?_
 refine WL.st (R.nc (.t L0)) rfl ?_
 refine WL.st (R.fa fo_130_1 (.t L0)) rfl ?_
 refine WL.st (R.ld sc_3 (.t L0) H0 (w_depth hk)) rfl ?_
 refine WL.st (R.eqi (.t L0) .c) rfl ?_
 refine WL.nil (QS.next (W.del (.kp (.dr (.dr (.dr (.dr .rf))))) ?_))
 refine W.cdt (.t L0) (by omega) ?_
 refine W.del (.dr .rf) (W.seq (W.region ?_))
 refine WL.as .c U2 rfl ?_
 refine WL.nil (QS.next (W.ret (QS.thenr ?_)))
 exact QS.fin (.inl rfl) rfl (.tmp L2 .nil) () rfl (.kp rfl .nil) (fun _ _ _ => trivial)

theorem walk_top1 {g : Nat} {st : List FrameS} {d : Nat} {p m li la : Int} {s : List UInt8} {sy tp : Int} (hk : st.length = 32) {n : Nat} (hd : d = n + 1) (hn : n < 32) {C : Cx} (hb : Hb C C.w0 [blk g 130 (wcells ⟨st, d, p, m, li, la, s, sy, tp⟩)] (fun _ => True)) :
    Ret1 Tryd.prog 90 [.pointer (some ⟨g, 0, none⟩)] C (topV g d) (blk g 130 (wcells ⟨st, d, p, m, li, la, s, sy, tp⟩)) := by
 subst hd
 refine Sp.enter (N := 17) (e := entryEnv [.pointer (some ⟨g, 0, none⟩)] 0 3) Tryd.func90 rfl rfl (Nat.le_of_ble_eq_true rfl) (entry_ok (Nat.le_of_ble_eq_true rfl) (Nat.le_of_ble_eq_true rfl)) (entry_nd _ _) hb ?_
 show W _ _ _ _ _ [(0, .pointer (some ⟨g, 0, none⟩)), (1, undef), (2, undef)] _ _
 refine W.seq (W.region ?_)
 refine WL.as .c U2 rfl ?_
 refine WL.nil (QS.next (W.seq (W.seq (W.region ?_))))
 refine WL.st (R.mv (.t L0)) rfl ?_
 refine WL.st (R.nc (.t L0)) rfl ?_
 refine WL.st (R.fa fo_130_1 (.t L0)) rfl ?_
 refine WL.st (R.ld sc_3 (.t L0) H0 (w_depth hk)) rfl ?_
 refine WL.st (R.eqi (.t L0) .c) rfl ?_
 refine WL.nil (QS.next (W.del (.kp (.dr (.dr (.dr (.dr .rf))))) ?_))
 refine W.cdf (.t L0) (by omega) ?_
 refine W.del (.dr .rf) (W.skip (QS.next (W.seq ?_)))
 refine W.draw 10 mixed (by kernel_rfl) ?_
 refine HD.st (R.mv (.t L0)) rfl ?_
 refine HD.st (R.mv (.t L1)) rfl ?_
 refine HD.st (R.nc (.t L0)) rfl ?_
 refine HD.st (R.fa fo_130_1 (.t L0)) rfl ?_
 refine HD.st (R.ld sc_3 (.t L0) H0 (w_depth hk)) rfl ?_
 refine HD.st (R.sub (.t L0) .c (wi (by omega) (by omega))) rfl ?_
 refine HD.st (R.nc (.t L5)) rfl ?_
 refine HD.st (R.fa fo_130_0 (.t L0)) rfl ?_
 refine HD.st (R.ixr ar_stack (.t L0) (.t L2) (j := n) (by omega) hn (r := n * 5) (by omega)) rfl ?_
 refine HD.up (R.as (.t L0)) (E1 U1) rfl ?_
 refine HD.nil (WL.nil (QS.next (W.del (.dr (.dr (.dr (.dr (.dr (.dr (.dr (.dr (.dr .rf))))))))) (W.ret ?_))))
 exact QS.fin (.inl rfl) rfl (.tmp L2 .nil) () rfl (.kp rfl .nil) (fun _ _ _ => trivial)

theorem walk_top {g : Nat} {st : List FrameS} {d : Nat} {p m li la : Int} {s : List UInt8} {sy tp : Int} (hk : st.length = 32) (hd : d ≤ 32) {C : Cx} (hb : Hb C C.w0 [blk g 130 (wcells ⟨st, d, p, m, li, la, s, sy, tp⟩)] (fun _ => True)) : Ret1 Tryd.prog 90 [.pointer (some ⟨g, 0, none⟩)] C (topV g d) (blk g 130 (wcells ⟨st, d, p, m, li, la, s, sy, tp⟩)) := by
  rcases d with _ | n
  · exact walk_top0 hk rfl hb
  · exact walk_top1 hk rfl (by omega) hb

theorem walk_inner {g : Nat} {st : List FrameS} {d : Nat} {p m li la : Int} {s : List UInt8} {sy tp : Int} {A : Option Addr} {c : Nat} {at_ long kind n : Int} {wd : List Int} {k : Nat} (ok : WOk ⟨st, d, p, m, li, la, s, sy, tp⟩ k) (hm : k ≤ 2097152) (hp : p = 1) {C : Cx} (hb : Hb C C.w0 [blk g 130 (wcells ⟨st, d, p, m, li, la, s, sy, tp⟩)] (fun _ => True)) :
    Ret1 Tryd.prog 89 [.pointer (some ⟨g, 0, none⟩), instrV ⟨at_, long, kind, n, wd⟩ A c] C (.bool (innerS ⟨st, d, p, m, li, la, s, sy, tp⟩ kind).1) (blk g 130 (wcells (innerS ⟨st, d, p, m, li, la, s, sy, tp⟩ kind).2)) := by
 obtain ⟨hk, ho, hi, hl, hfr⟩ := ok
 dsimp only at hk ho hi hl hfr
 obtain ⟨h01, h02, h03, h04⟩ := hi hp
 refine Sp.enter (N := 124) (e := entryEnv [.pointer (some ⟨g, 0, none⟩), .agg #[.int .i64 at_, .int .i64 long, .int .i64 kind, .int .i64 n, .slice A wd.length c]] 0 6) Tryd.func89 rfl rfl (Nat.le_of_ble_eq_true rfl) (entry_ok (Nat.le_of_ble_eq_true rfl) (Nat.le_of_ble_eq_true rfl)) (entry_nd _ _) hb ?_
 show W _ _ _ _ _ [(0, .pointer (some ⟨g, 0, none⟩)), (1, .agg #[.int .i64 at_, .int .i64 long, .int .i64 kind, .int .i64 n, .slice A wd.length c]), (2, undef), (3, undef), (4, undef), (5, undef)] _ _
 refine W.seq (W.region ?_)
 refine WL.boxu (.t L1) rfl (fun _ => U3) rfl (fun g3 => ?_)
 refine WL.as .c U4 rfl ?_
 refine WL.nil (QS.next (W.seq (W.seq (W.region ?_))))
 refine WL.st (R.fa fo_59_2 (.t L3)) rfl ?_
 refine WL.st (R.ld sc_57 (.t L0) H0 rfl) rfl ?_
 refine WL.nil (QS.next (W.del (.kp (.dr .rf)) (W.block (W.seq (W.block (W.seq (W.block (W.seq (W.block (W.seq (W.block (W.seq (W.block (W.seq (W.block (W.seq (W.seq (W.seq (W.region ?_)))))))))))))))))))
 refine WL.st (R.eqi (.t L0) .c) rfl ?_
 refine WL.st (R.as (.t L0)) rfl ?_
 refine WL.nil (QS.next (W.del (.kp (.dr .rf)) ?_))
 refine W.cd (.t L0) (fun h0 => ?_) (fun h0 => ?_)
 ·
  refine W.del (.dr .rf) (W.exit (QS.thenx (QS.thenx (QS.blkx (QS.next (W.del (.dr .rf) (W.seq (W.seq (W.region ?_)))))))))
  refine WL.st (R.mv (.t L0)) rfl ?_
  refine WL.st (R.nc (.t L0)) rfl ?_
  refine WL.st (R.fa fo_130_5 (.t L0)) rfl ?_
  refine WL.st (R.ld sc_57 (.t L0) H1 (w_last hk)) rfl ?_
  refine WL.st (R.nei (.t L0) .c) rfl ?_
  refine WL.as (.t L0) U9 rfl ?_
  refine WL.nil (QS.next (W.del (.dr (.dr (.dr (.dr (.dr .rf))))) (W.ret (QS.thenr (QS.blkr (QS.thenr (QS.blkr (QS.thenr (QS.blkr (QS.thenr (QS.blkr (QS.thenr (QS.blkr (QS.thenr (QS.blkr (QS.thenr ?_))))))))))))))))
  exact QS.fin (.inl rfl) rfl (.tmp L4 .nil) () (by unfold innerS; dsimp only [zf]; (repeat (first | rw [if_pos (by omega)] | rw [if_neg (by omega)])); first | done | rfl | (rw [top_0]; rfl) | (try simp only [Nat.add_sub_cancel]; rw [top_1 hf]; dsimp only; (repeat (first | rw [if_pos (by omega)] | rw [if_neg (by omega)])); first | done | rfl)) (.dr (.kp (by unfold innerS; dsimp only [zf]; (repeat (first | rw [if_pos (by omega)] | rw [if_neg (by omega)])); first | done | rfl | (rw [top_0]; rfl) | (try simp only [Nat.add_sub_cancel]; rw [top_1 hf]; dsimp only; (repeat (first | rw [if_pos (by omega)] | rw [if_neg (by omega)])); first | done | rfl)) .nil)) (fun _ _ _ => trivial)
 ·
  refine W.del (.dr .rf) (W.skip (QS.next (W.seq (W.seq (W.seq (W.region ?_))))))
  refine WL.st (R.eqi (.t L0) .c) rfl ?_
  refine WL.st (R.as (.t L0)) rfl ?_
  refine WL.nil (QS.next (W.del (.kp (.dr .rf)) ?_))
  refine W.cd (.t L0) (fun h1 => ?_) (fun h1 => ?_)
  ·
   refine W.skip (QS.next ?_)
   refine W.cdt (.t L0) h1 ?_
   refine W.del (.dr .rf) (W.exit (QS.thenx (QS.thenx (QS.blky rfl (QS.thenx (QS.blkx (QS.next (W.del (.dr .rf) (W.seq (W.seq (W.region ?_)))))))))))
   refine WL.as .c U4 rfl ?_
   refine WL.nil (QS.next (W.ret (QS.thenr (QS.blkr (QS.thenr (QS.blkr (QS.thenr (QS.blkr (QS.thenr (QS.blkr (QS.thenr (QS.blkr (QS.thenr ?_)))))))))))))
   exact QS.fin (.inl rfl) rfl (.tmp L4 .nil) () (by unfold innerS; dsimp only [zf]; (repeat (first | rw [if_pos (by omega)] | rw [if_neg (by omega)])); first | done | rfl | (rw [top_0]; rfl) | (try simp only [Nat.add_sub_cancel]; rw [top_1 hf]; dsimp only; (repeat (first | rw [if_pos (by omega)] | rw [if_neg (by omega)])); first | done | rfl)) (.dr (.kp (by unfold innerS; dsimp only [zf]; (repeat (first | rw [if_pos (by omega)] | rw [if_neg (by omega)])); first | done | rfl | (rw [top_0]; rfl) | (try simp only [Nat.add_sub_cancel]; rw [top_1 hf]; dsimp only; (repeat (first | rw [if_pos (by omega)] | rw [if_neg (by omega)])); first | done | rfl)) .nil)) (fun _ _ _ => trivial)
  ·
   refine W.region ?_
   refine WL.st (R.eqi (.t L1) .c) rfl ?_
   refine WL.as (.t L0) U1 rfl ?_
   refine WL.nil (QS.next (W.del (.dr .rf) ?_))
   refine W.cd (.t L0) (fun h2 => ?_) (fun h2 => ?_)
   ·
    refine W.del (.dr .rf) (W.exit (QS.thenx (QS.thenx (QS.blky rfl (QS.thenx (QS.blkx (QS.next (W.del (.dr .rf) (W.seq (W.seq (W.region ?_)))))))))))
    refine WL.as .c U4 rfl ?_
    refine WL.nil (QS.next (W.ret (QS.thenr (QS.blkr (QS.thenr (QS.blkr (QS.thenr (QS.blkr (QS.thenr (QS.blkr (QS.thenr (QS.blkr (QS.thenr ?_)))))))))))))
    exact QS.fin (.inl rfl) rfl (.tmp L4 .nil) () (by unfold innerS; dsimp only [zf]; (repeat (first | rw [if_pos (by omega)] | rw [if_neg (by omega)])); first | done | rfl | (rw [top_0]; rfl) | (try simp only [Nat.add_sub_cancel]; rw [top_1 hf]; dsimp only; (repeat (first | rw [if_pos (by omega)] | rw [if_neg (by omega)])); first | done | rfl)) (.dr (.kp (by unfold innerS; dsimp only [zf]; (repeat (first | rw [if_pos (by omega)] | rw [if_neg (by omega)])); first | done | rfl | (rw [top_0]; rfl) | (try simp only [Nat.add_sub_cancel]; rw [top_1 hf]; dsimp only; (repeat (first | rw [if_pos (by omega)] | rw [if_neg (by omega)])); first | done | rfl)) .nil)) (fun _ _ _ => trivial)
   ·
    refine W.del (.dr .rf) (W.skip (QS.next (W.seq (W.seq (W.seq (W.region ?_))))))
    refine WL.st (R.eqi (.t L0) .c) rfl ?_
    refine WL.st (R.as (.t L0)) rfl ?_
    refine WL.nil (QS.next (W.del (.kp (.dr .rf)) ?_))
    refine W.cd (.t L0) (fun h3 => ?_) (fun h3 => ?_)
    ·
     refine W.skip (QS.next ?_)
     refine W.cdt (.t L0) h3 ?_
     refine W.del (.dr .rf) (W.exit (QS.thenx (QS.thenx (QS.blky rfl (QS.thenx (QS.blky rfl (QS.thenx (QS.blkx (QS.next (W.del (.dr .rf) (W.seq (W.region ?_))))))))))))
     refine WL.st (R.mv (.t L0)) rfl ?_
     refine WL.st (R.nc (.t L0)) rfl ?_
     refine WL.st (R.fa fo_130_4 (.t L0)) rfl ?_
     refine WL.st (R.ld sc_3 (.t L0) H1 (w_links hk)) rfl ?_
     refine WL.st (R.gtr (.t L0) .c) rfl ?_
     refine WL.nil (QS.next (W.del (.kp (.dr (.dr (.dr (.dr .rf))))) ?_))
     refine W.cd (.t L0) (fun h8 => ?_) (fun h8 => ?_)
     ·
      refine W.del (.dr .rf) (W.seq (W.region ?_))
      refine WL.as .c U4 rfl ?_
      refine WL.nil (QS.next (W.ret (QS.blkr (QS.thenr (QS.blkr (QS.thenr (QS.blkr (QS.thenr (QS.blkr (QS.thenr ?_))))))))))
      exact QS.fin (.inl rfl) rfl (.tmp L4 .nil) () (by unfold innerS; dsimp only [zf]; (repeat (first | rw [if_pos (by omega)] | rw [if_neg (by omega)])); first | done | rfl | (rw [top_0]; rfl) | (try simp only [Nat.add_sub_cancel]; rw [top_1 hf]; dsimp only; (repeat (first | rw [if_pos (by omega)] | rw [if_neg (by omega)])); first | done | rfl)) (.dr (.kp (by unfold innerS; dsimp only [zf]; (repeat (first | rw [if_pos (by omega)] | rw [if_neg (by omega)])); first | done | rfl | (rw [top_0]; rfl) | (try simp only [Nat.add_sub_cancel]; rw [top_1 hf]; dsimp only; (repeat (first | rw [if_pos (by omega)] | rw [if_neg (by omega)])); first | done | rfl)) .nil)) (fun _ _ _ => trivial)
     ·
      refine W.del (.dr .rf) (W.skip (QS.blkn (QS.next (W.seq (W.seq (W.seq (W.region ?_)))))))
      refine WL.st (R.mv (.t L0)) rfl ?_
      refine WL.st (R.nc (.t L0)) rfl ?_
      refine WL.st (R.fa fo_130_3 (.t L0)) rfl ?_
      refine WL.st (R.ld sc_3 (.t L0) H1 (w_marks hk)) rfl ?_
      refine WL.st (R.geq (.t L0) .c) rfl ?_
      refine WL.nil (QS.next (W.del (.kp (.dr (.dr (.dr (.dr .rf))))) ?_))
      refine W.cd (.t L0) (fun h9 => ?_) (fun h9 => ?_)
      ·
       refine W.del (.dr .rf) (W.seq (W.region ?_))
       refine WL.as .c U4 rfl ?_
       refine WL.nil (QS.next (W.ret (QS.thenr (QS.thenr (QS.blkr (QS.thenr (QS.blkr (QS.thenr (QS.blkr (QS.thenr ?_))))))))))
       exact QS.fin (.inl rfl) rfl (.tmp L4 .nil) () (by unfold innerS; dsimp only [zf]; (repeat (first | rw [if_pos (by omega)] | rw [if_neg (by omega)])); first | done | rfl | (rw [top_0]; rfl) | (try simp only [Nat.add_sub_cancel]; rw [top_1 hf]; dsimp only; (repeat (first | rw [if_pos (by omega)] | rw [if_neg (by omega)])); first | done | rfl)) (.dr (.kp (by unfold innerS; dsimp only [zf]; (repeat (first | rw [if_pos (by omega)] | rw [if_neg (by omega)])); first | done | rfl | (rw [top_0]; rfl) | (try simp only [Nat.add_sub_cancel]; rw [top_1 hf]; dsimp only; (repeat (first | rw [if_pos (by omega)] | rw [if_neg (by omega)])); first | done | rfl)) .nil)) (fun _ _ _ => trivial)
      ·
       refine W.del (.dr .rf) (W.skip (QS.next (W.seq (W.region ?_))))
       refine WL.st (R.mv (.t L0)) rfl ?_
       refine WL.st (R.fa fo_59_2 (.t L4)) rfl ?_
       refine WL.st (R.ld sc_57 (.t L0) H0 rfl) rfl ?_
       refine WL.st (R.bld (z := [.int .i64 0, .int .i64 0, .int .i64 0, .int .i64 0, .int .i64 0]) Tryd.underlying127 (by kernel_rfl) z_127 (.cons fo_127_0 fz_127_0 rfl (.t L0) rfl (by repeat constructor) .nil)) rfl ?_
       refine WL.call1r gf_91 .f (.cons (.t L3) (.cons (.t L0) .nil)) I1 (fun w ds hb => (walk_push (f := zf kind 0) hk (by omega) (hb.imp fun _ _ => trivial))) rfl ?_
       have hk0 := hk
       replace hk : (st.set d (zf kind 0)).length = 32 := by simpa using hk0
       refine WL.nil (QS.next (W.del (.dr (.dr (.dr (.dr (.dr .rf))))) (W.seq (W.region ?_))))
       refine WL.st (R.mv (.t L0)) rfl ?_
       refine WL.st (R.nc (.t L0)) rfl ?_
       refine WL.st (R.fa fo_130_3 (.t L0)) rfl ?_
       refine WL.st (R.ld sc_3 (.t L0) H1 (w_marks hk)) rfl ?_
       refine WL.st (R.add (.t L0) .c (wi (by omega) (by omega))) rfl ?_
       refine WL.st (R.nc (.t L4)) rfl ?_
       refine WL.st (R.fa fo_130_3 (.t L0)) rfl ?_
       refine WL.sto sz_3 (.t L0) (.t L2) rfl rfl rfl C1 (wp_marks hk) ?_
       refine WL.nil (QS.next (W.del (.dr (.dr (.dr (.dr (.dr (.dr (.dr .rf))))))) (W.seq (W.seq (W.region ?_)))))
       refine WL.st (R.fa fo_59_2 (.t L3)) rfl ?_
       refine WL.st (R.ld sc_57 (.t L0) H0 rfl) rfl ?_
       refine WL.st (R.nei (.t L0) .c) rfl ?_
       refine WL.nil (QS.next (W.del (.kp (.dr (.dr .rf))) ?_))
       refine W.cd (.t L0) (fun h10 => ?_) (fun h10 => ?_)
       ·
        refine W.del (.dr .rf) (W.region ?_)
        refine WL.st (R.mv (.t L0)) rfl ?_
        refine WL.st (R.nc (.t L0)) rfl ?_
        refine WL.st (R.fa fo_130_4 (.t L0)) rfl ?_
        refine WL.st (R.ld sc_3 (.t L0) H1 (w_links hk)) rfl ?_
        refine WL.st (R.add (.t L0) .c (wi (by omega) (by omega))) rfl ?_
        refine WL.st (R.nc (.t L4)) rfl ?_
        refine WL.st (R.fa fo_130_4 (.t L0)) rfl ?_
        refine WL.sto sz_3 (.t L0) (.t L2) rfl rfl rfl C1 (wp_links hk) ?_
        refine WL.nil (QS.next (W.del (.dr (.dr (.dr (.dr (.dr (.dr (.dr .rf))))))) (W.seq (W.region ?_))))
        refine WL.as .c U4 rfl ?_
        refine WL.nil (QS.next (W.ret (QS.thenr (QS.blkr (QS.thenr (QS.blkr (QS.thenr (QS.blkr (QS.thenr ?_)))))))))
        first
          | (exfalso; omega)
          | (skip; exact QS.fin (.inl rfl) rfl (.tmp L4 .nil) () (by unfold innerS; dsimp only [zf]; (repeat (first | rw [if_pos (by omega)] | rw [if_neg (by omega)])); first | done | rfl | (rw [top_0]; rfl) | (try simp only [Nat.add_sub_cancel]; rw [top_1 hf]; dsimp only; (repeat (first | rw [if_pos (by omega)] | rw [if_neg (by omega)])); first | done | rfl)) (.dr (.kp (by unfold innerS; dsimp only [zf]; (repeat (first | rw [if_pos (by omega)] | rw [if_neg (by omega)])); first | done | rfl | (rw [top_0]; rfl) | (try simp only [Nat.add_sub_cancel]; rw [top_1 hf]; dsimp only; (repeat (first | rw [if_pos (by omega)] | rw [if_neg (by omega)])); first | done | rfl)) .nil)) (fun _ _ _ => trivial))
       ·
        refine W.del (.dr .rf) (W.skip (QS.next (W.seq (W.region ?_))))
        refine WL.as .c U4 rfl ?_
        refine WL.nil (QS.next (W.ret (QS.thenr (QS.blkr (QS.thenr (QS.blkr (QS.thenr (QS.blkr (QS.thenr ?_)))))))))
        first
          | (exfalso; omega)
          | (skip; exact QS.fin (.inl rfl) rfl (.tmp L4 .nil) () (by unfold innerS; dsimp only [zf]; (repeat (first | rw [if_pos (by omega)] | rw [if_neg (by omega)])); first | done | rfl | (rw [top_0]; rfl) | (try simp only [Nat.add_sub_cancel]; rw [top_1 hf]; dsimp only; (repeat (first | rw [if_pos (by omega)] | rw [if_neg (by omega)])); first | done | rfl)) (.dr (.kp (by unfold innerS; dsimp only [zf]; (repeat (first | rw [if_pos (by omega)] | rw [if_neg (by omega)])); first | done | rfl | (rw [top_0]; rfl) | (try simp only [Nat.add_sub_cancel]; rw [top_1 hf]; dsimp only; (repeat (first | rw [if_pos (by omega)] | rw [if_neg (by omega)])); first | done | rfl)) .nil)) (fun _ _ _ => trivial))
    ·
     refine W.region ?_
     refine WL.st (R.eqi (.t L1) .c) rfl ?_
     refine WL.as (.t L0) U1 rfl ?_
     refine WL.nil (QS.next (W.del (.dr .rf) ?_))
     refine W.cd (.t L0) (fun h4 => ?_) (fun h4 => ?_)
     ·
      refine W.del (.dr .rf) (W.exit (QS.thenx (QS.thenx (QS.blky rfl (QS.thenx (QS.blky rfl (QS.thenx (QS.blkx (QS.next (W.del (.dr .rf) (W.seq (W.region ?_))))))))))))
      refine WL.st (R.mv (.t L0)) rfl ?_
      refine WL.st (R.nc (.t L0)) rfl ?_
      refine WL.st (R.fa fo_130_4 (.t L0)) rfl ?_
      refine WL.st (R.ld sc_3 (.t L0) H1 (w_links hk)) rfl ?_
      refine WL.st (R.gtr (.t L0) .c) rfl ?_
      refine WL.nil (QS.next (W.del (.kp (.dr (.dr (.dr (.dr .rf))))) ?_))
      refine W.cd (.t L0) (fun h8 => ?_) (fun h8 => ?_)
      ·
       refine W.del (.dr .rf) (W.seq (W.region ?_))
       refine WL.as .c U4 rfl ?_
       refine WL.nil (QS.next (W.ret (QS.blkr (QS.thenr (QS.blkr (QS.thenr (QS.blkr (QS.thenr (QS.blkr (QS.thenr ?_))))))))))
       exact QS.fin (.inl rfl) rfl (.tmp L4 .nil) () (by unfold innerS; dsimp only [zf]; (repeat (first | rw [if_pos (by omega)] | rw [if_neg (by omega)])); first | done | rfl | (rw [top_0]; rfl) | (try simp only [Nat.add_sub_cancel]; rw [top_1 hf]; dsimp only; (repeat (first | rw [if_pos (by omega)] | rw [if_neg (by omega)])); first | done | rfl)) (.dr (.kp (by unfold innerS; dsimp only [zf]; (repeat (first | rw [if_pos (by omega)] | rw [if_neg (by omega)])); first | done | rfl | (rw [top_0]; rfl) | (try simp only [Nat.add_sub_cancel]; rw [top_1 hf]; dsimp only; (repeat (first | rw [if_pos (by omega)] | rw [if_neg (by omega)])); first | done | rfl)) .nil)) (fun _ _ _ => trivial)
      ·
       refine W.del (.dr .rf) (W.skip (QS.blkn (QS.next (W.seq (W.seq (W.seq (W.region ?_)))))))
       refine WL.st (R.mv (.t L0)) rfl ?_
       refine WL.st (R.nc (.t L0)) rfl ?_
       refine WL.st (R.fa fo_130_3 (.t L0)) rfl ?_
       refine WL.st (R.ld sc_3 (.t L0) H1 (w_marks hk)) rfl ?_
       refine WL.st (R.geq (.t L0) .c) rfl ?_
       refine WL.nil (QS.next (W.del (.kp (.dr (.dr (.dr (.dr .rf))))) ?_))
       refine W.cd (.t L0) (fun h9 => ?_) (fun h9 => ?_)
       ·
        refine W.del (.dr .rf) (W.seq (W.region ?_))
        refine WL.as .c U4 rfl ?_
        refine WL.nil (QS.next (W.ret (QS.thenr (QS.thenr (QS.blkr (QS.thenr (QS.blkr (QS.thenr (QS.blkr (QS.thenr ?_))))))))))
        exact QS.fin (.inl rfl) rfl (.tmp L4 .nil) () (by unfold innerS; dsimp only [zf]; (repeat (first | rw [if_pos (by omega)] | rw [if_neg (by omega)])); first | done | rfl | (rw [top_0]; rfl) | (try simp only [Nat.add_sub_cancel]; rw [top_1 hf]; dsimp only; (repeat (first | rw [if_pos (by omega)] | rw [if_neg (by omega)])); first | done | rfl)) (.dr (.kp (by unfold innerS; dsimp only [zf]; (repeat (first | rw [if_pos (by omega)] | rw [if_neg (by omega)])); first | done | rfl | (rw [top_0]; rfl) | (try simp only [Nat.add_sub_cancel]; rw [top_1 hf]; dsimp only; (repeat (first | rw [if_pos (by omega)] | rw [if_neg (by omega)])); first | done | rfl)) .nil)) (fun _ _ _ => trivial)
       ·
        refine W.del (.dr .rf) (W.skip (QS.next (W.seq (W.region ?_))))
        refine WL.st (R.mv (.t L0)) rfl ?_
        refine WL.st (R.fa fo_59_2 (.t L4)) rfl ?_
        refine WL.st (R.ld sc_57 (.t L0) H0 rfl) rfl ?_
        refine WL.st (R.bld (z := [.int .i64 0, .int .i64 0, .int .i64 0, .int .i64 0, .int .i64 0]) Tryd.underlying127 (by kernel_rfl) z_127 (.cons fo_127_0 fz_127_0 rfl (.t L0) rfl (by repeat constructor) .nil)) rfl ?_
        refine WL.call1r gf_91 .f (.cons (.t L3) (.cons (.t L0) .nil)) I1 (fun w ds hb => (walk_push (f := zf kind 0) hk (by omega) (hb.imp fun _ _ => trivial))) rfl ?_
        have hk0 := hk
        replace hk : (st.set d (zf kind 0)).length = 32 := by simpa using hk0
        refine WL.nil (QS.next (W.del (.dr (.dr (.dr (.dr (.dr .rf))))) (W.seq (W.region ?_))))
        refine WL.st (R.mv (.t L0)) rfl ?_
        refine WL.st (R.nc (.t L0)) rfl ?_
        refine WL.st (R.fa fo_130_3 (.t L0)) rfl ?_
        refine WL.st (R.ld sc_3 (.t L0) H1 (w_marks hk)) rfl ?_
        refine WL.st (R.add (.t L0) .c (wi (by omega) (by omega))) rfl ?_
        refine WL.st (R.nc (.t L4)) rfl ?_
        refine WL.st (R.fa fo_130_3 (.t L0)) rfl ?_
        refine WL.sto sz_3 (.t L0) (.t L2) rfl rfl rfl C1 (wp_marks hk) ?_
        refine WL.nil (QS.next (W.del (.dr (.dr (.dr (.dr (.dr (.dr (.dr .rf))))))) (W.seq (W.seq (W.region ?_)))))
        refine WL.st (R.fa fo_59_2 (.t L3)) rfl ?_
        refine WL.st (R.ld sc_57 (.t L0) H0 rfl) rfl ?_
        refine WL.st (R.nei (.t L0) .c) rfl ?_
        refine WL.nil (QS.next (W.del (.kp (.dr (.dr .rf))) ?_))
        refine W.cd (.t L0) (fun h10 => ?_) (fun h10 => ?_)
        ·
         refine W.del (.dr .rf) (W.region ?_)
         refine WL.st (R.mv (.t L0)) rfl ?_
         refine WL.st (R.nc (.t L0)) rfl ?_
         refine WL.st (R.fa fo_130_4 (.t L0)) rfl ?_
         refine WL.st (R.ld sc_3 (.t L0) H1 (w_links hk)) rfl ?_
         refine WL.st (R.add (.t L0) .c (wi (by omega) (by omega))) rfl ?_
         refine WL.st (R.nc (.t L4)) rfl ?_
         refine WL.st (R.fa fo_130_4 (.t L0)) rfl ?_
         refine WL.sto sz_3 (.t L0) (.t L2) rfl rfl rfl C1 (wp_links hk) ?_
         refine WL.nil (QS.next (W.del (.dr (.dr (.dr (.dr (.dr (.dr (.dr .rf))))))) (W.seq (W.region ?_))))
         refine WL.as .c U4 rfl ?_
         refine WL.nil (QS.next (W.ret (QS.thenr (QS.blkr (QS.thenr (QS.blkr (QS.thenr (QS.blkr (QS.thenr ?_)))))))))
         first
           | (exfalso; omega)
           | (skip; exact QS.fin (.inl rfl) rfl (.tmp L4 .nil) () (by unfold innerS; dsimp only [zf]; (repeat (first | rw [if_pos (by omega)] | rw [if_neg (by omega)])); first | done | rfl | (rw [top_0]; rfl) | (try simp only [Nat.add_sub_cancel]; rw [top_1 hf]; dsimp only; (repeat (first | rw [if_pos (by omega)] | rw [if_neg (by omega)])); first | done | rfl)) (.dr (.kp (by unfold innerS; dsimp only [zf]; (repeat (first | rw [if_pos (by omega)] | rw [if_neg (by omega)])); first | done | rfl | (rw [top_0]; rfl) | (try simp only [Nat.add_sub_cancel]; rw [top_1 hf]; dsimp only; (repeat (first | rw [if_pos (by omega)] | rw [if_neg (by omega)])); first | done | rfl)) .nil)) (fun _ _ _ => trivial))
        ·
         refine W.del (.dr .rf) (W.skip (QS.next (W.seq (W.region ?_))))
         refine WL.as .c U4 rfl ?_
         refine WL.nil (QS.next (W.ret (QS.thenr (QS.blkr (QS.thenr (QS.blkr (QS.thenr (QS.blkr (QS.thenr ?_)))))))))
         first
           | (exfalso; omega)
           | (skip; exact QS.fin (.inl rfl) rfl (.tmp L4 .nil) () (by unfold innerS; dsimp only [zf]; (repeat (first | rw [if_pos (by omega)] | rw [if_neg (by omega)])); first | done | rfl | (rw [top_0]; rfl) | (try simp only [Nat.add_sub_cancel]; rw [top_1 hf]; dsimp only; (repeat (first | rw [if_pos (by omega)] | rw [if_neg (by omega)])); first | done | rfl)) (.dr (.kp (by unfold innerS; dsimp only [zf]; (repeat (first | rw [if_pos (by omega)] | rw [if_neg (by omega)])); first | done | rfl | (rw [top_0]; rfl) | (try simp only [Nat.add_sub_cancel]; rw [top_1 hf]; dsimp only; (repeat (first | rw [if_pos (by omega)] | rw [if_neg (by omega)])); first | done | rfl)) .nil)) (fun _ _ _ => trivial))
     ·
      refine W.del (.dr .rf) (W.skip (QS.next (W.seq (W.seq (W.region ?_)))))
      refine WL.st (R.eqi (.t L0) .c) rfl ?_
      refine WL.st (R.as (.t L0)) rfl ?_
      refine WL.nil (QS.next (W.del (.kp (.dr .rf)) ?_))
      refine W.cd (.t L0) (fun h5 => ?_) (fun h5 => ?_)
      ·
       refine W.del (.dr .rf) (W.exit (QS.thenx (QS.thenx (QS.blky rfl (QS.thenx (QS.blky rfl (QS.thenx (QS.blky rfl (QS.thenx (QS.blkx (QS.next (W.del (.dr .rf) (W.seq (W.seq (W.seq (W.region ?_))))))))))))))))
       refine WL.st (R.mv (.t L0)) rfl ?_
       refine WL.st (R.nc (.t L0)) rfl ?_
       refine WL.st (R.fa fo_130_3 (.t L0)) rfl ?_
       refine WL.st (R.ld sc_3 (.t L0) H1 (w_marks hk)) rfl ?_
       refine WL.st (R.geq (.t L0) .c) rfl ?_
       refine WL.nil (QS.next (W.del (.kp (.dr (.dr (.dr (.dr .rf))))) ?_))
       refine W.cd (.t L0) (fun h9 => ?_) (fun h9 => ?_)
       ·
        refine W.del (.dr .rf) (W.seq (W.region ?_))
        refine WL.as .c U4 rfl ?_
        refine WL.nil (QS.next (W.ret (QS.thenr (QS.thenr (QS.blkr (QS.thenr (QS.blkr (QS.thenr (QS.blkr (QS.thenr ?_))))))))))
        exact QS.fin (.inl rfl) rfl (.tmp L4 .nil) () (by unfold innerS; dsimp only [zf]; (repeat (first | rw [if_pos (by omega)] | rw [if_neg (by omega)])); first | done | rfl | (rw [top_0]; rfl) | (try simp only [Nat.add_sub_cancel]; rw [top_1 hf]; dsimp only; (repeat (first | rw [if_pos (by omega)] | rw [if_neg (by omega)])); first | done | rfl)) (.dr (.kp (by unfold innerS; dsimp only [zf]; (repeat (first | rw [if_pos (by omega)] | rw [if_neg (by omega)])); first | done | rfl | (rw [top_0]; rfl) | (try simp only [Nat.add_sub_cancel]; rw [top_1 hf]; dsimp only; (repeat (first | rw [if_pos (by omega)] | rw [if_neg (by omega)])); first | done | rfl)) .nil)) (fun _ _ _ => trivial)
       ·
        refine W.del (.dr .rf) (W.skip (QS.next (W.seq (W.region ?_))))
        refine WL.st (R.mv (.t L0)) rfl ?_
        refine WL.st (R.fa fo_59_2 (.t L4)) rfl ?_
        refine WL.st (R.ld sc_57 (.t L0) H0 rfl) rfl ?_
        refine WL.st (R.bld (z := [.int .i64 0, .int .i64 0, .int .i64 0, .int .i64 0, .int .i64 0]) Tryd.underlying127 (by kernel_rfl) z_127 (.cons fo_127_0 fz_127_0 rfl (.t L0) rfl (by repeat constructor) .nil)) rfl ?_
        refine WL.call1r gf_91 .f (.cons (.t L3) (.cons (.t L0) .nil)) I1 (fun w ds hb => (walk_push (f := zf kind 0) hk (by omega) (hb.imp fun _ _ => trivial))) rfl ?_
        have hk0 := hk
        replace hk : (st.set d (zf kind 0)).length = 32 := by simpa using hk0
        refine WL.nil (QS.next (W.del (.dr (.dr (.dr (.dr (.dr .rf))))) (W.seq (W.region ?_))))
        refine WL.st (R.mv (.t L0)) rfl ?_
        refine WL.st (R.nc (.t L0)) rfl ?_
        refine WL.st (R.fa fo_130_3 (.t L0)) rfl ?_
        refine WL.st (R.ld sc_3 (.t L0) H1 (w_marks hk)) rfl ?_
        refine WL.st (R.add (.t L0) .c (wi (by omega) (by omega))) rfl ?_
        refine WL.st (R.nc (.t L4)) rfl ?_
        refine WL.st (R.fa fo_130_3 (.t L0)) rfl ?_
        refine WL.sto sz_3 (.t L0) (.t L2) rfl rfl rfl C1 (wp_marks hk) ?_
        refine WL.nil (QS.next (W.del (.dr (.dr (.dr (.dr (.dr (.dr (.dr .rf))))))) (W.seq (W.seq (W.region ?_)))))
        refine WL.st (R.fa fo_59_2 (.t L3)) rfl ?_
        refine WL.st (R.ld sc_57 (.t L0) H0 rfl) rfl ?_
        refine WL.st (R.nei (.t L0) .c) rfl ?_
        refine WL.nil (QS.next (W.del (.kp (.dr (.dr .rf))) ?_))
        refine W.cd (.t L0) (fun h10 => ?_) (fun h10 => ?_)
        ·
         refine W.del (.dr .rf) (W.region ?_)
         refine WL.st (R.mv (.t L0)) rfl ?_
         refine WL.st (R.nc (.t L0)) rfl ?_
         refine WL.st (R.fa fo_130_4 (.t L0)) rfl ?_
         refine WL.st (R.ld sc_3 (.t L0) H1 (w_links hk)) rfl ?_
         refine WL.st (R.add (.t L0) .c (wi (by omega) (by omega))) rfl ?_
         refine WL.st (R.nc (.t L4)) rfl ?_
         refine WL.st (R.fa fo_130_4 (.t L0)) rfl ?_
         refine WL.sto sz_3 (.t L0) (.t L2) rfl rfl rfl C1 (wp_links hk) ?_
         refine WL.nil (QS.next (W.del (.dr (.dr (.dr (.dr (.dr (.dr (.dr .rf))))))) (W.seq (W.region ?_))))
         refine WL.as .c U4 rfl ?_
         refine WL.nil (QS.next (W.ret (QS.thenr (QS.blkr (QS.thenr (QS.blkr (QS.thenr (QS.blkr (QS.thenr ?_)))))))))
         first
           | (exfalso; omega)
           | (skip; exact QS.fin (.inl rfl) rfl (.tmp L4 .nil) () (by unfold innerS; dsimp only [zf]; (repeat (first | rw [if_pos (by omega)] | rw [if_neg (by omega)])); first | done | rfl | (rw [top_0]; rfl) | (try simp only [Nat.add_sub_cancel]; rw [top_1 hf]; dsimp only; (repeat (first | rw [if_pos (by omega)] | rw [if_neg (by omega)])); first | done | rfl)) (.dr (.kp (by unfold innerS; dsimp only [zf]; (repeat (first | rw [if_pos (by omega)] | rw [if_neg (by omega)])); first | done | rfl | (rw [top_0]; rfl) | (try simp only [Nat.add_sub_cancel]; rw [top_1 hf]; dsimp only; (repeat (first | rw [if_pos (by omega)] | rw [if_neg (by omega)])); first | done | rfl)) .nil)) (fun _ _ _ => trivial))
        ·
         refine W.del (.dr .rf) (W.skip (QS.next (W.seq (W.region ?_))))
         refine WL.as .c U4 rfl ?_
         refine WL.nil (QS.next (W.ret (QS.thenr (QS.blkr (QS.thenr (QS.blkr (QS.thenr (QS.blkr (QS.thenr ?_)))))))))
         first
           | (exfalso; omega)
           | (skip; exact QS.fin (.inl rfl) rfl (.tmp L4 .nil) () (by unfold innerS; dsimp only [zf]; (repeat (first | rw [if_pos (by omega)] | rw [if_neg (by omega)])); first | done | rfl | (rw [top_0]; rfl) | (try simp only [Nat.add_sub_cancel]; rw [top_1 hf]; dsimp only; (repeat (first | rw [if_pos (by omega)] | rw [if_neg (by omega)])); first | done | rfl)) (.dr (.kp (by unfold innerS; dsimp only [zf]; (repeat (first | rw [if_pos (by omega)] | rw [if_neg (by omega)])); first | done | rfl | (rw [top_0]; rfl) | (try simp only [Nat.add_sub_cancel]; rw [top_1 hf]; dsimp only; (repeat (first | rw [if_pos (by omega)] | rw [if_neg (by omega)])); first | done | rfl)) .nil)) (fun _ _ _ => trivial))
      ·
       refine W.del (.dr .rf) (W.skip (QS.next (W.seq (W.seq (W.region ?_)))))
       refine WL.st (R.eqi (.t L0) .c) rfl ?_
       refine WL.st (R.as (.t L0)) rfl ?_
       refine WL.nil (QS.next (W.del (.kp (.dr .rf)) ?_))
       refine W.cd (.t L0) (fun h6 => ?_) (fun h6 => ?_)
       ·
        refine W.del (.dr .rf) (W.exit (QS.thenx (QS.thenx (QS.blky rfl (QS.thenx (QS.blky rfl (QS.thenx (QS.blky rfl (QS.thenx (QS.blky rfl (QS.thenx (QS.blkx (QS.next (W.del (.dr .rf) (W.seq (W.seq (W.seq (W.region ?_))))))))))))))))))
        refine WL.st (R.mv (.t L0)) rfl ?_
        refine WL.st (R.nc (.t L0)) rfl ?_
        refine WL.st (R.fa fo_130_3 (.t L0)) rfl ?_
        refine WL.st (R.ld sc_3 (.t L0) H1 (w_marks hk)) rfl ?_
        refine WL.st (R.eqi (.t L0) .c) rfl ?_
        refine WL.nil (QS.next (W.del (.kp (.dr (.dr (.dr (.dr .rf))))) ?_))
        refine W.cd (.t L0) (fun h11 => ?_) (fun h11 => ?_)
        ·
         refine W.del (.dr .rf) (W.seq (W.region ?_))
         refine WL.as .c U4 rfl ?_
         refine WL.nil (QS.next (W.ret (QS.thenr (QS.thenr (QS.blkr (QS.thenr (QS.blkr (QS.thenr ?_))))))))
         exact QS.fin (.inl rfl) rfl (.tmp L4 .nil) () (by unfold innerS; dsimp only [zf]; (repeat (first | rw [if_pos (by omega)] | rw [if_neg (by omega)])); first | done | rfl | (rw [top_0]; rfl) | (try simp only [Nat.add_sub_cancel]; rw [top_1 hf]; dsimp only; (repeat (first | rw [if_pos (by omega)] | rw [if_neg (by omega)])); first | done | rfl)) (.dr (.kp (by unfold innerS; dsimp only [zf]; (repeat (first | rw [if_pos (by omega)] | rw [if_neg (by omega)])); first | done | rfl | (rw [top_0]; rfl) | (try simp only [Nat.add_sub_cancel]; rw [top_1 hf]; dsimp only; (repeat (first | rw [if_pos (by omega)] | rw [if_neg (by omega)])); first | done | rfl)) .nil)) (fun _ _ _ => trivial)
        ·
         refine W.del (.dr .rf) (W.skip (QS.next (W.seq (W.seq (W.region ?_)))))
         refine WL.st (R.mv (.t L0)) rfl ?_
         refine WL.call1r gf_90 .f (.cons (.t L0) .nil) I1 (fun w ds hb => (walk_top hk (by omega) (hb.imp fun _ _ => trivial))) rfl ?_
         obtain ⟨n1, rfl⟩ : ∃ n1, d = n1 + 1 := ⟨d - 1, by omega⟩
         obtain ⟨f, hf⟩ : ∃ f, st[n1]? = some f := ⟨_, List.getElem?_eq_getElem (by omega)⟩
         refine WL.rw L0 (v' := .pointer (some ⟨g, n1 * 5, none⟩)) rfl U0 ?_
         refine WL.st (R.nc (.t L0)) rfl ?_
         refine WL.st (R.fao fo_127_0 (.t L0) (k := n1 * 5 + 0) rfl) rfl ?_
         refine WL.st (R.ld sc_57 (.t L0) H1 (w_frame hf (j := 0) rfl)) rfl ?_
         refine WL.st (R.nei (.t L0) .c) rfl ?_
         refine WL.nil (QS.next (W.del (.kp (.dr (.dr (.dr (.dr (.dr .rf)))))) ?_))
         refine W.cd (.t L0) (fun h12 => ?_) (fun h12 => ?_)
         ·
          refine W.del (.dr .rf) (W.region ?_)
          refine WL.st (R.mv (.t L0)) rfl ?_
          refine WL.st (R.nc (.t L0)) rfl ?_
          refine WL.st (R.fa fo_130_4 (.t L0)) rfl ?_
          refine WL.st (R.ld sc_3 (.t L0) H1 (w_links hk)) rfl ?_
          refine WL.st (R.sub (.t L0) .c (wi (by omega) (by omega))) rfl ?_
          refine WL.st (R.nc (.t L4)) rfl ?_
          refine WL.st (R.fa fo_130_4 (.t L0)) rfl ?_
          refine WL.sto sz_3 (.t L0) (.t L2) rfl rfl rfl C1 (wp_links hk) ?_
          refine WL.nil (QS.next (W.del (.dr (.dr (.dr (.dr (.dr (.dr (.dr .rf))))))) (W.seq (W.region ?_))))
          refine WL.st (R.mv (.t L0)) rfl ?_
          refine WL.st (R.nc (.t L0)) rfl ?_
          refine WL.st (R.fa fo_130_3 (.t L0)) rfl ?_
          refine WL.st (R.ld sc_3 (.t L0) H1 (w_marks hk)) rfl ?_
          refine WL.st (R.sub (.t L0) .c (wi (by omega) (by omega))) rfl ?_
          refine WL.st (R.nc (.t L4)) rfl ?_
          refine WL.st (R.fa fo_130_3 (.t L0)) rfl ?_
          refine WL.sto sz_3 (.t L0) (.t L2) rfl rfl rfl C1 (wp_marks hk) ?_
          refine WL.nil (QS.next (W.del (.dr (.dr (.dr (.dr (.dr (.dr (.dr .rf))))))) (W.seq (W.region ?_))))
          refine WL.st (R.mv (.t L0)) rfl ?_
          refine WL.st (R.nc (.t L0)) rfl ?_
          refine WL.st (R.fa fo_130_1 (.t L0)) rfl ?_
          refine WL.st (R.ld sc_3 (.t L0) H1 (w_depth hk)) rfl ?_
          refine WL.st (R.vq (R.sub (.t L0) .c (wi (by omega) (by omega))) (show Value.int .i64 (((n1 + 1 : Nat) : Int) - 1) = Value.int .i64 ((n1 : Nat) : Int) from congrArg (Value.int .i64) (by omega))) rfl ?_
          refine WL.st (R.nc (.t L4)) rfl ?_
          refine WL.st (R.fa fo_130_1 (.t L0)) rfl ?_
          refine WL.sto sz_3 (.t L0) (.t L2) rfl rfl rfl C1 (wp_depth hk) ?_
          refine WL.nil (QS.next (W.del (.dr (.dr (.dr (.dr (.dr (.dr (.dr .rf))))))) (W.seq (W.region ?_))))
          refine WL.as .c U4 rfl ?_
          refine WL.nil (QS.next (W.ret (QS.thenr (QS.blkr (QS.thenr (QS.blkr (QS.thenr ?_)))))))
          exact QS.fin (.inl rfl) rfl (.tmp L4 .nil) () (by unfold innerS; dsimp only [zf]; (repeat (first | rw [if_pos (by omega)] | rw [if_neg (by omega)])); first | done | rfl | (rw [top_0]; rfl) | (try simp only [Nat.add_sub_cancel]; rw [top_1 hf]; dsimp only; (repeat (first | rw [if_pos (by omega)] | rw [if_neg (by omega)])); first | done | rfl)) (.dr (.kp (by unfold innerS; dsimp only [zf]; (repeat (first | rw [if_pos (by omega)] | rw [if_neg (by omega)])); first | done | rfl | (rw [top_0]; rfl) | (try simp only [Nat.add_sub_cancel]; rw [top_1 hf]; dsimp only; (repeat (first | rw [if_pos (by omega)] | rw [if_neg (by omega)])); first | done | rfl)) .nil)) (fun _ _ _ => trivial)
         ·
          refine W.del (.dr .rf) (W.skip (QS.next (W.seq (W.region ?_))))
          refine WL.st (R.mv (.t L0)) rfl ?_
          refine WL.st (R.nc (.t L0)) rfl ?_
          refine WL.st (R.fa fo_130_3 (.t L0)) rfl ?_
          refine WL.st (R.ld sc_3 (.t L0) H1 (w_marks hk)) rfl ?_
          refine WL.st (R.sub (.t L0) .c (wi (by omega) (by omega))) rfl ?_
          refine WL.st (R.nc (.t L4)) rfl ?_
          refine WL.st (R.fa fo_130_3 (.t L0)) rfl ?_
          refine WL.sto sz_3 (.t L0) (.t L2) rfl rfl rfl C1 (wp_marks hk) ?_
          refine WL.nil (QS.next (W.del (.dr (.dr (.dr (.dr (.dr (.dr (.dr .rf))))))) (W.seq (W.region ?_))))
          refine WL.st (R.mv (.t L0)) rfl ?_
          refine WL.st (R.nc (.t L0)) rfl ?_
          refine WL.st (R.fa fo_130_1 (.t L0)) rfl ?_
          refine WL.st (R.ld sc_3 (.t L0) H1 (w_depth hk)) rfl ?_
          refine WL.st (R.vq (R.sub (.t L0) .c (wi (by omega) (by omega))) (show Value.int .i64 (((n1 + 1 : Nat) : Int) - 1) = Value.int .i64 ((n1 : Nat) : Int) from congrArg (Value.int .i64) (by omega))) rfl ?_
          refine WL.st (R.nc (.t L4)) rfl ?_
          refine WL.st (R.fa fo_130_1 (.t L0)) rfl ?_
          refine WL.sto sz_3 (.t L0) (.t L2) rfl rfl rfl C1 (wp_depth hk) ?_
          refine WL.nil (QS.next (W.del (.dr (.dr (.dr (.dr (.dr (.dr (.dr .rf))))))) (W.seq (W.region ?_))))
          refine WL.as .c U4 rfl ?_
          refine WL.nil (QS.next (W.ret (QS.thenr (QS.blkr (QS.thenr (QS.blkr (QS.thenr ?_)))))))
          exact QS.fin (.inl rfl) rfl (.tmp L4 .nil) () (by unfold innerS; dsimp only [zf]; (repeat (first | rw [if_pos (by omega)] | rw [if_neg (by omega)])); first | done | rfl | (rw [top_0]; rfl) | (try simp only [Nat.add_sub_cancel]; rw [top_1 hf]; dsimp only; (repeat (first | rw [if_pos (by omega)] | rw [if_neg (by omega)])); first | done | rfl)) (.dr (.kp (by unfold innerS; dsimp only [zf]; (repeat (first | rw [if_pos (by omega)] | rw [if_neg (by omega)])); first | done | rfl | (rw [top_0]; rfl) | (try simp only [Nat.add_sub_cancel]; rw [top_1 hf]; dsimp only; (repeat (first | rw [if_pos (by omega)] | rw [if_neg (by omega)])); first | done | rfl)) .nil)) (fun _ _ _ => trivial)
       ·
        refine W.del (.dr .rf) (W.skip (QS.next (W.seq (W.region ?_))))
        refine WL.st (R.eqi (.t L0) .c) rfl ?_
        refine WL.st (R.as (.t L0)) rfl ?_
        refine WL.nil (QS.next (W.del (.kp (.dr (.dr .rf))) ?_))
        refine W.cd (.t L0) (fun h7 => ?_) (fun h7 => ?_)
        ·
         refine W.del (.dr .rf) (W.exit (QS.thenx (QS.blky rfl (QS.thenx (QS.blky rfl (QS.thenx (QS.blky rfl (QS.thenx (QS.blky rfl (QS.thenx (QS.blky rfl (QS.thenx (QS.blkx (QS.next (W.seq (W.seq (W.seq (W.region ?_))))))))))))))))))
         refine WL.st (R.mv (.t L0)) rfl ?_
         refine WL.st (R.nc (.t L0)) rfl ?_
         refine WL.st (R.fa fo_130_3 (.t L0)) rfl ?_
         refine WL.st (R.ld sc_3 (.t L0) H1 (w_marks hk)) rfl ?_
         refine WL.st (R.gtr (.t L0) .c) rfl ?_
         refine WL.nil (QS.next (W.del (.kp (.dr (.dr (.dr (.dr .rf))))) ?_))
         refine W.cd (.t L0) (fun h13 => ?_) (fun h13 => ?_)
         ·
          refine W.del (.dr .rf) (W.seq (W.region ?_))
          refine WL.as .c U4 rfl ?_
          refine WL.nil (QS.next (W.ret (QS.thenr (QS.thenr (QS.blkr (QS.thenr ?_))))))
          exact QS.fin (.inl rfl) rfl (.tmp L4 .nil) () (by unfold innerS; dsimp only [zf]; (repeat (first | rw [if_pos (by omega)] | rw [if_neg (by omega)])); first | done | rfl | (rw [top_0]; rfl) | (try simp only [Nat.add_sub_cancel]; rw [top_1 hf]; dsimp only; (repeat (first | rw [if_pos (by omega)] | rw [if_neg (by omega)])); first | done | rfl)) (.dr (.kp (by unfold innerS; dsimp only [zf]; (repeat (first | rw [if_pos (by omega)] | rw [if_neg (by omega)])); first | done | rfl | (rw [top_0]; rfl) | (try simp only [Nat.add_sub_cancel]; rw [top_1 hf]; dsimp only; (repeat (first | rw [if_pos (by omega)] | rw [if_neg (by omega)])); first | done | rfl)) .nil)) (fun _ _ _ => trivial)
         ·
          refine W.del (.dr .rf) (W.skip (QS.next (W.seq ?_)))
          obtain ⟨n1, rfl⟩ : ∃ n1, d = n1 + 1 := ⟨d - 1, by omega⟩
          refine W.region ?_
          refine WL.st (R.mv (.t L0)) rfl ?_
          refine WL.st (R.nc (.t L0)) rfl ?_
          refine WL.st (R.fa fo_130_1 (.t L0)) rfl ?_
          refine WL.st (R.ld sc_3 (.t L0) H1 (w_depth hk)) rfl ?_
          refine WL.st (R.vq (R.sub (.t L0) .c (wi (by omega) (by omega))) (show Value.int .i64 (((n1 + 1 : Nat) : Int) - 1) = Value.int .i64 ((n1 : Nat) : Int) from congrArg (Value.int .i64) (by omega))) rfl ?_
          refine WL.st (R.nc (.t L4)) rfl ?_
          refine WL.st (R.fa fo_130_1 (.t L0)) rfl ?_
          refine WL.sto sz_3 (.t L0) (.t L2) rfl rfl rfl C1 (wp_depth hk) ?_
          refine WL.nil (QS.next (W.del (.dr (.dr (.dr (.dr (.dr (.dr (.dr .rf))))))) (W.seq (W.region ?_))))
          refine WL.st (R.mv (.t L0)) rfl ?_
          refine WL.st (R.nc (.t L0)) rfl ?_
          refine WL.st (R.fa fo_130_2 (.t L0)) rfl ?_
          refine WL.sto sz_3 (.t L0) .c rfl rfl rfl C1 (wp_para hk) ?_
          refine WL.nil (QS.next (W.del (.dr (.dr (.dr .rf))) (W.seq (W.seq ?_))))
          rcases n1 with _ | n2
          ·
           refine W.region ?_
           refine WL.st (R.mv (.t L0)) rfl ?_
           refine WL.call1r gf_90 .f (.cons (.t L0) .nil) I1 (fun w ds hb => (walk_top hk (by omega) (hb.imp fun _ _ => trivial))) rfl ?_
           refine WL.rw L0 (v' := .pointer none) rfl U0 ?_
           refine WL.as (.t L0) U7 rfl ?_
           refine WL.nil (QS.next (W.del (.dr (.dr .rf)) (W.seq (W.region ?_))))
           refine WL.st (R.mv (.t L5)) rfl ?_
           refine WL.st (R.nenn pt_149 (.t L0)) rfl ?_
           refine WL.st (R.mv (.t L0)) rfl ?_
           refine WL.gn rfl L0 rfl ?_
           refine WL.gn rfl L1 rfl ?_
           refine WL.gn rfl L2 rfl ?_
           refine WL.gn rfl L3 rfl ?_
           refine WL.gn rfl L4 rfl ?_
           refine WL.st (R.pkf (.t L5) .c) rfl ?_
           refine WL.nil (QS.next (W.del (.kp (.dr (.dr (.dr (.dr (.dr (.dr (.dr (.dr .rf))))))))) (W.cf (.t L0) (W.del (.dr .rf) (W.skip (QS.next (W.seq (W.region ?_))))))))
           refine WL.as .c U4 rfl ?_
           refine WL.nil (QS.next (W.ret (QS.thenr (QS.blkr (QS.thenr ?_)))))
           exact QS.fin (.inl rfl) rfl (.tmp L4 .nil) () (by unfold innerS; dsimp only [zf]; (repeat (first | rw [if_pos (by omega)] | rw [if_neg (by omega)])); first | done | rfl | (rw [top_0]; rfl) | (try simp only [Nat.add_sub_cancel]; rw [top_1 hf]; dsimp only; (repeat (first | rw [if_pos (by omega)] | rw [if_neg (by omega)])); first | done | rfl)) (.dr (.kp (by unfold innerS; dsimp only [zf]; (repeat (first | rw [if_pos (by omega)] | rw [if_neg (by omega)])); first | done | rfl | (rw [top_0]; rfl) | (try simp only [Nat.add_sub_cancel]; rw [top_1 hf]; dsimp only; (repeat (first | rw [if_pos (by omega)] | rw [if_neg (by omega)])); first | done | rfl)) .nil)) (fun _ _ _ => trivial)
          ·
           obtain ⟨f, hf⟩ : ∃ f, st[n2]? = some f := ⟨_, List.getElem?_eq_getElem (by omega)⟩
           have hfb := hfr f (List.mem_of_getElem? hf)
           refine W.region ?_
           refine WL.st (R.mv (.t L0)) rfl ?_
           refine WL.call1r gf_90 .f (.cons (.t L0) .nil) I1 (fun w ds hb => (walk_top hk (by omega) (hb.imp fun _ _ => trivial))) rfl ?_
           refine WL.rw L0 (v' := .pointer (some ⟨g, n2 * 5, none⟩)) rfl U0 ?_
           refine WL.as (.t L0) U7 rfl ?_
           refine WL.nil (QS.next (W.del (.dr (.dr .rf)) (W.seq (W.region ?_))))
           refine WL.st (R.mv (.t L5)) rfl ?_
           refine WL.st (R.nepn pt_149 (.t L0)) rfl ?_
           refine WL.st (R.mv (.t L0)) rfl ?_
           refine WL.gy rfl L0 (R.mv (.t L8)) rfl ?_
           refine WL.gy rfl L1 (R.nc (.t L0)) rfl ?_
           refine WL.gy rfl L2 (R.fao fo_127_0 (.t L0) (k := n2 * 5 + 0) rfl) rfl ?_
           refine WL.gy rfl L3 (R.ld sc_57 (.t L0) H1 (w_frame hf (j := 0) rfl)) rfl ?_
           refine WL.gy rfl L4 (R.eqi (.t L0) .c) rfl ?_
           refine WL.st (R.pkt (.t L5) (.t L0)) rfl ?_
           refine WL.nil (QS.next (W.del (.kp (.dr (.dr (.dr (.dr (.dr (.dr (.dr (.dr .rf))))))))) ?_))
           refine W.cd (.t L0) (fun h14 => ?_) (fun h14 => ?_)
           ·
            refine W.del (.dr .rf) (W.region ?_)
            refine WL.st (R.mv (.t L5)) rfl ?_
            refine WL.st (R.nc (.t L0)) rfl ?_
            refine WL.st (R.fao fo_127_3 (.t L0) (k := n2 * 5 + 3) rfl) rfl ?_
            refine WL.st (R.ld sc_3 (.t L0) H1 (w_frame hf (j := 3) rfl)) rfl ?_
            refine WL.st (R.add (.t L0) .c (wi (by omega) (by omega))) rfl ?_
            refine WL.st (R.nc (.t L4)) rfl ?_
            refine WL.st (R.fao fo_127_3 (.t L0) (k := n2 * 5 + 3) rfl) rfl ?_
            refine WL.sto sz_3 (.t L0) (.t L2) rfl rfl rfl C1 (wp_frame (f' := ⟨f.kind, f.items, f.rows, f.cells + 1, f.wide⟩) hf (j := 3) (by repeat constructor)) ?_
            refine WL.nil (QS.next (W.del (.dr (.dr (.dr (.dr (.dr (.dr (.dr .rf))))))) (W.seq (W.region ?_))))
            refine WL.as .c U4 rfl ?_
            refine WL.nil (QS.next (W.ret (QS.thenr (QS.blkr (QS.thenr ?_)))))
            exact QS.fin (.inl rfl) rfl (.tmp L4 .nil) () (by unfold innerS; dsimp only [zf]; (repeat (first | rw [if_pos (by omega)] | rw [if_neg (by omega)])); first | done | rfl | (rw [top_0]; rfl) | (try simp only [Nat.add_sub_cancel]; rw [top_1 hf]; dsimp only; (repeat (first | rw [if_pos (by omega)] | rw [if_neg (by omega)])); first | done | rfl)) (.dr (.kp (by unfold innerS; dsimp only [zf]; (repeat (first | rw [if_pos (by omega)] | rw [if_neg (by omega)])); first | done | rfl | (rw [top_0]; rfl) | (try simp only [Nat.add_sub_cancel]; rw [top_1 hf]; dsimp only; (repeat (first | rw [if_pos (by omega)] | rw [if_neg (by omega)])); first | done | rfl)) .nil)) (fun _ _ _ => trivial)
           ·
            refine W.del (.dr .rf) (W.skip (QS.next (W.seq (W.region ?_))))
            refine WL.as .c U4 rfl ?_
            refine WL.nil (QS.next (W.ret (QS.thenr (QS.blkr (QS.thenr ?_)))))
            exact QS.fin (.inl rfl) rfl (.tmp L4 .nil) () (by unfold innerS; dsimp only [zf]; (repeat (first | rw [if_pos (by omega)] | rw [if_neg (by omega)])); first | done | rfl | (rw [top_0]; rfl) | (try simp only [Nat.add_sub_cancel]; rw [top_1 hf]; dsimp only; (repeat (first | rw [if_pos (by omega)] | rw [if_neg (by omega)])); first | done | rfl)) (.dr (.kp (by unfold innerS; dsimp only [zf]; (repeat (first | rw [if_pos (by omega)] | rw [if_neg (by omega)])); first | done | rfl | (rw [top_0]; rfl) | (try simp only [Nat.add_sub_cancel]; rw [top_1 hf]; dsimp only; (repeat (first | rw [if_pos (by omega)] | rw [if_neg (by omega)])); first | done | rfl)) .nil)) (fun _ _ _ => trivial)
        ·
         refine W.del (.dr .rf) (W.skip (QS.next (W.exit (QS.blky rfl (QS.thenx (QS.blky rfl (QS.thenx (QS.blky rfl (QS.thenx (QS.blky rfl (QS.thenx (QS.blky rfl (QS.thenx (QS.blky rfl (QS.thenx (QS.blkx (QS.next (W.seq (W.region ?_)))))))))))))))))))
         refine WL.as .c U4 rfl ?_
         refine WL.nil (QS.next (W.ret ?_))
         exact QS.fin (.inl rfl) rfl (.tmp L4 .nil) () (by unfold innerS; dsimp only [zf]; (repeat (first | rw [if_pos (by omega)] | rw [if_neg (by omega)])); first | done | rfl | (rw [top_0]; rfl) | (try simp only [Nat.add_sub_cancel]; rw [top_1 hf]; dsimp only; (repeat (first | rw [if_pos (by omega)] | rw [if_neg (by omega)])); first | done | rfl)) (.dr (.kp (by unfold innerS; dsimp only [zf]; (repeat (first | rw [if_pos (by omega)] | rw [if_neg (by omega)])); first | done | rfl | (rw [top_0]; rfl) | (try simp only [Nat.add_sub_cancel]; rw [top_1 hf]; dsimp only; (repeat (first | rw [if_pos (by omega)] | rw [if_neg (by omega)])); first | done | rfl)) .nil)) (fun _ _ _ => trivial)

set_option maxHeartbeats 4000000 in
theorem walk_place_out {g : Nat} {st : List FrameS} {d : Nat} {p m li la : Int} {s : List UInt8} {sy tp : Int} {A : Option Addr} {c : Nat} {at_ long kind n : Int} {wd : List Int} {k : Nat} (ok : WOk ⟨st, d, p, m, li, la, s, sy, tp⟩ k) (hm : k ≤ 2097152) (hp : ¬ p = 1) {C : Cx} (hb : Hb C C.w0 [blk g 130 (wcells ⟨st, d, p, m, li, la, s, sy, tp⟩)] (fun _ => True)) :
    Ret1 Tryd.prog 67 [.pointer (some ⟨g, 0, none⟩), instrV ⟨at_, long, kind, n, wd⟩ A c] C (.bool (outerS ⟨st, d, p, m, li, la, s, sy, tp⟩ kind wd.length).1) (blk g 130 (wcells (outerS ⟨st, d, p, m, li, la, s, sy, tp⟩ kind wd.length).2)) := by
 obtain ⟨hk, ho, hi, hl, hfr⟩ := ok
 dsimp only at hk ho hi hl hfr
 obtain ⟨h01, h02⟩ := ho hp
 refine Sp.enter (N := 178) (e := entryEnv [.pointer (some ⟨g, 0, none⟩), .agg #[.int .i64 at_, .int .i64 long, .int .i64 kind, .int .i64 n, .slice A wd.length c]] 0 8) Tryd.func67 rfl rfl (Nat.le_of_ble_eq_true rfl) (entry_ok (Nat.le_of_ble_eq_true rfl) (Nat.le_of_ble_eq_true rfl)) (entry_nd _ _) hb ?_
 show W _ _ _ _ _ [(0, .pointer (some ⟨g, 0, none⟩)), (1, .agg #[.int .i64 at_, .int .i64 long, .int .i64 kind, .int .i64 n, .slice A wd.length c]), (2, undef), (3, undef), (4, undef), (5, undef), (6, undef), (7, undef)] _ _
 refine W.seq (W.region ?_)
 refine WL.boxu (.t L1) rfl (fun _ => U3) rfl (fun g3 => ?_)
 refine WL.as .c U4 rfl ?_
 refine WL.nil (QS.next (W.seq (W.seq (W.region ?_))))
 refine WL.st (R.mv (.t L0)) rfl ?_
 refine WL.st (R.nc (.t L0)) rfl ?_
 refine WL.st (R.fa fo_130_2 (.t L0)) rfl ?_
 refine WL.st (R.ld sc_3 (.t L0) H1 (w_para hk)) rfl ?_
 refine WL.st (R.eqi (.t L0) .c) rfl ?_
 refine WL.nil (QS.next (W.del (.kp (.dr (.dr (.dr (.dr .rf))))) ?_))
 refine W.cdf (.t L0) (by omega) ?_
 refine W.del (.dr .rf) (W.skip (QS.next (W.seq ?_)))
 rcases d with _ | n1
 ·
  refine W.region ?_
  refine WL.st (R.mv (.t L0)) rfl ?_
  refine WL.call1r gf_90 .f (.cons (.t L0) .nil) I1 (fun w ds hb => (walk_top hk (by omega) (hb.imp fun _ _ => trivial))) rfl ?_
  refine WL.rw L0 (v' := .pointer none) rfl U0 ?_
  refine WL.as (.t L0) U7 rfl ?_
  refine WL.nil (QS.next (W.del (.dr (.dr .rf)) (W.seq (W.region ?_))))
  refine WL.st (R.mv (.t L5)) rfl ?_
  refine WL.st (R.nenn pt_149 (.t L0)) rfl ?_
  refine WL.st (R.mv (.t L0)) rfl ?_
  refine WL.gn rfl L0 rfl ?_
  refine WL.gn rfl L1 rfl ?_
  refine WL.gn rfl L2 rfl ?_
  refine WL.gn rfl L3 rfl ?_
  refine WL.gn rfl L4 rfl ?_
  refine WL.st (R.pkf (.t L5) .c) rfl ?_
  refine WL.st (R.mv (.t L0)) rfl ?_
  refine WL.gn rfl L0 rfl ?_
  refine WL.gn rfl L1 rfl ?_
  refine WL.gn rfl L2 rfl ?_
  refine WL.gn rfl L3 rfl ?_
  refine WL.gn rfl L4 rfl ?_
  refine WL.st (R.pkf (.t L5) .c) rfl ?_
  refine WL.as (.t L0) (E1 (E1 U2)) rfl ?_
  refine WL.nil (QS.next (W.del (.dr (.dr (.dr (.dr (.dr (.dr (.dr (.dr (.dr (.dr (.dr (.dr (.dr (.dr (.dr (.dr .rf)))))))))))))))) (W.seq ?_)))
  refine W.draw 28 mixed (by kernel_rfl) ?_
  refine HD.st (R.mv (.t L5)) rfl ?_
  refine HD.st (R.nenn pt_149 (.t L0)) rfl ?_
  refine HD.st (R.mv (.t L0)) rfl ?_
  refine HD.gn rfl L0 rfl ?_
  refine HD.gn rfl L1 rfl ?_
  refine HD.gn rfl L2 rfl ?_
  refine HD.gn rfl L3 rfl ?_
  refine HD.gn rfl L4 rfl ?_
  refine HD.st (R.pkf (.t L5) .c) rfl ?_
  refine HD.st (R.mv (.t L0)) rfl ?_
  refine HD.gn rfl L0 rfl ?_
  refine HD.gn rfl L1 rfl ?_
  refine HD.gn rfl L2 rfl ?_
  refine HD.gn rfl L3 rfl ?_
  refine HD.gn rfl L4 rfl ?_
  refine HD.st (R.pkf (.t L5) .c) rfl ?_
  refine HD.st (R.mv (.t L0)) rfl ?_
  refine HD.gn rfl L0 rfl ?_
  refine HD.gn rfl L1 rfl ?_
  refine HD.gn rfl L2 rfl ?_
  refine HD.gn rfl L3 rfl ?_
  refine HD.gn rfl L4 rfl ?_
  refine HD.gn rfl L5 rfl ?_
  refine HD.gn rfl L6 rfl ?_
  refine HD.gn rfl L7 rfl ?_
  refine HD.gn rfl L8 rfl ?_
  refine HD.st (R.pkf (.t L9) .c) rfl ?_
  refine HD.up (R.as (.t L0)) (E1 (E1 (E1 U4))) rfl ?_
  refine HD.nil (WL.nil (QS.next (W.del (.dr (.dr (.dr (.dr (.dr (.dr (.dr (.dr (.dr (.dr (.dr (.dr (.dr (.dr (.dr (.dr (.dr (.dr (.dr (.dr (.dr (.dr (.dr (.dr (.dr (.dr (.dr .rf))))))))))))))))))))))))))) (W.seq (W.seq (W.region ?_))))))
  refine WL.st (R.fa fo_59_2 (.t L3)) rfl ?_
  refine WL.st (R.ld sc_57 (.t L0) H0 rfl) rfl ?_
  refine WL.nil (QS.next (W.del (.kp (.dr .rf)) (W.block (W.seq (W.region ?_)))))
  refine WL.st (R.eqi (.t L0) .c) rfl ?_
  refine WL.st (R.as (.t L0)) rfl ?_
  refine WL.nil (QS.next (W.del (.kp (.dr .rf)) ?_))
  refine W.cd (.t L0) (fun h1 => ?_) (fun h1 => ?_)
  ·
   refine W.del (.dr (.dr .rf)) (W.seq (W.region ?_))
   refine WL.st (R.mv (.t L5)) rfl ?_
   refine WL.st (R.eqnn pt_149 (.t L0)) rfl ?_
   refine WL.as (.t L0) U6 rfl ?_
   refine WL.nil (QS.next (W.del (.dr (.dr .rf)) (W.ret (QS.blkr (QS.thenr ?_)))))
   exact QS.fin (.inl rfl) rfl (.tmp L4 .nil) () (by first | (exfalso; omega) | (unfold outerS; (first | rw [top_0] | rw [top_1 hf]); dsimp only [zf]; (repeat (first | rw [if_pos (by omega)] | rw [if_neg (by omega)])); first | done | rfl | (rw [List.set_set]; rfl))) (.dr (.kp (by first | (exfalso; omega) | (unfold outerS; (first | rw [top_0] | rw [top_1 hf]); dsimp only [zf]; (repeat (first | rw [if_pos (by omega)] | rw [if_neg (by omega)])); first | done | rfl | (rw [List.set_set]; rfl))) .nil)) (fun _ _ _ => trivial)
  ·
   refine W.del (.dr .rf) (W.seq (W.region ?_))
   refine WL.st (R.eqi (.t L0) .c) rfl ?_
   refine WL.st (R.as (.t L0)) rfl ?_
   refine WL.nil (QS.next (W.del (.kp (.dr .rf)) ?_))
   refine W.cd (.t L0) (fun h2 => ?_) (fun h2 => ?_)
   ·
    refine W.del (.dr (.dr .rf)) (W.seq (W.seq (W.region ?_)))
    refine WL.st (R.mv (.t L5)) rfl ?_
    refine WL.st (R.nenn pt_149 (.t L0)) rfl ?_
    refine WL.st (R.mv (.t L0)) rfl ?_
    refine WL.gn rfl L0 rfl ?_
    refine WL.gn rfl L1 rfl ?_
    refine WL.st (R.pkf (.t L2) .c) rfl ?_
    refine WL.st (R.mv (.t L0)) rfl ?_
    refine WL.gn rfl L0 rfl ?_
    refine WL.gn rfl L1 rfl ?_
    refine WL.st (R.pkf (.t L2) .c) rfl ?_
    refine WL.nil (QS.next (W.del (.kp (.dr (.dr (.dr (.dr (.dr (.dr (.dr (.dr (.dr .rf)))))))))) (W.cf (.t L0) (W.del (.dr .rf) (W.skip (QS.next (W.seq (W.region ?_))))))))
    refine WL.st (R.mv (.t L0)) rfl ?_
    refine WL.st (R.fa fo_59_2 (.t L4)) rfl ?_
    refine WL.st (R.ld sc_57 (.t L0) H0 rfl) rfl ?_
    refine WL.st (R.bld (z := [.int .i64 0, .int .i64 0, .int .i64 0, .int .i64 0, .int .i64 0]) Tryd.underlying127 (by kernel_rfl) z_127 (.cons fo_127_0 fz_127_0 rfl (.t L0) rfl (by repeat constructor) .nil)) rfl ?_
    refine WL.call1r gf_91 .f (.cons (.t L3) (.cons (.t L0) .nil)) I1 (fun w ds hb => (walk_push (f := zf kind 0) hk (by omega) (hb.imp fun _ _ => trivial))) rfl ?_
    have hk0 := hk
    replace hk : (st.set (0) (zf kind 0)).length = 32 := by simpa using hk0
    refine WL.nil (QS.next (W.del (.dr (.dr (.dr (.dr (.dr .rf))))) (W.region ?_)))
    refine WL.st (R.mv (.t L0)) rfl ?_
    refine WL.st (R.nc (.t L0)) rfl ?_
    refine WL.st (R.fa fo_130_2 (.t L0)) rfl ?_
    refine WL.sto sz_3 (.t L0) .c rfl rfl rfl C1 (wp_para hk) ?_
    refine WL.nil (QS.blkn (QS.next (W.del (.dr (.dr (.dr .rf))) (W.seq (W.region ?_)))))
    refine WL.as .c U4 rfl ?_
    refine WL.nil (QS.next (W.ret ?_))
    exact QS.fin (.inl rfl) rfl (.tmp L4 .nil) () (by first | (exfalso; omega) | (unfold outerS; (first | rw [top_0] | rw [top_1 hf]); dsimp only [zf]; (repeat (first | rw [if_pos (by omega)] | rw [if_neg (by omega)])); first | done | rfl | (rw [List.set_set]; rfl))) (.dr (.kp (by first | (exfalso; omega) | (unfold outerS; (first | rw [top_0] | rw [top_1 hf]); dsimp only [zf]; (repeat (first | rw [if_pos (by omega)] | rw [if_neg (by omega)])); first | done | rfl | (rw [List.set_set]; rfl))) .nil)) (fun _ _ _ => trivial)
   ·
    refine W.del (.dr .rf) (W.seq (W.region ?_))
    refine WL.st (R.eqi (.t L0) .c) rfl ?_
    refine WL.st (R.as (.t L0)) rfl ?_
    refine WL.nil (QS.next (W.del (.kp (.dr .rf)) ?_))
    refine W.cd (.t L0) (fun h4 => ?_) (fun h4 => ?_)
    ·
     refine W.del (.dr (.dr .rf)) (W.seq (W.seq (W.region ?_)))
     refine WL.st (R.mv (.t L5)) rfl ?_
     refine WL.st (R.nenn pt_149 (.t L0)) rfl ?_
     refine WL.st (R.mv (.t L0)) rfl ?_
     refine WL.gn rfl L0 rfl ?_
     refine WL.gn rfl L1 rfl ?_
     refine WL.st (R.pkf (.t L2) .c) rfl ?_
     refine WL.st (R.mv (.t L0)) rfl ?_
     refine WL.gy rfl L0 (R.mv (.t L7)) rfl ?_
     refine WL.gy rfl L1 (R.nc (.t L0)) rfl ?_
     refine WL.gy rfl L2 (R.fa fo_130_1 (.t L0)) rfl ?_
     refine WL.gy rfl L3 (R.ld sc_3 (.t L0) H1 (w_depth hk)) rfl ?_
     refine WL.gy rfl L4 (R.geq (.t L0) .c) rfl ?_
     refine WL.st (R.pkf (.t L5) (.t L0)) rfl ?_
     refine WL.nil (QS.next (W.del (.kp (.dr (.dr (.dr (.dr (.dr (.dr (.dr (.dr (.dr (.dr (.dr (.dr .rf))))))))))))) ?_))
     refine W.cd (.t L0) (fun h5 => ?_) (fun h5 => ?_)
     ·
      refine W.del (.dr .rf) (W.seq (W.region ?_))
      refine WL.as .c U4 rfl ?_
      refine WL.nil (QS.next (W.ret (QS.thenr (QS.blkr (QS.thenr ?_)))))
      exact QS.fin (.inl rfl) rfl (.tmp L4 .nil) () (by first | (exfalso; omega) | (unfold outerS; (first | rw [top_0] | rw [top_1 hf]); dsimp only [zf]; (repeat (first | rw [if_pos (by omega)] | rw [if_neg (by omega)])); first | done | rfl | (rw [List.set_set]; rfl))) (.dr (.kp (by first | (exfalso; omega) | (unfold outerS; (first | rw [top_0] | rw [top_1 hf]); dsimp only [zf]; (repeat (first | rw [if_pos (by omega)] | rw [if_neg (by omega)])); first | done | rfl | (rw [List.set_set]; rfl))) .nil)) (fun _ _ _ => trivial)
     ·
      refine W.del (.dr .rf) (W.skip (QS.next (W.region ?_)))
      refine WL.st (R.mv (.t L0)) rfl ?_
      refine WL.st (R.fa fo_59_2 (.t L4)) rfl ?_
      refine WL.st (R.ld sc_57 (.t L0) H0 rfl) rfl ?_
      refine WL.st (R.bld (z := [.int .i64 0, .int .i64 0, .int .i64 0, .int .i64 0, .int .i64 0]) Tryd.underlying127 (by kernel_rfl) z_127 (.cons fo_127_0 fz_127_0 rfl (.t L0) rfl (by repeat constructor) .nil)) rfl ?_
      refine WL.call1r gf_91 .f (.cons (.t L3) (.cons (.t L0) .nil)) I1 (fun w ds hb => (walk_push (f := zf kind 0) hk (by omega) (hb.imp fun _ _ => trivial))) rfl ?_
      have hk0 := hk
      replace hk : (st.set (0) (zf kind 0)).length = 32 := by simpa using hk0
      refine WL.nil (QS.blkn (QS.next (W.del (.dr (.dr (.dr (.dr (.dr .rf))))) (W.seq (W.region ?_)))))
      refine WL.as .c U4 rfl ?_
      refine WL.nil (QS.next (W.ret ?_))
      exact QS.fin (.inl rfl) rfl (.tmp L4 .nil) () (by first | (exfalso; omega) | (unfold outerS; (first | rw [top_0] | rw [top_1 hf]); dsimp only [zf]; (repeat (first | rw [if_pos (by omega)] | rw [if_neg (by omega)])); first | done | rfl | (rw [List.set_set]; rfl))) (.dr (.kp (by first | (exfalso; omega) | (unfold outerS; (first | rw [top_0] | rw [top_1 hf]); dsimp only [zf]; (repeat (first | rw [if_pos (by omega)] | rw [if_neg (by omega)])); first | done | rfl | (rw [List.set_set]; rfl))) .nil)) (fun _ _ _ => trivial)
    ·
     refine W.del (.dr .rf) (W.seq (W.region ?_))
     refine WL.st (R.eqi (.t L0) .c) rfl ?_
     refine WL.st (R.as (.t L0)) rfl ?_
     refine WL.nil (QS.next (W.del (.kp (.dr .rf)) ?_))
     refine W.cd (.t L0) (fun h6 => ?_) (fun h6 => ?_)
     ·
      refine W.del (.dr (.dr .rf)) (W.seq (W.seq (W.region ?_)))
      refine WL.st (R.mv (.t L5)) rfl ?_
      refine WL.st (R.eqnn pt_149 (.t L0)) rfl ?_
      refine WL.st (R.mv (.t L0)) rfl ?_
      refine WL.gn rfl L0 rfl ?_
      refine WL.gn rfl L1 rfl ?_
      refine WL.gn rfl L2 rfl ?_
      refine WL.gn rfl L3 rfl ?_
      refine WL.gn rfl L4 rfl ?_
      refine WL.st (R.pkt (.t L5) .c) rfl ?_
      refine WL.nil (QS.next (W.del (.kp (.dr (.dr (.dr (.dr (.dr (.dr (.dr (.dr .rf))))))))) (W.ct (.t L0) (W.del (.dr .rf) (W.seq (W.region ?_))))))
      refine WL.as .c U4 rfl ?_
      refine WL.nil (QS.next (W.ret (QS.thenr (QS.blkr (QS.thenr ?_)))))
      exact QS.fin (.inl rfl) rfl (.tmp L4 .nil) () (by first | (exfalso; omega) | (unfold outerS; (first | rw [top_0] | rw [top_1 hf]); dsimp only [zf]; (repeat (first | rw [if_pos (by omega)] | rw [if_neg (by omega)])); first | done | rfl | (rw [List.set_set]; rfl))) (.dr (.kp (by first | (exfalso; omega) | (unfold outerS; (first | rw [top_0] | rw [top_1 hf]); dsimp only [zf]; (repeat (first | rw [if_pos (by omega)] | rw [if_neg (by omega)])); first | done | rfl | (rw [List.set_set]; rfl))) .nil)) (fun _ _ _ => trivial)
     ·
      refine W.del (.dr .rf) (W.seq (W.region ?_))
      refine WL.st (R.eqi (.t L0) .c) rfl ?_
      refine WL.st (R.as (.t L0)) rfl ?_
      refine WL.nil (QS.next (W.del (.kp (.dr .rf)) ?_))
      refine W.cd (.t L0) (fun h8 => ?_) (fun h8 => ?_)
      ·
       refine W.del (.dr (.dr .rf)) (W.seq (W.seq (W.region ?_)))
       refine WL.st (R.mv (.t L5)) rfl ?_
       refine WL.st (R.nenn pt_149 (.t L0)) rfl ?_
       refine WL.nil (QS.next (W.del (.kp (.dr .rf)) (W.cf (.t L0) (W.del (.dr .rf) (W.skip (QS.next (W.region ?_)))))))
       refine WL.st (R.mv (.t L0)) rfl ?_
       refine WL.st (R.fa fo_59_2 (.t L4)) rfl ?_
       refine WL.st (R.ld sc_57 (.t L0) H0 rfl) rfl ?_
       refine WL.st (R.fa fo_59_4 (.t L6)) rfl ?_
       refine WL.st (R.ld sc_37 (.t L0) H0 rfl) rfl ?_
       refine WL.st (R.lenl sl_37 (.t L0)) rfl ?_
       refine WL.st (R.bld (z := [.int .i64 0, .int .i64 0, .int .i64 0, .int .i64 0, .int .i64 0]) Tryd.underlying127 (by kernel_rfl) z_127 (.cons fo_127_0 fz_127_0 rfl (.t L3) rfl (by repeat constructor) (.cons fo_127_4 fz_127_4 rfl (.t L0) rfl (by repeat constructor) .nil))) rfl ?_
       refine WL.call1r gf_91 .f (.cons (.t L6) (.cons (.t L0) .nil)) I1 (fun w ds hb => (walk_push (f := zf kind wd.length) hk (by omega) (hb.imp fun _ _ => trivial))) rfl ?_
       have hk0 := hk
       replace hk : (st.set (0) (zf kind wd.length)).length = 32 := by simpa using hk0
       refine WL.nil (QS.blkn (QS.next (W.del (.dr (.dr (.dr (.dr (.dr (.dr (.dr (.dr .rf)))))))) (W.seq (W.region ?_)))))
       refine WL.as .c U4 rfl ?_
       refine WL.nil (QS.next (W.ret ?_))
       exact QS.fin (.inl rfl) rfl (.tmp L4 .nil) () (by first | (exfalso; omega) | (unfold outerS; (first | rw [top_0] | rw [top_1 hf]); dsimp only [zf]; (repeat (first | rw [if_pos (by omega)] | rw [if_neg (by omega)])); first | done | rfl | (rw [List.set_set]; rfl))) (.dr (.kp (by first | (exfalso; omega) | (unfold outerS; (first | rw [top_0] | rw [top_1 hf]); dsimp only [zf]; (repeat (first | rw [if_pos (by omega)] | rw [if_neg (by omega)])); first | done | rfl | (rw [List.set_set]; rfl))) .nil)) (fun _ _ _ => trivial)
      ·
       refine W.del (.dr .rf) (W.seq (W.seq (W.region ?_)))
       refine WL.st (R.eqi (.t L0) .c) rfl ?_
       refine WL.st (R.as (.t L0)) rfl ?_
       refine WL.nil (QS.next (W.del (.kp (.dr .rf)) ?_))
       refine W.cd (.t L0) (fun h10 => ?_) (fun h10 => ?_)
       ·
        refine W.del (.kp (.dr .rf)) (W.skip (QS.next ?_))
        refine W.cdt (.t L0) h10 ?_
        refine W.del (.dr .rf) (W.seq (W.seq (W.region ?_)))
        refine WL.st (R.mv (.t L5)) rfl ?_
        refine WL.st (R.eqnn pt_149 (.t L0)) rfl ?_
        refine WL.st (R.mv (.t L0)) rfl ?_
        refine WL.gn rfl L0 rfl ?_
        refine WL.st (R.pkt (.t L1) .c) rfl ?_
        refine WL.st (R.mv (.t L0)) rfl ?_
        refine WL.gn rfl L0 rfl ?_
        refine WL.gn rfl L1 rfl ?_
        refine WL.gn rfl L2 rfl ?_
        refine WL.gn rfl L3 rfl ?_
        refine WL.gu rfl L0 rfl ?_
        refine WL.gu rfl L1 rfl ?_
        refine WL.gu rfl L2 rfl ?_
        refine WL.gu rfl L3 rfl ?_
        refine WL.gu rfl L4 rfl ?_
        refine WL.gn rfl L9 rfl ?_
        refine WL.st (R.pkt (.t (D1 L0)) .c) rfl ?_
        refine WL.nil (QS.next (W.del (.kp (.dr (.dr (.dr (.dr (.dr (.dr (.dr (.dr (.dr (.dr (.dr (.dr (.dr (.dr (.dr (.dr .rf))))))))))))))))) (W.ct (.t L0) (W.del (.dr .rf) (W.seq (W.region ?_))))))
        refine WL.as .c U4 rfl ?_
        refine WL.nil (QS.next (W.ret (QS.thenr (QS.blkr (QS.thenr ?_)))))
        exact QS.fin (.inl rfl) rfl (.tmp L4 .nil) () (by first | (exfalso; omega) | (unfold outerS; (first | rw [top_0] | rw [top_1 hf]); dsimp only [zf]; (repeat (first | rw [if_pos (by omega)] | rw [if_neg (by omega)])); first | done | rfl | (rw [List.set_set]; rfl))) (.dr (.kp (by first | (exfalso; omega) | (unfold outerS; (first | rw [top_0] | rw [top_1 hf]); dsimp only [zf]; (repeat (first | rw [if_pos (by omega)] | rw [if_neg (by omega)])); first | done | rfl | (rw [List.set_set]; rfl))) .nil)) (fun _ _ _ => trivial)
       ·
        refine W.region ?_
        refine WL.st (R.eqi (.t L1) .c) rfl ?_
        refine WL.as (.t L0) U1 rfl ?_
        refine WL.nil (QS.next (W.del (.dr (.kp (.dr .rf))) ?_))
        refine W.cd (.t L0) (fun h11 => ?_) (fun h11 => ?_)
        ·
         refine W.del (.dr .rf) (W.seq (W.seq (W.region ?_)))
         refine WL.st (R.mv (.t L5)) rfl ?_
         refine WL.st (R.eqnn pt_149 (.t L0)) rfl ?_
         refine WL.st (R.mv (.t L0)) rfl ?_
         refine WL.gn rfl L0 rfl ?_
         refine WL.st (R.pkt (.t L1) .c) rfl ?_
         refine WL.st (R.mv (.t L0)) rfl ?_
         refine WL.gn rfl L0 rfl ?_
         refine WL.gn rfl L1 rfl ?_
         refine WL.gn rfl L2 rfl ?_
         refine WL.gn rfl L3 rfl ?_
         refine WL.gu rfl L0 rfl ?_
         refine WL.gu rfl L1 rfl ?_
         refine WL.gu rfl L2 rfl ?_
         refine WL.gu rfl L3 rfl ?_
         refine WL.gu rfl L4 rfl ?_
         refine WL.gn rfl L9 rfl ?_
         refine WL.st (R.pkt (.t (D1 L0)) .c) rfl ?_
         refine WL.nil (QS.next (W.del (.kp (.dr (.dr (.dr (.dr (.dr (.dr (.dr (.dr (.dr (.dr (.dr (.dr (.dr (.dr (.dr (.dr .rf))))))))))))))))) (W.ct (.t L0) (W.del (.dr .rf) (W.seq (W.region ?_))))))
         refine WL.as .c U4 rfl ?_
         refine WL.nil (QS.next (W.ret (QS.thenr (QS.blkr (QS.thenr ?_)))))
         exact QS.fin (.inl rfl) rfl (.tmp L4 .nil) () (by first | (exfalso; omega) | (unfold outerS; (first | rw [top_0] | rw [top_1 hf]); dsimp only [zf]; (repeat (first | rw [if_pos (by omega)] | rw [if_neg (by omega)])); first | done | rfl | (rw [List.set_set]; rfl))) (.dr (.kp (by first | (exfalso; omega) | (unfold outerS; (first | rw [top_0] | rw [top_1 hf]); dsimp only [zf]; (repeat (first | rw [if_pos (by omega)] | rw [if_neg (by omega)])); first | done | rfl | (rw [List.set_set]; rfl))) .nil)) (fun _ _ _ => trivial)
        ·
         refine W.del (.dr .rf) (W.seq (W.region ?_))
         refine WL.as .c U4 rfl ?_
         refine WL.nil (QS.next (W.ret (QS.blkr (QS.thenr ?_))))
         exact QS.fin (.inl rfl) rfl (.tmp L4 .nil) () (by first | (exfalso; omega) | (unfold outerS; (first | rw [top_0] | rw [top_1 hf]); dsimp only [zf]; (repeat (first | rw [if_pos (by omega)] | rw [if_neg (by omega)])); first | done | rfl | (rw [List.set_set]; rfl))) (.dr (.kp (by first | (exfalso; omega) | (unfold outerS; (first | rw [top_0] | rw [top_1 hf]); dsimp only [zf]; (repeat (first | rw [if_pos (by omega)] | rw [if_neg (by omega)])); first | done | rfl | (rw [List.set_set]; rfl))) .nil)) (fun _ _ _ => trivial)
 ·
  obtain ⟨f, hf⟩ : ∃ f, st[n1]? = some f := ⟨_, List.getElem?_eq_getElem (by omega)⟩
  have hfb := hfr f (List.mem_of_getElem? hf)
  refine W.region ?_
  refine WL.st (R.mv (.t L0)) rfl ?_
  refine WL.call1r gf_90 .f (.cons (.t L0) .nil) I1 (fun w ds hb => (walk_top hk (by omega) (hb.imp fun _ _ => trivial))) rfl ?_
  refine WL.rw L0 (v' := .pointer (some ⟨g, n1 * 5, none⟩)) rfl U0 ?_
  refine WL.as (.t L0) U7 rfl ?_
  refine WL.nil (QS.next (W.del (.dr (.dr .rf)) (W.seq (W.region ?_))))
  refine WL.st (R.mv (.t L5)) rfl ?_
  refine WL.st (R.nepn pt_149 (.t L0)) rfl ?_
  refine WL.st (R.mv (.t L0)) rfl ?_
  refine WL.gy rfl L0 (R.mv (.t L8)) rfl ?_
  refine WL.gy rfl L1 (R.nc (.t L0)) rfl ?_
  refine WL.gy rfl L2 (R.fao fo_127_0 (.t L0) (k := n1 * 5 + 0) rfl) rfl ?_
  refine WL.gy rfl L3 (R.ld sc_57 (.t L0) H1 (w_frame hf (j := 0) rfl)) rfl ?_
  refine WL.gy rfl L4 (R.eqi (.t L0) .c) rfl ?_
  refine WL.st (R.pkt (.t L5) (.t L0)) rfl ?_
  refine WL.st (R.mv (.t L0)) rfl ?_
  refine WL.cd L0 U0 U0 (fun hg27 => ?_) (fun hg27 => ?_)
  ·
   refine WL.gy rfl L0 (R.mv (.t (D1 L5))) rfl ?_
   refine WL.gy rfl L1 (R.nc (.t L0)) rfl ?_
   refine WL.gy rfl L2 (R.fao fo_127_1 (.t L0) (k := n1 * 5 + 1) rfl) rfl ?_
   refine WL.gy rfl L3 (R.ld sc_3 (.t L0) H1 (w_frame hf (j := 1) rfl)) rfl ?_
   refine WL.gy rfl L4 (R.gtr (.t L0) .c) rfl ?_
   refine WL.st (R.pkt (.t L5) (.t L0)) rfl ?_
   refine WL.as (.t L0) (E1 (E1 U2)) rfl ?_
   refine WL.nil (QS.next (W.del (.dr (.dr (.dr (.dr (.dr (.dr (.dr (.dr (.dr (.dr (.dr (.dr (.dr (.dr (.dr (.dr .rf)))))))))))))))) (W.seq ?_)))
   refine W.draw 28 mixed (by kernel_rfl) ?_
   refine HD.st (R.mv (.t L5)) rfl ?_
   refine HD.st (R.nepn pt_149 (.t L0)) rfl ?_
   refine HD.st (R.mv (.t L0)) rfl ?_
   refine HD.gy rfl L0 (R.mv (.t L8)) rfl ?_
   refine HD.gy rfl L1 (R.nc (.t L0)) rfl ?_
   refine HD.gy rfl L2 (R.fao fo_127_0 (.t L0) (k := n1 * 5 + 0) rfl) rfl ?_
   refine HD.gy rfl L3 (R.ld sc_57 (.t L0) H1 (w_frame hf (j := 0) rfl)) rfl ?_
   refine HD.gy rfl L4 (R.eqi (.t L0) .c) rfl ?_
   refine HD.st (R.pkt (.t L5) (.t L0)) rfl ?_
   refine HD.st (R.mv (.t L0)) rfl ?_
   refine HD.cd L0 U0 U0 (fun hg43 => ?_) (fun hg43 => ?_)
   ·
    exfalso; omega
   ·
    refine HD.gn rfl L0 rfl ?_
    refine HD.gn rfl L1 rfl ?_
    refine HD.gn rfl L2 rfl ?_
    refine HD.gn rfl L3 rfl ?_
    refine HD.gn rfl L4 rfl ?_
    refine HD.st (R.pkf (.t L5) .c) rfl ?_
    refine HD.st (R.mv (.t L0)) rfl ?_
    refine HD.gn rfl L0 rfl ?_
    refine HD.gn rfl L1 rfl ?_
    refine HD.gn rfl L2 rfl ?_
    refine HD.gn rfl L3 rfl ?_
    refine HD.gn rfl L4 rfl ?_
    refine HD.gn rfl L5 rfl ?_
    refine HD.gn rfl L6 rfl ?_
    refine HD.gn rfl L7 rfl ?_
    refine HD.gn rfl L8 rfl ?_
    refine HD.st (R.pkf (.t L9) .c) rfl ?_
    refine HD.up (R.as (.t L0)) (E1 (E1 (E1 U4))) rfl ?_
    refine HD.nil (WL.nil (QS.next (W.del (.dr (.dr (.dr (.dr (.dr (.dr (.dr (.dr (.dr (.dr (.dr (.dr (.dr (.dr (.dr (.dr (.dr (.dr (.dr (.dr (.dr (.dr (.dr (.dr (.dr (.dr (.dr .rf))))))))))))))))))))))))))) (W.seq (W.seq (W.region ?_))))))
    refine WL.st (R.fa fo_59_2 (.t L3)) rfl ?_
    rcases Classical.em (0 < f.items) with hx | hx
    ·
     have hit : 0 < f.items := by omega
     refine WL.rw L7 (v' := .bool true) (congrArg Value.bool (decide_eq_true (by omega))) U7 ?_
     refine WL.st (R.ld sc_57 (.t L0) H0 rfl) rfl ?_
     refine WL.nil (QS.next (W.del (.kp (.dr .rf)) (W.block (W.seq (W.region ?_)))))
     refine WL.st (R.eqi (.t L0) .c) rfl ?_
     refine WL.st (R.as (.t L0)) rfl ?_
     refine WL.nil (QS.next (W.del (.kp (.dr .rf)) ?_))
     refine W.cd (.t L0) (fun h1 => ?_) (fun h1 => ?_)
     ·
      refine W.del (.dr (.dr .rf)) (W.seq (W.region ?_))
      refine WL.st (R.mv (.t L5)) rfl ?_
      refine WL.st (R.eqpn pt_149 (.t L0)) rfl ?_
      refine WL.as (.t L0) U6 rfl ?_
      refine WL.nil (QS.next (W.del (.dr (.dr .rf)) (W.ret (QS.blkr (QS.thenr ?_)))))
      exact QS.fin (.inl rfl) rfl (.tmp L4 .nil) () (by first | (exfalso; omega) | (unfold outerS; (first | rw [top_0] | rw [top_1 hf]); dsimp only [zf]; (repeat (first | rw [if_pos (by omega)] | rw [if_neg (by omega)])); first | done | rfl | (rw [List.set_set]; rfl))) (.dr (.kp (by first | (exfalso; omega) | (unfold outerS; (first | rw [top_0] | rw [top_1 hf]); dsimp only [zf]; (repeat (first | rw [if_pos (by omega)] | rw [if_neg (by omega)])); first | done | rfl | (rw [List.set_set]; rfl))) .nil)) (fun _ _ _ => trivial)
     ·
      refine W.del (.dr .rf) (W.seq (W.region ?_))
      refine WL.st (R.eqi (.t L0) .c) rfl ?_
      refine WL.st (R.as (.t L0)) rfl ?_
      refine WL.nil (QS.next (W.del (.kp (.dr .rf)) ?_))
      refine W.cd (.t L0) (fun h2 => ?_) (fun h2 => ?_)
      ·
       refine W.del (.dr (.dr .rf)) (W.seq (W.seq (W.region ?_)))
       refine WL.st (R.mv (.t L5)) rfl ?_
       refine WL.st (R.nepn pt_149 (.t L0)) rfl ?_
       refine WL.st (R.mv (.t L0)) rfl ?_
       refine WL.gy rfl L0 (R.mv (.t L9)) rfl ?_
       refine WL.gy rfl L1 (R.notb (.t L0)) rfl ?_
       refine WL.st (R.pkt (.t L2) (.t L0)) rfl ?_
       refine WL.st (R.mv (.t L0)) rfl ?_
       refine WL.gn rfl L0 rfl ?_
       refine WL.gn rfl L1 rfl ?_
       refine WL.st (R.pkf (.t L2) .c) rfl ?_
       refine WL.nil (QS.next (W.del (.kp (.dr (.dr (.dr (.dr (.dr (.dr (.dr (.dr (.dr .rf)))))))))) (W.cf (.t L0) (W.del (.dr .rf) (W.skip (QS.next (W.seq (W.region ?_))))))))
       refine WL.st (R.mv (.t L0)) rfl ?_
       refine WL.st (R.fa fo_59_2 (.t L4)) rfl ?_
       refine WL.st (R.ld sc_57 (.t L0) H0 rfl) rfl ?_
       refine WL.st (R.bld (z := [.int .i64 0, .int .i64 0, .int .i64 0, .int .i64 0, .int .i64 0]) Tryd.underlying127 (by kernel_rfl) z_127 (.cons fo_127_0 fz_127_0 rfl (.t L0) rfl (by repeat constructor) .nil)) rfl ?_
       refine WL.call1r gf_91 .f (.cons (.t L3) (.cons (.t L0) .nil)) I1 (fun w ds hb => (walk_push (f := zf kind 0) hk (by omega) (hb.imp fun _ _ => trivial))) rfl ?_
       have hk0 := hk
       replace hk : (st.set (n1 + 1) (zf kind 0)).length = 32 := by simpa using hk0
       refine WL.nil (QS.next (W.del (.dr (.dr (.dr (.dr (.dr .rf))))) (W.region ?_)))
       refine WL.st (R.mv (.t L0)) rfl ?_
       refine WL.st (R.nc (.t L0)) rfl ?_
       refine WL.st (R.fa fo_130_2 (.t L0)) rfl ?_
       refine WL.sto sz_3 (.t L0) .c rfl rfl rfl C1 (wp_para hk) ?_
       refine WL.nil (QS.blkn (QS.next (W.del (.dr (.dr (.dr .rf))) (W.seq (W.region ?_)))))
       refine WL.as .c U4 rfl ?_
       refine WL.nil (QS.next (W.ret ?_))
       exact QS.fin (.inl rfl) rfl (.tmp L4 .nil) () (by first | (exfalso; omega) | (unfold outerS; (first | rw [top_0] | rw [top_1 hf]); dsimp only [zf]; (repeat (first | rw [if_pos (by omega)] | rw [if_neg (by omega)])); first | done | rfl | (rw [List.set_set]; rfl))) (.dr (.kp (by first | (exfalso; omega) | (unfold outerS; (first | rw [top_0] | rw [top_1 hf]); dsimp only [zf]; (repeat (first | rw [if_pos (by omega)] | rw [if_neg (by omega)])); first | done | rfl | (rw [List.set_set]; rfl))) .nil)) (fun _ _ _ => trivial)
      ·
       refine W.del (.dr .rf) (W.seq (W.region ?_))
       refine WL.st (R.eqi (.t L0) .c) rfl ?_
       refine WL.st (R.as (.t L0)) rfl ?_
       refine WL.nil (QS.next (W.del (.kp (.dr .rf)) ?_))
       refine W.cd (.t L0) (fun h4 => ?_) (fun h4 => ?_)
       ·
        refine W.del (.dr (.dr .rf)) (W.seq (W.seq (W.region ?_)))
        refine WL.st (R.mv (.t L5)) rfl ?_
        refine WL.st (R.nepn pt_149 (.t L0)) rfl ?_
        refine WL.st (R.mv (.t L0)) rfl ?_
        refine WL.gy rfl L0 (R.mv (.t L9)) rfl ?_
        refine WL.gy rfl L1 (R.notb (.t L0)) rfl ?_
        refine WL.st (R.pkt (.t L2) (.t L0)) rfl ?_
        refine WL.st (R.mv (.t L0)) rfl ?_
        refine WL.gy rfl L0 (R.mv (.t L7)) rfl ?_
        refine WL.gy rfl L1 (R.nc (.t L0)) rfl ?_
        refine WL.gy rfl L2 (R.fa fo_130_1 (.t L0)) rfl ?_
        refine WL.gy rfl L3 (R.ld sc_3 (.t L0) H1 (w_depth hk)) rfl ?_
        refine WL.gy rfl L4 (R.geq (.t L0) .c) rfl ?_
        refine WL.st (R.pkf (.t L5) (.t L0)) rfl ?_
        refine WL.nil (QS.next (W.del (.kp (.dr (.dr (.dr (.dr (.dr (.dr (.dr (.dr (.dr (.dr (.dr (.dr .rf))))))))))))) ?_))
        refine W.cd (.t L0) (fun h5 => ?_) (fun h5 => ?_)
        ·
         refine W.del (.dr .rf) (W.seq (W.region ?_))
         refine WL.as .c U4 rfl ?_
         refine WL.nil (QS.next (W.ret (QS.thenr (QS.blkr (QS.thenr ?_)))))
         exact QS.fin (.inl rfl) rfl (.tmp L4 .nil) () (by first | (exfalso; omega) | (unfold outerS; (first | rw [top_0] | rw [top_1 hf]); dsimp only [zf]; (repeat (first | rw [if_pos (by omega)] | rw [if_neg (by omega)])); first | done | rfl | (rw [List.set_set]; rfl))) (.dr (.kp (by first | (exfalso; omega) | (unfold outerS; (first | rw [top_0] | rw [top_1 hf]); dsimp only [zf]; (repeat (first | rw [if_pos (by omega)] | rw [if_neg (by omega)])); first | done | rfl | (rw [List.set_set]; rfl))) .nil)) (fun _ _ _ => trivial)
        ·
         refine W.del (.dr .rf) (W.skip (QS.next (W.region ?_)))
         refine WL.st (R.mv (.t L0)) rfl ?_
         refine WL.st (R.fa fo_59_2 (.t L4)) rfl ?_
         refine WL.st (R.ld sc_57 (.t L0) H0 rfl) rfl ?_
         refine WL.st (R.bld (z := [.int .i64 0, .int .i64 0, .int .i64 0, .int .i64 0, .int .i64 0]) Tryd.underlying127 (by kernel_rfl) z_127 (.cons fo_127_0 fz_127_0 rfl (.t L0) rfl (by repeat constructor) .nil)) rfl ?_
         refine WL.call1r gf_91 .f (.cons (.t L3) (.cons (.t L0) .nil)) I1 (fun w ds hb => (walk_push (f := zf kind 0) hk (by omega) (hb.imp fun _ _ => trivial))) rfl ?_
         have hk0 := hk
         replace hk : (st.set (n1 + 1) (zf kind 0)).length = 32 := by simpa using hk0
         refine WL.nil (QS.blkn (QS.next (W.del (.dr (.dr (.dr (.dr (.dr .rf))))) (W.seq (W.region ?_)))))
         refine WL.as .c U4 rfl ?_
         refine WL.nil (QS.next (W.ret ?_))
         exact QS.fin (.inl rfl) rfl (.tmp L4 .nil) () (by first | (exfalso; omega) | (unfold outerS; (first | rw [top_0] | rw [top_1 hf]); dsimp only [zf]; (repeat (first | rw [if_pos (by omega)] | rw [if_neg (by omega)])); first | done | rfl | (rw [List.set_set]; rfl))) (.dr (.kp (by first | (exfalso; omega) | (unfold outerS; (first | rw [top_0] | rw [top_1 hf]); dsimp only [zf]; (repeat (first | rw [if_pos (by omega)] | rw [if_neg (by omega)])); first | done | rfl | (rw [List.set_set]; rfl))) .nil)) (fun _ _ _ => trivial)
       ·
        refine W.del (.dr .rf) (W.seq (W.region ?_))
        refine WL.st (R.eqi (.t L0) .c) rfl ?_
        refine WL.st (R.as (.t L0)) rfl ?_
        refine WL.nil (QS.next (W.del (.kp (.dr .rf)) ?_))
        refine W.cd (.t L0) (fun h6 => ?_) (fun h6 => ?_)
        ·
         refine W.del (.dr (.dr .rf)) (W.seq (W.seq (W.region ?_)))
         refine WL.st (R.mv (.t L5)) rfl ?_
         refine WL.st (R.eqpn pt_149 (.t L0)) rfl ?_
         refine WL.st (R.mv (.t L0)) rfl ?_
         refine WL.gy rfl L0 (R.mv (.t L8)) rfl ?_
         refine WL.gy rfl L1 (R.nc (.t L0)) rfl ?_
         refine WL.gy rfl L2 (R.fao fo_127_0 (.t L0) (k := n1 * 5 + 0) rfl) rfl ?_
         refine WL.gy rfl L3 (R.ld sc_57 (.t L0) H1 (w_frame hf (j := 0) rfl)) rfl ?_
         refine WL.gy rfl L4 (R.nei (.t L0) .c) rfl ?_
         refine WL.st (R.pkf (.t L5) (.t L0)) rfl ?_
         refine WL.nil (QS.next (W.del (.kp (.dr (.dr (.dr (.dr (.dr (.dr (.dr (.dr .rf))))))))) ?_))
         refine W.cd (.t L0) (fun h7 => ?_) (fun h7 => ?_)
         ·
          refine W.del (.dr .rf) (W.seq (W.region ?_))
          refine WL.as .c U4 rfl ?_
          refine WL.nil (QS.next (W.ret (QS.thenr (QS.blkr (QS.thenr ?_)))))
          exact QS.fin (.inl rfl) rfl (.tmp L4 .nil) () (by first | (exfalso; omega) | (unfold outerS; (first | rw [top_0] | rw [top_1 hf]); dsimp only [zf]; (repeat (first | rw [if_pos (by omega)] | rw [if_neg (by omega)])); first | done | rfl | (rw [List.set_set]; rfl))) (.dr (.kp (by first | (exfalso; omega) | (unfold outerS; (first | rw [top_0] | rw [top_1 hf]); dsimp only [zf]; (repeat (first | rw [if_pos (by omega)] | rw [if_neg (by omega)])); first | done | rfl | (rw [List.set_set]; rfl))) .nil)) (fun _ _ _ => trivial)
         ·
          refine W.del (.dr .rf) (W.skip (QS.next (W.region ?_)))
          refine WL.st (R.mv (.t L5)) rfl ?_
          refine WL.st (R.nc (.t L0)) rfl ?_
          refine WL.st (R.fao fo_127_1 (.t L0) (k := n1 * 5 + 1) rfl) rfl ?_
          refine WL.st (R.ld sc_3 (.t L0) H1 (w_frame hf (j := 1) rfl)) rfl ?_
          refine WL.st (R.add (.t L0) .c (wi (by omega) (by omega))) rfl ?_
          refine WL.st (R.nc (.t L4)) rfl ?_
          refine WL.st (R.fao fo_127_1 (.t L0) (k := n1 * 5 + 1) rfl) rfl ?_
          refine WL.sto sz_3 (.t L0) (.t L2) rfl rfl rfl C1 (wp_frame (f' := ⟨f.kind, f.items + 1, f.rows, f.cells, f.wide⟩) hf (j := 1) (by repeat constructor)) ?_
          refine WL.nil (QS.blkn (QS.next (W.del (.dr (.dr (.dr (.dr (.dr (.dr (.dr .rf))))))) (W.seq (W.region ?_)))))
          refine WL.as .c U4 rfl ?_
          refine WL.nil (QS.next (W.ret ?_))
          exact QS.fin (.inl rfl) rfl (.tmp L4 .nil) () (by first | (exfalso; omega) | (unfold outerS; (first | rw [top_0] | rw [top_1 hf]); dsimp only [zf]; (repeat (first | rw [if_pos (by omega)] | rw [if_neg (by omega)])); first | done | rfl | (rw [List.set_set]; rfl))) (.dr (.kp (by first | (exfalso; omega) | (unfold outerS; (first | rw [top_0] | rw [top_1 hf]); dsimp only [zf]; (repeat (first | rw [if_pos (by omega)] | rw [if_neg (by omega)])); first | done | rfl | (rw [List.set_set]; rfl))) .nil)) (fun _ _ _ => trivial)
        ·
         refine W.del (.dr .rf) (W.seq (W.region ?_))
         refine WL.st (R.eqi (.t L0) .c) rfl ?_
         refine WL.st (R.as (.t L0)) rfl ?_
         refine WL.nil (QS.next (W.del (.kp (.dr .rf)) ?_))
         refine W.cd (.t L0) (fun h8 => ?_) (fun h8 => ?_)
         ·
          refine W.del (.dr (.dr .rf)) (W.seq (W.seq (W.region ?_)))
          refine WL.st (R.mv (.t L5)) rfl ?_
          refine WL.st (R.nepn pt_149 (.t L0)) rfl ?_
          refine WL.nil (QS.next (W.del (.kp (.dr .rf)) (W.ct (.t L0) (W.del (.dr .rf) (W.seq (W.region ?_))))))
          refine WL.as .c U4 rfl ?_
          refine WL.nil (QS.next (W.ret (QS.thenr (QS.blkr (QS.thenr ?_)))))
          exact QS.fin (.inl rfl) rfl (.tmp L4 .nil) () (by first | (exfalso; omega) | (unfold outerS; (first | rw [top_0] | rw [top_1 hf]); dsimp only [zf]; (repeat (first | rw [if_pos (by omega)] | rw [if_neg (by omega)])); first | done | rfl | (rw [List.set_set]; rfl))) (.dr (.kp (by first | (exfalso; omega) | (unfold outerS; (first | rw [top_0] | rw [top_1 hf]); dsimp only [zf]; (repeat (first | rw [if_pos (by omega)] | rw [if_neg (by omega)])); first | done | rfl | (rw [List.set_set]; rfl))) .nil)) (fun _ _ _ => trivial)
         ·
          refine W.del (.dr .rf) (W.seq (W.seq (W.region ?_)))
          refine WL.st (R.eqi (.t L0) .c) rfl ?_
          refine WL.st (R.as (.t L0)) rfl ?_
          refine WL.nil (QS.next (W.del (.kp (.dr .rf)) ?_))
          refine W.cd (.t L0) (fun h10 => ?_) (fun h10 => ?_)
          ·
           refine W.del (.kp (.dr .rf)) (W.skip (QS.next ?_))
           refine W.cdt (.t L0) h10 ?_
           refine W.del (.dr .rf) (W.seq (W.seq (W.region ?_)))
           refine WL.st (R.mv (.t L5)) rfl ?_
           refine WL.st (R.eqpn pt_149 (.t L0)) rfl ?_
           refine WL.st (R.mv (.t L0)) rfl ?_
           refine WL.gy rfl L0 (R.mv (.t (D1 L0))) rfl ?_
           refine WL.st (R.pkf (.t L1) (.t L0)) rfl ?_
           refine WL.st (R.mv (.t L0)) rfl ?_
           refine WL.gy rfl L0 (R.fa fo_59_2 (.t L9)) rfl ?_
           refine WL.gy rfl L1 (R.ld sc_57 (.t L0) H0 rfl) rfl ?_
           refine WL.gy rfl L2 (R.eqi (.t L0) .c) rfl ?_
           refine WL.gy rfl L3 (R.mv (.t L0)) rfl ?_
           refine WL.cd L0 U0 U0 (fun hg149 => ?_) (fun hg149 => ?_)
           ·
            refine WL.gy rfl L0 (R.mv (.t (D1 L5))) rfl ?_
            refine WL.gy rfl L1 (R.nc (.t L0)) rfl ?_
            refine WL.gy rfl L2 (R.fao fo_127_0 (.t L0) (k := n1 * 5 + 0) rfl) rfl ?_
            refine WL.gy rfl L3 (R.ld sc_57 (.t L0) H1 (w_frame hf (j := 0) rfl)) rfl ?_
            refine WL.gy rfl L4 (R.nei (.t L0) .c) rfl ?_
            refine WL.gy rfl L9 (R.pkt (.t L5) (.t L0)) rfl ?_
            refine WL.st (R.pkf (.t (D1 L0)) (.t L0)) rfl ?_
            refine WL.nil (QS.next (W.del (.kp (.dr (.dr (.dr (.dr (.dr (.dr (.dr (.dr (.dr (.dr (.dr (.dr (.dr (.dr (.dr (.dr .rf))))))))))))))))) ?_))
            refine W.cd (.t L0) (fun h12 => ?_) (fun h12 => ?_)
            ·
             refine W.del (.dr .rf) (W.seq (W.region ?_))
             refine WL.as .c U4 rfl ?_
             refine WL.nil (QS.next (W.ret (QS.thenr (QS.blkr (QS.thenr ?_)))))
             exact QS.fin (.inl rfl) rfl (.tmp L4 .nil) () (by first | (exfalso; omega) | (unfold outerS; (first | rw [top_0] | rw [top_1 hf]); dsimp only [zf]; (repeat (first | rw [if_pos (by omega)] | rw [if_neg (by omega)])); first | done | rfl | (rw [List.set_set]; rfl))) (.dr (.kp (by first | (exfalso; omega) | (unfold outerS; (first | rw [top_0] | rw [top_1 hf]); dsimp only [zf]; (repeat (first | rw [if_pos (by omega)] | rw [if_neg (by omega)])); first | done | rfl | (rw [List.set_set]; rfl))) .nil)) (fun _ _ _ => trivial)
            ·
             refine W.del (.dr .rf) (W.skip (QS.next (W.seq (W.region ?_))))
             refine WL.st (R.fa fo_59_2 (.t L3)) rfl ?_
             refine WL.st (R.ld sc_57 (.t L0) H0 rfl) rfl ?_
             refine WL.st (R.eqi (.t L0) .c) rfl ?_
             refine WL.nil (QS.next (W.del (.kp (.dr (.dr .rf))) ?_))
             refine W.cd (.t L0) (fun h13 => ?_) (fun h13 => ?_)
             ·
              refine W.del (.dr .rf) (W.region ?_)
              refine WL.st (R.mv (.t L0)) rfl ?_
              refine WL.st (R.nc (.t L0)) rfl ?_
              refine WL.st (R.fa fo_130_1 (.t L0)) rfl ?_
              refine WL.st (R.ld sc_3 (.t L0) H1 (w_depth hk)) rfl ?_
              refine WL.st (R.vq (R.sub (.t L0) .c (wi (by omega) (by omega))) (show Value.int .i64 (((n1 + 1 : Nat) : Int) - 1) = Value.int .i64 ((n1 : Nat) : Int) from congrArg (Value.int .i64) (by omega))) rfl ?_
              refine WL.st (R.nc (.t L4)) rfl ?_
              refine WL.st (R.fa fo_130_1 (.t L0)) rfl ?_
              refine WL.sto sz_3 (.t L0) (.t L2) rfl rfl rfl C1 (wp_depth hk) ?_
              refine WL.nil (QS.blkn (QS.next (W.del (.dr (.dr (.dr (.dr (.dr (.dr (.dr .rf))))))) (W.seq (W.region ?_)))))
              refine WL.as .c U4 rfl ?_
              refine WL.nil (QS.next (W.ret ?_))
              exact QS.fin (.inl rfl) rfl (.tmp L4 .nil) () (by first | (exfalso; omega) | (unfold outerS; (first | rw [top_0] | rw [top_1 hf]); dsimp only [zf]; (repeat (first | rw [if_pos (by omega)] | rw [if_neg (by omega)])); first | done | rfl | (rw [List.set_set]; rfl))) (.dr (.kp (by first | (exfalso; omega) | (unfold outerS; (first | rw [top_0] | rw [top_1 hf]); dsimp only [zf]; (repeat (first | rw [if_pos (by omega)] | rw [if_neg (by omega)])); first | done | rfl | (rw [List.set_set]; rfl))) .nil)) (fun _ _ _ => trivial)
             ·
              refine W.del (.dr .rf) (W.region ?_)
              refine WL.st (R.mv (.t L5)) rfl ?_
              refine WL.st (R.mv (.t L6)) rfl ?_
              refine WL.st (R.mv (.t L7)) rfl ?_
              refine WL.st (R.nc (.t L0)) rfl ?_
              refine WL.st (R.fao fo_127_2 (.t L0) (k := n1 * 5 + 2) rfl) rfl ?_
              refine WL.st (R.ld sc_3 (.t L0) H1 (w_frame hf (j := 2) rfl)) rfl ?_
              refine WL.st (R.add (.t L0) .c (wi (by omega) (by omega))) rfl ?_
              refine WL.st (R.nc (.t L6)) rfl ?_
              refine WL.st (R.fao fo_127_2 (.t L0) (k := n1 * 5 + 2) rfl) rfl ?_
              refine WL.sto sz_3 (.t L0) (.t L2) rfl rfl rfl C1 (wp_frame (f' := ⟨f.kind, f.items, f.rows + 1, f.cells, f.wide⟩) hf (j := 2) (by repeat constructor)) ?_
              refine WL.st (R.nc (.t L7)) rfl ?_
              refine WL.st (R.fao fo_127_3 (.t L0) (k := n1 * 5 + 3) rfl) rfl ?_
              refine WL.sto sz_3 (.t L0) .c rfl rfl rfl C1 (wp_frame (f' := ⟨f.kind, f.items, f.rows + 1, 0, f.wide⟩) (set_get hf) (j := 3) (by repeat constructor)) ?_
              refine WL.nil (QS.blkn (QS.next (W.del (.dr (.dr (.dr (.dr (.dr (.dr (.dr (.dr (.dr (.dr (.dr .rf))))))))))) (W.seq (W.region ?_)))))
              refine WL.as .c U4 rfl ?_
              refine WL.nil (QS.next (W.ret ?_))
              exact QS.fin (.inl rfl) rfl (.tmp L4 .nil) () (by first | (exfalso; omega) | (unfold outerS; (first | rw [top_0] | rw [top_1 hf]); dsimp only [zf]; (repeat (first | rw [if_pos (by omega)] | rw [if_neg (by omega)])); first | done | rfl | (rw [List.set_set]; rfl))) (.dr (.kp (by first | (exfalso; omega) | (unfold outerS; (first | rw [top_0] | rw [top_1 hf]); dsimp only [zf]; (repeat (first | rw [if_pos (by omega)] | rw [if_neg (by omega)])); first | done | rfl | (rw [List.set_set]; rfl))) .nil)) (fun _ _ _ => trivial)
           ·
            refine WL.gn rfl L0 rfl ?_
            refine WL.gn rfl L1 rfl ?_
            refine WL.gn rfl L2 rfl ?_
            refine WL.gn rfl L3 rfl ?_
            refine WL.gn rfl L4 rfl ?_
            refine WL.gy rfl L9 (R.pkf (.t L5) .c) rfl ?_
            refine WL.st (R.pkf (.t (D1 L0)) (.t L0)) rfl ?_
            refine WL.nil (QS.next (W.del (.kp (.dr (.dr (.dr (.dr (.dr (.dr (.dr (.dr (.dr (.dr (.dr (.dr (.dr (.dr (.dr (.dr .rf))))))))))))))))) (W.cf (.t L0) (W.del (.dr .rf) (W.skip (QS.next (W.seq (W.region ?_))))))))
            refine WL.st (R.fa fo_59_2 (.t L3)) rfl ?_
            refine WL.st (R.ld sc_57 (.t L0) H0 rfl) rfl ?_
            refine WL.st (R.eqi (.t L0) .c) rfl ?_
            refine WL.nil (QS.next (W.del (.kp (.dr (.dr .rf))) ?_))
            refine W.cd (.t L0) (fun h13 => ?_) (fun h13 => ?_)
            ·
             refine W.del (.dr .rf) (W.region ?_)
             refine WL.st (R.mv (.t L0)) rfl ?_
             refine WL.st (R.nc (.t L0)) rfl ?_
             refine WL.st (R.fa fo_130_1 (.t L0)) rfl ?_
             refine WL.st (R.ld sc_3 (.t L0) H1 (w_depth hk)) rfl ?_
             refine WL.st (R.vq (R.sub (.t L0) .c (wi (by omega) (by omega))) (show Value.int .i64 (((n1 + 1 : Nat) : Int) - 1) = Value.int .i64 ((n1 : Nat) : Int) from congrArg (Value.int .i64) (by omega))) rfl ?_
             refine WL.st (R.nc (.t L4)) rfl ?_
             refine WL.st (R.fa fo_130_1 (.t L0)) rfl ?_
             refine WL.sto sz_3 (.t L0) (.t L2) rfl rfl rfl C1 (wp_depth hk) ?_
             refine WL.nil (QS.blkn (QS.next (W.del (.dr (.dr (.dr (.dr (.dr (.dr (.dr .rf))))))) (W.seq (W.region ?_)))))
             refine WL.as .c U4 rfl ?_
             refine WL.nil (QS.next (W.ret ?_))
             exact QS.fin (.inl rfl) rfl (.tmp L4 .nil) () (by first | (exfalso; omega) | (unfold outerS; (first | rw [top_0] | rw [top_1 hf]); dsimp only [zf]; (repeat (first | rw [if_pos (by omega)] | rw [if_neg (by omega)])); first | done | rfl | (rw [List.set_set]; rfl))) (.dr (.kp (by first | (exfalso; omega) | (unfold outerS; (first | rw [top_0] | rw [top_1 hf]); dsimp only [zf]; (repeat (first | rw [if_pos (by omega)] | rw [if_neg (by omega)])); first | done | rfl | (rw [List.set_set]; rfl))) .nil)) (fun _ _ _ => trivial)
            ·
             refine W.del (.dr .rf) (W.region ?_)
             refine WL.st (R.mv (.t L5)) rfl ?_
             refine WL.st (R.mv (.t L6)) rfl ?_
             refine WL.st (R.mv (.t L7)) rfl ?_
             refine WL.st (R.nc (.t L0)) rfl ?_
             refine WL.st (R.fao fo_127_2 (.t L0) (k := n1 * 5 + 2) rfl) rfl ?_
             refine WL.st (R.ld sc_3 (.t L0) H1 (w_frame hf (j := 2) rfl)) rfl ?_
             refine WL.st (R.add (.t L0) .c (wi (by omega) (by omega))) rfl ?_
             refine WL.st (R.nc (.t L6)) rfl ?_
             refine WL.st (R.fao fo_127_2 (.t L0) (k := n1 * 5 + 2) rfl) rfl ?_
             refine WL.sto sz_3 (.t L0) (.t L2) rfl rfl rfl C1 (wp_frame (f' := ⟨f.kind, f.items, f.rows + 1, f.cells, f.wide⟩) hf (j := 2) (by repeat constructor)) ?_
             refine WL.st (R.nc (.t L7)) rfl ?_
             refine WL.st (R.fao fo_127_3 (.t L0) (k := n1 * 5 + 3) rfl) rfl ?_
             refine WL.sto sz_3 (.t L0) .c rfl rfl rfl C1 (wp_frame (f' := ⟨f.kind, f.items, f.rows + 1, 0, f.wide⟩) (set_get hf) (j := 3) (by repeat constructor)) ?_
             refine WL.nil (QS.blkn (QS.next (W.del (.dr (.dr (.dr (.dr (.dr (.dr (.dr (.dr (.dr (.dr (.dr .rf))))))))))) (W.seq (W.region ?_)))))
             refine WL.as .c U4 rfl ?_
             refine WL.nil (QS.next (W.ret ?_))
             exact QS.fin (.inl rfl) rfl (.tmp L4 .nil) () (by first | (exfalso; omega) | (unfold outerS; (first | rw [top_0] | rw [top_1 hf]); dsimp only [zf]; (repeat (first | rw [if_pos (by omega)] | rw [if_neg (by omega)])); first | done | rfl | (rw [List.set_set]; rfl))) (.dr (.kp (by first | (exfalso; omega) | (unfold outerS; (first | rw [top_0] | rw [top_1 hf]); dsimp only [zf]; (repeat (first | rw [if_pos (by omega)] | rw [if_neg (by omega)])); first | done | rfl | (rw [List.set_set]; rfl))) .nil)) (fun _ _ _ => trivial)
          ·
           refine W.region ?_
           refine WL.st (R.eqi (.t L1) .c) rfl ?_
           refine WL.as (.t L0) U1 rfl ?_
           refine WL.nil (QS.next (W.del (.dr (.kp (.dr .rf))) ?_))
           refine W.cd (.t L0) (fun h11 => ?_) (fun h11 => ?_)
           ·
            refine W.del (.dr .rf) (W.seq (W.seq (W.region ?_)))
            refine WL.st (R.mv (.t L5)) rfl ?_
            refine WL.st (R.eqpn pt_149 (.t L0)) rfl ?_
            refine WL.st (R.mv (.t L0)) rfl ?_
            refine WL.gy rfl L0 (R.mv (.t (D1 L0))) rfl ?_
            refine WL.st (R.pkf (.t L1) (.t L0)) rfl ?_
            refine WL.st (R.mv (.t L0)) rfl ?_
            refine WL.gy rfl L0 (R.fa fo_59_2 (.t L9)) rfl ?_
            refine WL.gy rfl L1 (R.ld sc_57 (.t L0) H0 rfl) rfl ?_
            refine WL.gy rfl L2 (R.eqi (.t L0) .c) rfl ?_
            refine WL.gy rfl L3 (R.mv (.t L0)) rfl ?_
            refine WL.cd L0 U0 U0 (fun hg149 => ?_) (fun hg149 => ?_)
            ·
             refine WL.gy rfl L0 (R.mv (.t (D1 L5))) rfl ?_
             refine WL.gy rfl L1 (R.nc (.t L0)) rfl ?_
             refine WL.gy rfl L2 (R.fao fo_127_0 (.t L0) (k := n1 * 5 + 0) rfl) rfl ?_
             refine WL.gy rfl L3 (R.ld sc_57 (.t L0) H1 (w_frame hf (j := 0) rfl)) rfl ?_
             refine WL.gy rfl L4 (R.nei (.t L0) .c) rfl ?_
             refine WL.gy rfl L9 (R.pkt (.t L5) (.t L0)) rfl ?_
             refine WL.st (R.pkf (.t (D1 L0)) (.t L0)) rfl ?_
             refine WL.nil (QS.next (W.del (.kp (.dr (.dr (.dr (.dr (.dr (.dr (.dr (.dr (.dr (.dr (.dr (.dr (.dr (.dr (.dr (.dr .rf))))))))))))))))) ?_))
             refine W.cd (.t L0) (fun h12 => ?_) (fun h12 => ?_)
             ·
              refine W.del (.dr .rf) (W.seq (W.region ?_))
              refine WL.as .c U4 rfl ?_
              refine WL.nil (QS.next (W.ret (QS.thenr (QS.blkr (QS.thenr ?_)))))
              exact QS.fin (.inl rfl) rfl (.tmp L4 .nil) () (by first | (exfalso; omega) | (unfold outerS; (first | rw [top_0] | rw [top_1 hf]); dsimp only [zf]; (repeat (first | rw [if_pos (by omega)] | rw [if_neg (by omega)])); first | done | rfl | (rw [List.set_set]; rfl))) (.dr (.kp (by first | (exfalso; omega) | (unfold outerS; (first | rw [top_0] | rw [top_1 hf]); dsimp only [zf]; (repeat (first | rw [if_pos (by omega)] | rw [if_neg (by omega)])); first | done | rfl | (rw [List.set_set]; rfl))) .nil)) (fun _ _ _ => trivial)
             ·
              refine W.del (.dr .rf) (W.skip (QS.next (W.seq (W.region ?_))))
              refine WL.st (R.fa fo_59_2 (.t L3)) rfl ?_
              refine WL.st (R.ld sc_57 (.t L0) H0 rfl) rfl ?_
              refine WL.st (R.eqi (.t L0) .c) rfl ?_
              refine WL.nil (QS.next (W.del (.kp (.dr (.dr .rf))) ?_))
              refine W.cd (.t L0) (fun h13 => ?_) (fun h13 => ?_)
              ·
               refine W.del (.dr .rf) (W.region ?_)
               refine WL.st (R.mv (.t L0)) rfl ?_
               refine WL.st (R.nc (.t L0)) rfl ?_
               refine WL.st (R.fa fo_130_1 (.t L0)) rfl ?_
               refine WL.st (R.ld sc_3 (.t L0) H1 (w_depth hk)) rfl ?_
               refine WL.st (R.vq (R.sub (.t L0) .c (wi (by omega) (by omega))) (show Value.int .i64 (((n1 + 1 : Nat) : Int) - 1) = Value.int .i64 ((n1 : Nat) : Int) from congrArg (Value.int .i64) (by omega))) rfl ?_
               refine WL.st (R.nc (.t L4)) rfl ?_
               refine WL.st (R.fa fo_130_1 (.t L0)) rfl ?_
               refine WL.sto sz_3 (.t L0) (.t L2) rfl rfl rfl C1 (wp_depth hk) ?_
               refine WL.nil (QS.blkn (QS.next (W.del (.dr (.dr (.dr (.dr (.dr (.dr (.dr .rf))))))) (W.seq (W.region ?_)))))
               refine WL.as .c U4 rfl ?_
               refine WL.nil (QS.next (W.ret ?_))
               exact QS.fin (.inl rfl) rfl (.tmp L4 .nil) () (by first | (exfalso; omega) | (unfold outerS; (first | rw [top_0] | rw [top_1 hf]); dsimp only [zf]; (repeat (first | rw [if_pos (by omega)] | rw [if_neg (by omega)])); first | done | rfl | (rw [List.set_set]; rfl))) (.dr (.kp (by first | (exfalso; omega) | (unfold outerS; (first | rw [top_0] | rw [top_1 hf]); dsimp only [zf]; (repeat (first | rw [if_pos (by omega)] | rw [if_neg (by omega)])); first | done | rfl | (rw [List.set_set]; rfl))) .nil)) (fun _ _ _ => trivial)
              ·
               refine W.del (.dr .rf) (W.region ?_)
               refine WL.st (R.mv (.t L5)) rfl ?_
               refine WL.st (R.mv (.t L6)) rfl ?_
               refine WL.st (R.mv (.t L7)) rfl ?_
               refine WL.st (R.nc (.t L0)) rfl ?_
               refine WL.st (R.fao fo_127_2 (.t L0) (k := n1 * 5 + 2) rfl) rfl ?_
               refine WL.st (R.ld sc_3 (.t L0) H1 (w_frame hf (j := 2) rfl)) rfl ?_
               refine WL.st (R.add (.t L0) .c (wi (by omega) (by omega))) rfl ?_
               refine WL.st (R.nc (.t L6)) rfl ?_
               refine WL.st (R.fao fo_127_2 (.t L0) (k := n1 * 5 + 2) rfl) rfl ?_
               refine WL.sto sz_3 (.t L0) (.t L2) rfl rfl rfl C1 (wp_frame (f' := ⟨f.kind, f.items, f.rows + 1, f.cells, f.wide⟩) hf (j := 2) (by repeat constructor)) ?_
               refine WL.st (R.nc (.t L7)) rfl ?_
               refine WL.st (R.fao fo_127_3 (.t L0) (k := n1 * 5 + 3) rfl) rfl ?_
               refine WL.sto sz_3 (.t L0) .c rfl rfl rfl C1 (wp_frame (f' := ⟨f.kind, f.items, f.rows + 1, 0, f.wide⟩) (set_get hf) (j := 3) (by repeat constructor)) ?_
               refine WL.nil (QS.blkn (QS.next (W.del (.dr (.dr (.dr (.dr (.dr (.dr (.dr (.dr (.dr (.dr (.dr .rf))))))))))) (W.seq (W.region ?_)))))
               refine WL.as .c U4 rfl ?_
               refine WL.nil (QS.next (W.ret ?_))
               exact QS.fin (.inl rfl) rfl (.tmp L4 .nil) () (by first | (exfalso; omega) | (unfold outerS; (first | rw [top_0] | rw [top_1 hf]); dsimp only [zf]; (repeat (first | rw [if_pos (by omega)] | rw [if_neg (by omega)])); first | done | rfl | (rw [List.set_set]; rfl))) (.dr (.kp (by first | (exfalso; omega) | (unfold outerS; (first | rw [top_0] | rw [top_1 hf]); dsimp only [zf]; (repeat (first | rw [if_pos (by omega)] | rw [if_neg (by omega)])); first | done | rfl | (rw [List.set_set]; rfl))) .nil)) (fun _ _ _ => trivial)
            ·
             refine WL.gn rfl L0 rfl ?_
             refine WL.gn rfl L1 rfl ?_
             refine WL.gn rfl L2 rfl ?_
             refine WL.gn rfl L3 rfl ?_
             refine WL.gn rfl L4 rfl ?_
             refine WL.gy rfl L9 (R.pkf (.t L5) .c) rfl ?_
             refine WL.st (R.pkf (.t (D1 L0)) (.t L0)) rfl ?_
             refine WL.nil (QS.next (W.del (.kp (.dr (.dr (.dr (.dr (.dr (.dr (.dr (.dr (.dr (.dr (.dr (.dr (.dr (.dr (.dr (.dr .rf))))))))))))))))) (W.cf (.t L0) (W.del (.dr .rf) (W.skip (QS.next (W.seq (W.region ?_))))))))
             refine WL.st (R.fa fo_59_2 (.t L3)) rfl ?_
             refine WL.st (R.ld sc_57 (.t L0) H0 rfl) rfl ?_
             refine WL.st (R.eqi (.t L0) .c) rfl ?_
             refine WL.nil (QS.next (W.del (.kp (.dr (.dr .rf))) ?_))
             refine W.cd (.t L0) (fun h13 => ?_) (fun h13 => ?_)
             ·
              refine W.del (.dr .rf) (W.region ?_)
              refine WL.st (R.mv (.t L0)) rfl ?_
              refine WL.st (R.nc (.t L0)) rfl ?_
              refine WL.st (R.fa fo_130_1 (.t L0)) rfl ?_
              refine WL.st (R.ld sc_3 (.t L0) H1 (w_depth hk)) rfl ?_
              refine WL.st (R.vq (R.sub (.t L0) .c (wi (by omega) (by omega))) (show Value.int .i64 (((n1 + 1 : Nat) : Int) - 1) = Value.int .i64 ((n1 : Nat) : Int) from congrArg (Value.int .i64) (by omega))) rfl ?_
              refine WL.st (R.nc (.t L4)) rfl ?_
              refine WL.st (R.fa fo_130_1 (.t L0)) rfl ?_
              refine WL.sto sz_3 (.t L0) (.t L2) rfl rfl rfl C1 (wp_depth hk) ?_
              refine WL.nil (QS.blkn (QS.next (W.del (.dr (.dr (.dr (.dr (.dr (.dr (.dr .rf))))))) (W.seq (W.region ?_)))))
              refine WL.as .c U4 rfl ?_
              refine WL.nil (QS.next (W.ret ?_))
              exact QS.fin (.inl rfl) rfl (.tmp L4 .nil) () (by first | (exfalso; omega) | (unfold outerS; (first | rw [top_0] | rw [top_1 hf]); dsimp only [zf]; (repeat (first | rw [if_pos (by omega)] | rw [if_neg (by omega)])); first | done | rfl | (rw [List.set_set]; rfl))) (.dr (.kp (by first | (exfalso; omega) | (unfold outerS; (first | rw [top_0] | rw [top_1 hf]); dsimp only [zf]; (repeat (first | rw [if_pos (by omega)] | rw [if_neg (by omega)])); first | done | rfl | (rw [List.set_set]; rfl))) .nil)) (fun _ _ _ => trivial)
             ·
              refine W.del (.dr .rf) (W.region ?_)
              refine WL.st (R.mv (.t L5)) rfl ?_
              refine WL.st (R.mv (.t L6)) rfl ?_
              refine WL.st (R.mv (.t L7)) rfl ?_
              refine WL.st (R.nc (.t L0)) rfl ?_
              refine WL.st (R.fao fo_127_2 (.t L0) (k := n1 * 5 + 2) rfl) rfl ?_
              refine WL.st (R.ld sc_3 (.t L0) H1 (w_frame hf (j := 2) rfl)) rfl ?_
              refine WL.st (R.add (.t L0) .c (wi (by omega) (by omega))) rfl ?_
              refine WL.st (R.nc (.t L6)) rfl ?_
              refine WL.st (R.fao fo_127_2 (.t L0) (k := n1 * 5 + 2) rfl) rfl ?_
              refine WL.sto sz_3 (.t L0) (.t L2) rfl rfl rfl C1 (wp_frame (f' := ⟨f.kind, f.items, f.rows + 1, f.cells, f.wide⟩) hf (j := 2) (by repeat constructor)) ?_
              refine WL.st (R.nc (.t L7)) rfl ?_
              refine WL.st (R.fao fo_127_3 (.t L0) (k := n1 * 5 + 3) rfl) rfl ?_
              refine WL.sto sz_3 (.t L0) .c rfl rfl rfl C1 (wp_frame (f' := ⟨f.kind, f.items, f.rows + 1, 0, f.wide⟩) (set_get hf) (j := 3) (by repeat constructor)) ?_
              refine WL.nil (QS.blkn (QS.next (W.del (.dr (.dr (.dr (.dr (.dr (.dr (.dr (.dr (.dr (.dr (.dr .rf))))))))))) (W.seq (W.region ?_)))))
              refine WL.as .c U4 rfl ?_
              refine WL.nil (QS.next (W.ret ?_))
              exact QS.fin (.inl rfl) rfl (.tmp L4 .nil) () (by first | (exfalso; omega) | (unfold outerS; (first | rw [top_0] | rw [top_1 hf]); dsimp only [zf]; (repeat (first | rw [if_pos (by omega)] | rw [if_neg (by omega)])); first | done | rfl | (rw [List.set_set]; rfl))) (.dr (.kp (by first | (exfalso; omega) | (unfold outerS; (first | rw [top_0] | rw [top_1 hf]); dsimp only [zf]; (repeat (first | rw [if_pos (by omega)] | rw [if_neg (by omega)])); first | done | rfl | (rw [List.set_set]; rfl))) .nil)) (fun _ _ _ => trivial)
           ·
            refine W.del (.dr .rf) (W.seq (W.region ?_))
            refine WL.as .c U4 rfl ?_
            refine WL.nil (QS.next (W.ret (QS.blkr (QS.thenr ?_))))
            exact QS.fin (.inl rfl) rfl (.tmp L4 .nil) () (by first | (exfalso; omega) | (unfold outerS; (first | rw [top_0] | rw [top_1 hf]); dsimp only [zf]; (repeat (first | rw [if_pos (by omega)] | rw [if_neg (by omega)])); first | done | rfl | (rw [List.set_set]; rfl))) (.dr (.kp (by first | (exfalso; omega) | (unfold outerS; (first | rw [top_0] | rw [top_1 hf]); dsimp only [zf]; (repeat (first | rw [if_pos (by omega)] | rw [if_neg (by omega)])); first | done | rfl | (rw [List.set_set]; rfl))) .nil)) (fun _ _ _ => trivial)
    ·
     have hit : ¬ 0 < f.items := by omega
     refine WL.rw L7 (v' := .bool false) (congrArg Value.bool (decide_eq_false (by omega))) U7 ?_
     refine WL.st (R.ld sc_57 (.t L0) H0 rfl) rfl ?_
     refine WL.nil (QS.next (W.del (.kp (.dr .rf)) (W.block (W.seq (W.region ?_)))))
     refine WL.st (R.eqi (.t L0) .c) rfl ?_
     refine WL.st (R.as (.t L0)) rfl ?_
     refine WL.nil (QS.next (W.del (.kp (.dr .rf)) ?_))
     refine W.cd (.t L0) (fun h1 => ?_) (fun h1 => ?_)
     ·
      refine W.del (.dr (.dr .rf)) (W.seq (W.region ?_))
      refine WL.st (R.mv (.t L5)) rfl ?_
      refine WL.st (R.eqpn pt_149 (.t L0)) rfl ?_
      refine WL.as (.t L0) U6 rfl ?_
      refine WL.nil (QS.next (W.del (.dr (.dr .rf)) (W.ret (QS.blkr (QS.thenr ?_)))))
      exact QS.fin (.inl rfl) rfl (.tmp L4 .nil) () (by first | (exfalso; omega) | (unfold outerS; (first | rw [top_0] | rw [top_1 hf]); dsimp only [zf]; (repeat (first | rw [if_pos (by omega)] | rw [if_neg (by omega)])); first | done | rfl | (rw [List.set_set]; rfl))) (.dr (.kp (by first | (exfalso; omega) | (unfold outerS; (first | rw [top_0] | rw [top_1 hf]); dsimp only [zf]; (repeat (first | rw [if_pos (by omega)] | rw [if_neg (by omega)])); first | done | rfl | (rw [List.set_set]; rfl))) .nil)) (fun _ _ _ => trivial)
     ·
      refine W.del (.dr .rf) (W.seq (W.region ?_))
      refine WL.st (R.eqi (.t L0) .c) rfl ?_
      refine WL.st (R.as (.t L0)) rfl ?_
      refine WL.nil (QS.next (W.del (.kp (.dr .rf)) ?_))
      refine W.cd (.t L0) (fun h2 => ?_) (fun h2 => ?_)
      ·
       refine W.del (.dr (.dr .rf)) (W.seq (W.seq (W.region ?_)))
       refine WL.st (R.mv (.t L5)) rfl ?_
       refine WL.st (R.nepn pt_149 (.t L0)) rfl ?_
       refine WL.st (R.mv (.t L0)) rfl ?_
       refine WL.gy rfl L0 (R.mv (.t L9)) rfl ?_
       refine WL.gy rfl L1 (R.notb (.t L0)) rfl ?_
       refine WL.st (R.pkt (.t L2) (.t L0)) rfl ?_
       refine WL.st (R.mv (.t L0)) rfl ?_
       refine WL.gy rfl L0 (R.mv (.t (D1 L4))) rfl ?_
       refine WL.gy rfl L1 (R.notb (.t L0)) rfl ?_
       refine WL.st (R.pkt (.t L2) (.t L0)) rfl ?_
       refine WL.nil (QS.next (W.del (.kp (.dr (.dr (.dr (.dr (.dr (.dr (.dr (.dr (.dr .rf)))))))))) (W.ct (.t L0) (W.del (.dr .rf) (W.seq (W.region ?_))))))
       refine WL.as .c U4 rfl ?_
       refine WL.nil (QS.next (W.ret (QS.thenr (QS.blkr (QS.thenr ?_)))))
       exact QS.fin (.inl rfl) rfl (.tmp L4 .nil) () (by first | (exfalso; omega) | (unfold outerS; (first | rw [top_0] | rw [top_1 hf]); dsimp only [zf]; (repeat (first | rw [if_pos (by omega)] | rw [if_neg (by omega)])); first | done | rfl | (rw [List.set_set]; rfl))) (.dr (.kp (by first | (exfalso; omega) | (unfold outerS; (first | rw [top_0] | rw [top_1 hf]); dsimp only [zf]; (repeat (first | rw [if_pos (by omega)] | rw [if_neg (by omega)])); first | done | rfl | (rw [List.set_set]; rfl))) .nil)) (fun _ _ _ => trivial)
      ·
       refine W.del (.dr .rf) (W.seq (W.region ?_))
       refine WL.st (R.eqi (.t L0) .c) rfl ?_
       refine WL.st (R.as (.t L0)) rfl ?_
       refine WL.nil (QS.next (W.del (.kp (.dr .rf)) ?_))
       refine W.cd (.t L0) (fun h4 => ?_) (fun h4 => ?_)
       ·
        refine W.del (.dr (.dr .rf)) (W.seq (W.seq (W.region ?_)))
        refine WL.st (R.mv (.t L5)) rfl ?_
        refine WL.st (R.nepn pt_149 (.t L0)) rfl ?_
        refine WL.st (R.mv (.t L0)) rfl ?_
        refine WL.gy rfl L0 (R.mv (.t L9)) rfl ?_
        refine WL.gy rfl L1 (R.notb (.t L0)) rfl ?_
        refine WL.st (R.pkt (.t L2) (.t L0)) rfl ?_
        refine WL.st (R.mv (.t L0)) rfl ?_
        refine WL.gn rfl L0 rfl ?_
        refine WL.gn rfl L1 rfl ?_
        refine WL.gn rfl L2 rfl ?_
        refine WL.gn rfl L3 rfl ?_
        refine WL.gn rfl L4 rfl ?_
        refine WL.st (R.pkt (.t L5) .c) rfl ?_
        refine WL.nil (QS.next (W.del (.kp (.dr (.dr (.dr (.dr (.dr (.dr (.dr (.dr (.dr (.dr (.dr (.dr .rf))))))))))))) (W.ct (.t L0) (W.del (.dr .rf) (W.seq (W.region ?_))))))
        refine WL.as .c U4 rfl ?_
        refine WL.nil (QS.next (W.ret (QS.thenr (QS.blkr (QS.thenr ?_)))))
        exact QS.fin (.inl rfl) rfl (.tmp L4 .nil) () (by first | (exfalso; omega) | (unfold outerS; (first | rw [top_0] | rw [top_1 hf]); dsimp only [zf]; (repeat (first | rw [if_pos (by omega)] | rw [if_neg (by omega)])); first | done | rfl | (rw [List.set_set]; rfl))) (.dr (.kp (by first | (exfalso; omega) | (unfold outerS; (first | rw [top_0] | rw [top_1 hf]); dsimp only [zf]; (repeat (first | rw [if_pos (by omega)] | rw [if_neg (by omega)])); first | done | rfl | (rw [List.set_set]; rfl))) .nil)) (fun _ _ _ => trivial)
       ·
        refine W.del (.dr .rf) (W.seq (W.region ?_))
        refine WL.st (R.eqi (.t L0) .c) rfl ?_
        refine WL.st (R.as (.t L0)) rfl ?_
        refine WL.nil (QS.next (W.del (.kp (.dr .rf)) ?_))
        refine W.cd (.t L0) (fun h6 => ?_) (fun h6 => ?_)
        ·
         refine W.del (.dr (.dr .rf)) (W.seq (W.seq (W.region ?_)))
         refine WL.st (R.mv (.t L5)) rfl ?_
         refine WL.st (R.eqpn pt_149 (.t L0)) rfl ?_
         refine WL.st (R.mv (.t L0)) rfl ?_
         refine WL.gy rfl L0 (R.mv (.t L8)) rfl ?_
         refine WL.gy rfl L1 (R.nc (.t L0)) rfl ?_
         refine WL.gy rfl L2 (R.fao fo_127_0 (.t L0) (k := n1 * 5 + 0) rfl) rfl ?_
         refine WL.gy rfl L3 (R.ld sc_57 (.t L0) H1 (w_frame hf (j := 0) rfl)) rfl ?_
         refine WL.gy rfl L4 (R.nei (.t L0) .c) rfl ?_
         refine WL.st (R.pkf (.t L5) (.t L0)) rfl ?_
         refine WL.nil (QS.next (W.del (.kp (.dr (.dr (.dr (.dr (.dr (.dr (.dr (.dr .rf))))))))) ?_))
         refine W.cd (.t L0) (fun h7 => ?_) (fun h7 => ?_)
         ·
          refine W.del (.dr .rf) (W.seq (W.region ?_))
          refine WL.as .c U4 rfl ?_
          refine WL.nil (QS.next (W.ret (QS.thenr (QS.blkr (QS.thenr ?_)))))
          exact QS.fin (.inl rfl) rfl (.tmp L4 .nil) () (by first | (exfalso; omega) | (unfold outerS; (first | rw [top_0] | rw [top_1 hf]); dsimp only [zf]; (repeat (first | rw [if_pos (by omega)] | rw [if_neg (by omega)])); first | done | rfl | (rw [List.set_set]; rfl))) (.dr (.kp (by first | (exfalso; omega) | (unfold outerS; (first | rw [top_0] | rw [top_1 hf]); dsimp only [zf]; (repeat (first | rw [if_pos (by omega)] | rw [if_neg (by omega)])); first | done | rfl | (rw [List.set_set]; rfl))) .nil)) (fun _ _ _ => trivial)
         ·
          refine W.del (.dr .rf) (W.skip (QS.next (W.region ?_)))
          refine WL.st (R.mv (.t L5)) rfl ?_
          refine WL.st (R.nc (.t L0)) rfl ?_
          refine WL.st (R.fao fo_127_1 (.t L0) (k := n1 * 5 + 1) rfl) rfl ?_
          refine WL.st (R.ld sc_3 (.t L0) H1 (w_frame hf (j := 1) rfl)) rfl ?_
          refine WL.st (R.add (.t L0) .c (wi (by omega) (by omega))) rfl ?_
          refine WL.st (R.nc (.t L4)) rfl ?_
          refine WL.st (R.fao fo_127_1 (.t L0) (k := n1 * 5 + 1) rfl) rfl ?_
          refine WL.sto sz_3 (.t L0) (.t L2) rfl rfl rfl C1 (wp_frame (f' := ⟨f.kind, f.items + 1, f.rows, f.cells, f.wide⟩) hf (j := 1) (by repeat constructor)) ?_
          refine WL.nil (QS.blkn (QS.next (W.del (.dr (.dr (.dr (.dr (.dr (.dr (.dr .rf))))))) (W.seq (W.region ?_)))))
          refine WL.as .c U4 rfl ?_
          refine WL.nil (QS.next (W.ret ?_))
          exact QS.fin (.inl rfl) rfl (.tmp L4 .nil) () (by first | (exfalso; omega) | (unfold outerS; (first | rw [top_0] | rw [top_1 hf]); dsimp only [zf]; (repeat (first | rw [if_pos (by omega)] | rw [if_neg (by omega)])); first | done | rfl | (rw [List.set_set]; rfl))) (.dr (.kp (by first | (exfalso; omega) | (unfold outerS; (first | rw [top_0] | rw [top_1 hf]); dsimp only [zf]; (repeat (first | rw [if_pos (by omega)] | rw [if_neg (by omega)])); first | done | rfl | (rw [List.set_set]; rfl))) .nil)) (fun _ _ _ => trivial)
        ·
         refine W.del (.dr .rf) (W.seq (W.region ?_))
         refine WL.st (R.eqi (.t L0) .c) rfl ?_
         refine WL.st (R.as (.t L0)) rfl ?_
         refine WL.nil (QS.next (W.del (.kp (.dr .rf)) ?_))
         refine W.cd (.t L0) (fun h8 => ?_) (fun h8 => ?_)
         ·
          refine W.del (.dr (.dr .rf)) (W.seq (W.seq (W.region ?_)))
          refine WL.st (R.mv (.t L5)) rfl ?_
          refine WL.st (R.nepn pt_149 (.t L0)) rfl ?_
          refine WL.nil (QS.next (W.del (.kp (.dr .rf)) (W.ct (.t L0) (W.del (.dr .rf) (W.seq (W.region ?_))))))
          refine WL.as .c U4 rfl ?_
          refine WL.nil (QS.next (W.ret (QS.thenr (QS.blkr (QS.thenr ?_)))))
          exact QS.fin (.inl rfl) rfl (.tmp L4 .nil) () (by first | (exfalso; omega) | (unfold outerS; (first | rw [top_0] | rw [top_1 hf]); dsimp only [zf]; (repeat (first | rw [if_pos (by omega)] | rw [if_neg (by omega)])); first | done | rfl | (rw [List.set_set]; rfl))) (.dr (.kp (by first | (exfalso; omega) | (unfold outerS; (first | rw [top_0] | rw [top_1 hf]); dsimp only [zf]; (repeat (first | rw [if_pos (by omega)] | rw [if_neg (by omega)])); first | done | rfl | (rw [List.set_set]; rfl))) .nil)) (fun _ _ _ => trivial)
         ·
          refine W.del (.dr .rf) (W.seq (W.seq (W.region ?_)))
          refine WL.st (R.eqi (.t L0) .c) rfl ?_
          refine WL.st (R.as (.t L0)) rfl ?_
          refine WL.nil (QS.next (W.del (.kp (.dr .rf)) ?_))
          refine W.cd (.t L0) (fun h10 => ?_) (fun h10 => ?_)
          ·
           refine W.del (.kp (.dr .rf)) (W.skip (QS.next ?_))
           refine W.cdt (.t L0) h10 ?_
           refine W.del (.dr .rf) (W.seq (W.seq (W.region ?_)))
           refine WL.st (R.mv (.t L5)) rfl ?_
           refine WL.st (R.eqpn pt_149 (.t L0)) rfl ?_
           refine WL.st (R.mv (.t L0)) rfl ?_
           refine WL.gy rfl L0 (R.mv (.t (D1 L0))) rfl ?_
           refine WL.st (R.pkf (.t L1) (.t L0)) rfl ?_
           refine WL.st (R.mv (.t L0)) rfl ?_
           refine WL.gy rfl L0 (R.fa fo_59_2 (.t L9)) rfl ?_
           refine WL.gy rfl L1 (R.ld sc_57 (.t L0) H0 rfl) rfl ?_
           refine WL.gy rfl L2 (R.eqi (.t L0) .c) rfl ?_
           refine WL.gy rfl L3 (R.mv (.t L0)) rfl ?_
           refine WL.cd L0 U0 U0 (fun hg149 => ?_) (fun hg149 => ?_)
           ·
            refine WL.gy rfl L0 (R.mv (.t (D1 L5))) rfl ?_
            refine WL.gy rfl L1 (R.nc (.t L0)) rfl ?_
            refine WL.gy rfl L2 (R.fao fo_127_0 (.t L0) (k := n1 * 5 + 0) rfl) rfl ?_
            refine WL.gy rfl L3 (R.ld sc_57 (.t L0) H1 (w_frame hf (j := 0) rfl)) rfl ?_
            refine WL.gy rfl L4 (R.nei (.t L0) .c) rfl ?_
            refine WL.gy rfl L9 (R.pkt (.t L5) (.t L0)) rfl ?_
            refine WL.st (R.pkf (.t (D1 L0)) (.t L0)) rfl ?_
            refine WL.nil (QS.next (W.del (.kp (.dr (.dr (.dr (.dr (.dr (.dr (.dr (.dr (.dr (.dr (.dr (.dr (.dr (.dr (.dr (.dr .rf))))))))))))))))) ?_))
            refine W.cd (.t L0) (fun h12 => ?_) (fun h12 => ?_)
            ·
             refine W.del (.dr .rf) (W.seq (W.region ?_))
             refine WL.as .c U4 rfl ?_
             refine WL.nil (QS.next (W.ret (QS.thenr (QS.blkr (QS.thenr ?_)))))
             exact QS.fin (.inl rfl) rfl (.tmp L4 .nil) () (by first | (exfalso; omega) | (unfold outerS; (first | rw [top_0] | rw [top_1 hf]); dsimp only [zf]; (repeat (first | rw [if_pos (by omega)] | rw [if_neg (by omega)])); first | done | rfl | (rw [List.set_set]; rfl))) (.dr (.kp (by first | (exfalso; omega) | (unfold outerS; (first | rw [top_0] | rw [top_1 hf]); dsimp only [zf]; (repeat (first | rw [if_pos (by omega)] | rw [if_neg (by omega)])); first | done | rfl | (rw [List.set_set]; rfl))) .nil)) (fun _ _ _ => trivial)
            ·
             refine W.del (.dr .rf) (W.skip (QS.next (W.seq (W.region ?_))))
             refine WL.st (R.fa fo_59_2 (.t L3)) rfl ?_
             refine WL.st (R.ld sc_57 (.t L0) H0 rfl) rfl ?_
             refine WL.st (R.eqi (.t L0) .c) rfl ?_
             refine WL.nil (QS.next (W.del (.kp (.dr (.dr .rf))) ?_))
             refine W.cd (.t L0) (fun h13 => ?_) (fun h13 => ?_)
             ·
              refine W.del (.dr .rf) (W.region ?_)
              refine WL.st (R.mv (.t L0)) rfl ?_
              refine WL.st (R.nc (.t L0)) rfl ?_
              refine WL.st (R.fa fo_130_1 (.t L0)) rfl ?_
              refine WL.st (R.ld sc_3 (.t L0) H1 (w_depth hk)) rfl ?_
              refine WL.st (R.vq (R.sub (.t L0) .c (wi (by omega) (by omega))) (show Value.int .i64 (((n1 + 1 : Nat) : Int) - 1) = Value.int .i64 ((n1 : Nat) : Int) from congrArg (Value.int .i64) (by omega))) rfl ?_
              refine WL.st (R.nc (.t L4)) rfl ?_
              refine WL.st (R.fa fo_130_1 (.t L0)) rfl ?_
              refine WL.sto sz_3 (.t L0) (.t L2) rfl rfl rfl C1 (wp_depth hk) ?_
              refine WL.nil (QS.blkn (QS.next (W.del (.dr (.dr (.dr (.dr (.dr (.dr (.dr .rf))))))) (W.seq (W.region ?_)))))
              refine WL.as .c U4 rfl ?_
              refine WL.nil (QS.next (W.ret ?_))
              exact QS.fin (.inl rfl) rfl (.tmp L4 .nil) () (by first | (exfalso; omega) | (unfold outerS; (first | rw [top_0] | rw [top_1 hf]); dsimp only [zf]; (repeat (first | rw [if_pos (by omega)] | rw [if_neg (by omega)])); first | done | rfl | (rw [List.set_set]; rfl))) (.dr (.kp (by first | (exfalso; omega) | (unfold outerS; (first | rw [top_0] | rw [top_1 hf]); dsimp only [zf]; (repeat (first | rw [if_pos (by omega)] | rw [if_neg (by omega)])); first | done | rfl | (rw [List.set_set]; rfl))) .nil)) (fun _ _ _ => trivial)
             ·
              refine W.del (.dr .rf) (W.region ?_)
              refine WL.st (R.mv (.t L5)) rfl ?_
              refine WL.st (R.mv (.t L6)) rfl ?_
              refine WL.st (R.mv (.t L7)) rfl ?_
              refine WL.st (R.nc (.t L0)) rfl ?_
              refine WL.st (R.fao fo_127_2 (.t L0) (k := n1 * 5 + 2) rfl) rfl ?_
              refine WL.st (R.ld sc_3 (.t L0) H1 (w_frame hf (j := 2) rfl)) rfl ?_
              refine WL.st (R.add (.t L0) .c (wi (by omega) (by omega))) rfl ?_
              refine WL.st (R.nc (.t L6)) rfl ?_
              refine WL.st (R.fao fo_127_2 (.t L0) (k := n1 * 5 + 2) rfl) rfl ?_
              refine WL.sto sz_3 (.t L0) (.t L2) rfl rfl rfl C1 (wp_frame (f' := ⟨f.kind, f.items, f.rows + 1, f.cells, f.wide⟩) hf (j := 2) (by repeat constructor)) ?_
              refine WL.st (R.nc (.t L7)) rfl ?_
              refine WL.st (R.fao fo_127_3 (.t L0) (k := n1 * 5 + 3) rfl) rfl ?_
              refine WL.sto sz_3 (.t L0) .c rfl rfl rfl C1 (wp_frame (f' := ⟨f.kind, f.items, f.rows + 1, 0, f.wide⟩) (set_get hf) (j := 3) (by repeat constructor)) ?_
              refine WL.nil (QS.blkn (QS.next (W.del (.dr (.dr (.dr (.dr (.dr (.dr (.dr (.dr (.dr (.dr (.dr .rf))))))))))) (W.seq (W.region ?_)))))
              refine WL.as .c U4 rfl ?_
              refine WL.nil (QS.next (W.ret ?_))
              exact QS.fin (.inl rfl) rfl (.tmp L4 .nil) () (by first | (exfalso; omega) | (unfold outerS; (first | rw [top_0] | rw [top_1 hf]); dsimp only [zf]; (repeat (first | rw [if_pos (by omega)] | rw [if_neg (by omega)])); first | done | rfl | (rw [List.set_set]; rfl))) (.dr (.kp (by first | (exfalso; omega) | (unfold outerS; (first | rw [top_0] | rw [top_1 hf]); dsimp only [zf]; (repeat (first | rw [if_pos (by omega)] | rw [if_neg (by omega)])); first | done | rfl | (rw [List.set_set]; rfl))) .nil)) (fun _ _ _ => trivial)
           ·
            refine WL.gn rfl L0 rfl ?_
            refine WL.gn rfl L1 rfl ?_
            refine WL.gn rfl L2 rfl ?_
            refine WL.gn rfl L3 rfl ?_
            refine WL.gn rfl L4 rfl ?_
            refine WL.gy rfl L9 (R.pkf (.t L5) .c) rfl ?_
            refine WL.st (R.pkf (.t (D1 L0)) (.t L0)) rfl ?_
            refine WL.nil (QS.next (W.del (.kp (.dr (.dr (.dr (.dr (.dr (.dr (.dr (.dr (.dr (.dr (.dr (.dr (.dr (.dr (.dr (.dr .rf))))))))))))))))) (W.cf (.t L0) (W.del (.dr .rf) (W.skip (QS.next (W.seq (W.region ?_))))))))
            refine WL.st (R.fa fo_59_2 (.t L3)) rfl ?_
            refine WL.st (R.ld sc_57 (.t L0) H0 rfl) rfl ?_
            refine WL.st (R.eqi (.t L0) .c) rfl ?_
            refine WL.nil (QS.next (W.del (.kp (.dr (.dr .rf))) ?_))
            refine W.cd (.t L0) (fun h13 => ?_) (fun h13 => ?_)
            ·
             refine W.del (.dr .rf) (W.region ?_)
             refine WL.st (R.mv (.t L0)) rfl ?_
             refine WL.st (R.nc (.t L0)) rfl ?_
             refine WL.st (R.fa fo_130_1 (.t L0)) rfl ?_
             refine WL.st (R.ld sc_3 (.t L0) H1 (w_depth hk)) rfl ?_
             refine WL.st (R.vq (R.sub (.t L0) .c (wi (by omega) (by omega))) (show Value.int .i64 (((n1 + 1 : Nat) : Int) - 1) = Value.int .i64 ((n1 : Nat) : Int) from congrArg (Value.int .i64) (by omega))) rfl ?_
             refine WL.st (R.nc (.t L4)) rfl ?_
             refine WL.st (R.fa fo_130_1 (.t L0)) rfl ?_
             refine WL.sto sz_3 (.t L0) (.t L2) rfl rfl rfl C1 (wp_depth hk) ?_
             refine WL.nil (QS.blkn (QS.next (W.del (.dr (.dr (.dr (.dr (.dr (.dr (.dr .rf))))))) (W.seq (W.region ?_)))))
             refine WL.as .c U4 rfl ?_
             refine WL.nil (QS.next (W.ret ?_))
             exact QS.fin (.inl rfl) rfl (.tmp L4 .nil) () (by first | (exfalso; omega) | (unfold outerS; (first | rw [top_0] | rw [top_1 hf]); dsimp only [zf]; (repeat (first | rw [if_pos (by omega)] | rw [if_neg (by omega)])); first | done | rfl | (rw [List.set_set]; rfl))) (.dr (.kp (by first | (exfalso; omega) | (unfold outerS; (first | rw [top_0] | rw [top_1 hf]); dsimp only [zf]; (repeat (first | rw [if_pos (by omega)] | rw [if_neg (by omega)])); first | done | rfl | (rw [List.set_set]; rfl))) .nil)) (fun _ _ _ => trivial)
            ·
             refine W.del (.dr .rf) (W.region ?_)
             refine WL.st (R.mv (.t L5)) rfl ?_
             refine WL.st (R.mv (.t L6)) rfl ?_
             refine WL.st (R.mv (.t L7)) rfl ?_
             refine WL.st (R.nc (.t L0)) rfl ?_
             refine WL.st (R.fao fo_127_2 (.t L0) (k := n1 * 5 + 2) rfl) rfl ?_
             refine WL.st (R.ld sc_3 (.t L0) H1 (w_frame hf (j := 2) rfl)) rfl ?_
             refine WL.st (R.add (.t L0) .c (wi (by omega) (by omega))) rfl ?_
             refine WL.st (R.nc (.t L6)) rfl ?_
             refine WL.st (R.fao fo_127_2 (.t L0) (k := n1 * 5 + 2) rfl) rfl ?_
             refine WL.sto sz_3 (.t L0) (.t L2) rfl rfl rfl C1 (wp_frame (f' := ⟨f.kind, f.items, f.rows + 1, f.cells, f.wide⟩) hf (j := 2) (by repeat constructor)) ?_
             refine WL.st (R.nc (.t L7)) rfl ?_
             refine WL.st (R.fao fo_127_3 (.t L0) (k := n1 * 5 + 3) rfl) rfl ?_
             refine WL.sto sz_3 (.t L0) .c rfl rfl rfl C1 (wp_frame (f' := ⟨f.kind, f.items, f.rows + 1, 0, f.wide⟩) (set_get hf) (j := 3) (by repeat constructor)) ?_
             refine WL.nil (QS.blkn (QS.next (W.del (.dr (.dr (.dr (.dr (.dr (.dr (.dr (.dr (.dr (.dr (.dr .rf))))))))))) (W.seq (W.region ?_)))))
             refine WL.as .c U4 rfl ?_
             refine WL.nil (QS.next (W.ret ?_))
             exact QS.fin (.inl rfl) rfl (.tmp L4 .nil) () (by first | (exfalso; omega) | (unfold outerS; (first | rw [top_0] | rw [top_1 hf]); dsimp only [zf]; (repeat (first | rw [if_pos (by omega)] | rw [if_neg (by omega)])); first | done | rfl | (rw [List.set_set]; rfl))) (.dr (.kp (by first | (exfalso; omega) | (unfold outerS; (first | rw [top_0] | rw [top_1 hf]); dsimp only [zf]; (repeat (first | rw [if_pos (by omega)] | rw [if_neg (by omega)])); first | done | rfl | (rw [List.set_set]; rfl))) .nil)) (fun _ _ _ => trivial)
          ·
           refine W.region ?_
           refine WL.st (R.eqi (.t L1) .c) rfl ?_
           refine WL.as (.t L0) U1 rfl ?_
           refine WL.nil (QS.next (W.del (.dr (.kp (.dr .rf))) ?_))
           refine W.cd (.t L0) (fun h11 => ?_) (fun h11 => ?_)
           ·
            refine W.del (.dr .rf) (W.seq (W.seq (W.region ?_)))
            refine WL.st (R.mv (.t L5)) rfl ?_
            refine WL.st (R.eqpn pt_149 (.t L0)) rfl ?_
            refine WL.st (R.mv (.t L0)) rfl ?_
            refine WL.gy rfl L0 (R.mv (.t (D1 L0))) rfl ?_
            refine WL.st (R.pkf (.t L1) (.t L0)) rfl ?_
            refine WL.st (R.mv (.t L0)) rfl ?_
            refine WL.gy rfl L0 (R.fa fo_59_2 (.t L9)) rfl ?_
            refine WL.gy rfl L1 (R.ld sc_57 (.t L0) H0 rfl) rfl ?_
            refine WL.gy rfl L2 (R.eqi (.t L0) .c) rfl ?_
            refine WL.gy rfl L3 (R.mv (.t L0)) rfl ?_
            refine WL.cd L0 U0 U0 (fun hg149 => ?_) (fun hg149 => ?_)
            ·
             refine WL.gy rfl L0 (R.mv (.t (D1 L5))) rfl ?_
             refine WL.gy rfl L1 (R.nc (.t L0)) rfl ?_
             refine WL.gy rfl L2 (R.fao fo_127_0 (.t L0) (k := n1 * 5 + 0) rfl) rfl ?_
             refine WL.gy rfl L3 (R.ld sc_57 (.t L0) H1 (w_frame hf (j := 0) rfl)) rfl ?_
             refine WL.gy rfl L4 (R.nei (.t L0) .c) rfl ?_
             refine WL.gy rfl L9 (R.pkt (.t L5) (.t L0)) rfl ?_
             refine WL.st (R.pkf (.t (D1 L0)) (.t L0)) rfl ?_
             refine WL.nil (QS.next (W.del (.kp (.dr (.dr (.dr (.dr (.dr (.dr (.dr (.dr (.dr (.dr (.dr (.dr (.dr (.dr (.dr (.dr .rf))))))))))))))))) ?_))
             refine W.cd (.t L0) (fun h12 => ?_) (fun h12 => ?_)
             ·
              refine W.del (.dr .rf) (W.seq (W.region ?_))
              refine WL.as .c U4 rfl ?_
              refine WL.nil (QS.next (W.ret (QS.thenr (QS.blkr (QS.thenr ?_)))))
              exact QS.fin (.inl rfl) rfl (.tmp L4 .nil) () (by first | (exfalso; omega) | (unfold outerS; (first | rw [top_0] | rw [top_1 hf]); dsimp only [zf]; (repeat (first | rw [if_pos (by omega)] | rw [if_neg (by omega)])); first | done | rfl | (rw [List.set_set]; rfl))) (.dr (.kp (by first | (exfalso; omega) | (unfold outerS; (first | rw [top_0] | rw [top_1 hf]); dsimp only [zf]; (repeat (first | rw [if_pos (by omega)] | rw [if_neg (by omega)])); first | done | rfl | (rw [List.set_set]; rfl))) .nil)) (fun _ _ _ => trivial)
             ·
              refine W.del (.dr .rf) (W.skip (QS.next (W.seq (W.region ?_))))
              refine WL.st (R.fa fo_59_2 (.t L3)) rfl ?_
              refine WL.st (R.ld sc_57 (.t L0) H0 rfl) rfl ?_
              refine WL.st (R.eqi (.t L0) .c) rfl ?_
              refine WL.nil (QS.next (W.del (.kp (.dr (.dr .rf))) ?_))
              refine W.cd (.t L0) (fun h13 => ?_) (fun h13 => ?_)
              ·
               refine W.del (.dr .rf) (W.region ?_)
               refine WL.st (R.mv (.t L0)) rfl ?_
               refine WL.st (R.nc (.t L0)) rfl ?_
               refine WL.st (R.fa fo_130_1 (.t L0)) rfl ?_
               refine WL.st (R.ld sc_3 (.t L0) H1 (w_depth hk)) rfl ?_
               refine WL.st (R.vq (R.sub (.t L0) .c (wi (by omega) (by omega))) (show Value.int .i64 (((n1 + 1 : Nat) : Int) - 1) = Value.int .i64 ((n1 : Nat) : Int) from congrArg (Value.int .i64) (by omega))) rfl ?_
               refine WL.st (R.nc (.t L4)) rfl ?_
               refine WL.st (R.fa fo_130_1 (.t L0)) rfl ?_
               refine WL.sto sz_3 (.t L0) (.t L2) rfl rfl rfl C1 (wp_depth hk) ?_
               refine WL.nil (QS.blkn (QS.next (W.del (.dr (.dr (.dr (.dr (.dr (.dr (.dr .rf))))))) (W.seq (W.region ?_)))))
               refine WL.as .c U4 rfl ?_
               refine WL.nil (QS.next (W.ret ?_))
               exact QS.fin (.inl rfl) rfl (.tmp L4 .nil) () (by first | (exfalso; omega) | (unfold outerS; (first | rw [top_0] | rw [top_1 hf]); dsimp only [zf]; (repeat (first | rw [if_pos (by omega)] | rw [if_neg (by omega)])); first | done | rfl | (rw [List.set_set]; rfl))) (.dr (.kp (by first | (exfalso; omega) | (unfold outerS; (first | rw [top_0] | rw [top_1 hf]); dsimp only [zf]; (repeat (first | rw [if_pos (by omega)] | rw [if_neg (by omega)])); first | done | rfl | (rw [List.set_set]; rfl))) .nil)) (fun _ _ _ => trivial)
              ·
               refine W.del (.dr .rf) (W.region ?_)
               refine WL.st (R.mv (.t L5)) rfl ?_
               refine WL.st (R.mv (.t L6)) rfl ?_
               refine WL.st (R.mv (.t L7)) rfl ?_
               refine WL.st (R.nc (.t L0)) rfl ?_
               refine WL.st (R.fao fo_127_2 (.t L0) (k := n1 * 5 + 2) rfl) rfl ?_
               refine WL.st (R.ld sc_3 (.t L0) H1 (w_frame hf (j := 2) rfl)) rfl ?_
               refine WL.st (R.add (.t L0) .c (wi (by omega) (by omega))) rfl ?_
               refine WL.st (R.nc (.t L6)) rfl ?_
               refine WL.st (R.fao fo_127_2 (.t L0) (k := n1 * 5 + 2) rfl) rfl ?_
               refine WL.sto sz_3 (.t L0) (.t L2) rfl rfl rfl C1 (wp_frame (f' := ⟨f.kind, f.items, f.rows + 1, f.cells, f.wide⟩) hf (j := 2) (by repeat constructor)) ?_
               refine WL.st (R.nc (.t L7)) rfl ?_
               refine WL.st (R.fao fo_127_3 (.t L0) (k := n1 * 5 + 3) rfl) rfl ?_
               refine WL.sto sz_3 (.t L0) .c rfl rfl rfl C1 (wp_frame (f' := ⟨f.kind, f.items, f.rows + 1, 0, f.wide⟩) (set_get hf) (j := 3) (by repeat constructor)) ?_
               refine WL.nil (QS.blkn (QS.next (W.del (.dr (.dr (.dr (.dr (.dr (.dr (.dr (.dr (.dr (.dr (.dr .rf))))))))))) (W.seq (W.region ?_)))))
               refine WL.as .c U4 rfl ?_
               refine WL.nil (QS.next (W.ret ?_))
               exact QS.fin (.inl rfl) rfl (.tmp L4 .nil) () (by first | (exfalso; omega) | (unfold outerS; (first | rw [top_0] | rw [top_1 hf]); dsimp only [zf]; (repeat (first | rw [if_pos (by omega)] | rw [if_neg (by omega)])); first | done | rfl | (rw [List.set_set]; rfl))) (.dr (.kp (by first | (exfalso; omega) | (unfold outerS; (first | rw [top_0] | rw [top_1 hf]); dsimp only [zf]; (repeat (first | rw [if_pos (by omega)] | rw [if_neg (by omega)])); first | done | rfl | (rw [List.set_set]; rfl))) .nil)) (fun _ _ _ => trivial)
            ·
             refine WL.gn rfl L0 rfl ?_
             refine WL.gn rfl L1 rfl ?_
             refine WL.gn rfl L2 rfl ?_
             refine WL.gn rfl L3 rfl ?_
             refine WL.gn rfl L4 rfl ?_
             refine WL.gy rfl L9 (R.pkf (.t L5) .c) rfl ?_
             refine WL.st (R.pkf (.t (D1 L0)) (.t L0)) rfl ?_
             refine WL.nil (QS.next (W.del (.kp (.dr (.dr (.dr (.dr (.dr (.dr (.dr (.dr (.dr (.dr (.dr (.dr (.dr (.dr (.dr (.dr .rf))))))))))))))))) (W.cf (.t L0) (W.del (.dr .rf) (W.skip (QS.next (W.seq (W.region ?_))))))))
             refine WL.st (R.fa fo_59_2 (.t L3)) rfl ?_
             refine WL.st (R.ld sc_57 (.t L0) H0 rfl) rfl ?_
             refine WL.st (R.eqi (.t L0) .c) rfl ?_
             refine WL.nil (QS.next (W.del (.kp (.dr (.dr .rf))) ?_))
             refine W.cd (.t L0) (fun h13 => ?_) (fun h13 => ?_)
             ·
              refine W.del (.dr .rf) (W.region ?_)
              refine WL.st (R.mv (.t L0)) rfl ?_
              refine WL.st (R.nc (.t L0)) rfl ?_
              refine WL.st (R.fa fo_130_1 (.t L0)) rfl ?_
              refine WL.st (R.ld sc_3 (.t L0) H1 (w_depth hk)) rfl ?_
              refine WL.st (R.vq (R.sub (.t L0) .c (wi (by omega) (by omega))) (show Value.int .i64 (((n1 + 1 : Nat) : Int) - 1) = Value.int .i64 ((n1 : Nat) : Int) from congrArg (Value.int .i64) (by omega))) rfl ?_
              refine WL.st (R.nc (.t L4)) rfl ?_
              refine WL.st (R.fa fo_130_1 (.t L0)) rfl ?_
              refine WL.sto sz_3 (.t L0) (.t L2) rfl rfl rfl C1 (wp_depth hk) ?_
              refine WL.nil (QS.blkn (QS.next (W.del (.dr (.dr (.dr (.dr (.dr (.dr (.dr .rf))))))) (W.seq (W.region ?_)))))
              refine WL.as .c U4 rfl ?_
              refine WL.nil (QS.next (W.ret ?_))
              exact QS.fin (.inl rfl) rfl (.tmp L4 .nil) () (by first | (exfalso; omega) | (unfold outerS; (first | rw [top_0] | rw [top_1 hf]); dsimp only [zf]; (repeat (first | rw [if_pos (by omega)] | rw [if_neg (by omega)])); first | done | rfl | (rw [List.set_set]; rfl))) (.dr (.kp (by first | (exfalso; omega) | (unfold outerS; (first | rw [top_0] | rw [top_1 hf]); dsimp only [zf]; (repeat (first | rw [if_pos (by omega)] | rw [if_neg (by omega)])); first | done | rfl | (rw [List.set_set]; rfl))) .nil)) (fun _ _ _ => trivial)
             ·
              refine W.del (.dr .rf) (W.region ?_)
              refine WL.st (R.mv (.t L5)) rfl ?_
              refine WL.st (R.mv (.t L6)) rfl ?_
              refine WL.st (R.mv (.t L7)) rfl ?_
              refine WL.st (R.nc (.t L0)) rfl ?_
              refine WL.st (R.fao fo_127_2 (.t L0) (k := n1 * 5 + 2) rfl) rfl ?_
              refine WL.st (R.ld sc_3 (.t L0) H1 (w_frame hf (j := 2) rfl)) rfl ?_
              refine WL.st (R.add (.t L0) .c (wi (by omega) (by omega))) rfl ?_
              refine WL.st (R.nc (.t L6)) rfl ?_
              refine WL.st (R.fao fo_127_2 (.t L0) (k := n1 * 5 + 2) rfl) rfl ?_
              refine WL.sto sz_3 (.t L0) (.t L2) rfl rfl rfl C1 (wp_frame (f' := ⟨f.kind, f.items, f.rows + 1, f.cells, f.wide⟩) hf (j := 2) (by repeat constructor)) ?_
              refine WL.st (R.nc (.t L7)) rfl ?_
              refine WL.st (R.fao fo_127_3 (.t L0) (k := n1 * 5 + 3) rfl) rfl ?_
              refine WL.sto sz_3 (.t L0) .c rfl rfl rfl C1 (wp_frame (f' := ⟨f.kind, f.items, f.rows + 1, 0, f.wide⟩) (set_get hf) (j := 3) (by repeat constructor)) ?_
              refine WL.nil (QS.blkn (QS.next (W.del (.dr (.dr (.dr (.dr (.dr (.dr (.dr (.dr (.dr (.dr (.dr .rf))))))))))) (W.seq (W.region ?_)))))
              refine WL.as .c U4 rfl ?_
              refine WL.nil (QS.next (W.ret ?_))
              exact QS.fin (.inl rfl) rfl (.tmp L4 .nil) () (by first | (exfalso; omega) | (unfold outerS; (first | rw [top_0] | rw [top_1 hf]); dsimp only [zf]; (repeat (first | rw [if_pos (by omega)] | rw [if_neg (by omega)])); first | done | rfl | (rw [List.set_set]; rfl))) (.dr (.kp (by first | (exfalso; omega) | (unfold outerS; (first | rw [top_0] | rw [top_1 hf]); dsimp only [zf]; (repeat (first | rw [if_pos (by omega)] | rw [if_neg (by omega)])); first | done | rfl | (rw [List.set_set]; rfl))) .nil)) (fun _ _ _ => trivial)
           ·
            refine W.del (.dr .rf) (W.seq (W.region ?_))
            refine WL.as .c U4 rfl ?_
            refine WL.nil (QS.next (W.ret (QS.blkr (QS.thenr ?_))))
            exact QS.fin (.inl rfl) rfl (.tmp L4 .nil) () (by first | (exfalso; omega) | (unfold outerS; (first | rw [top_0] | rw [top_1 hf]); dsimp only [zf]; (repeat (first | rw [if_pos (by omega)] | rw [if_neg (by omega)])); first | done | rfl | (rw [List.set_set]; rfl))) (.dr (.kp (by first | (exfalso; omega) | (unfold outerS; (first | rw [top_0] | rw [top_1 hf]); dsimp only [zf]; (repeat (first | rw [if_pos (by omega)] | rw [if_neg (by omega)])); first | done | rfl | (rw [List.set_set]; rfl))) .nil)) (fun _ _ _ => trivial)
  ·
   refine WL.gn rfl L0 rfl ?_
   refine WL.gn rfl L1 rfl ?_
   refine WL.gn rfl L2 rfl ?_
   refine WL.gn rfl L3 rfl ?_
   refine WL.gn rfl L4 rfl ?_
   refine WL.st (R.pkf (.t L5) .c) rfl ?_
   refine WL.as (.t L0) (E1 (E1 U2)) rfl ?_
   refine WL.nil (QS.next (W.del (.dr (.dr (.dr (.dr (.dr (.dr (.dr (.dr (.dr (.dr (.dr (.dr (.dr (.dr (.dr (.dr .rf)))))))))))))))) (W.seq ?_)))
   refine W.draw 28 mixed (by kernel_rfl) ?_
   refine HD.st (R.mv (.t L5)) rfl ?_
   refine HD.st (R.nepn pt_149 (.t L0)) rfl ?_
   refine HD.st (R.mv (.t L0)) rfl ?_
   refine HD.gy rfl L0 (R.mv (.t L8)) rfl ?_
   refine HD.gy rfl L1 (R.nc (.t L0)) rfl ?_
   refine HD.gy rfl L2 (R.fao fo_127_0 (.t L0) (k := n1 * 5 + 0) rfl) rfl ?_
   refine HD.gy rfl L3 (R.ld sc_57 (.t L0) H1 (w_frame hf (j := 0) rfl)) rfl ?_
   refine HD.gy rfl L4 (R.eqi (.t L0) .c) rfl ?_
   refine HD.st (R.pkt (.t L5) (.t L0)) rfl ?_
   refine HD.st (R.mv (.t L0)) rfl ?_
   refine HD.cd L0 U0 U0 (fun hg43 => ?_) (fun hg43 => ?_)
   ·
    refine HD.gy rfl L0 (R.mv (.t (D1 L5))) rfl ?_
    refine HD.gy rfl L1 (R.nc (.t L0)) rfl ?_
    refine HD.gy rfl L2 (R.fao fo_127_2 (.t L0) (k := n1 * 5 + 2) rfl) rfl ?_
    refine HD.gy rfl L3 (R.ld sc_3 (.t L0) H1 (w_frame hf (j := 2) rfl)) rfl ?_
    refine HD.gy rfl L4 (R.gtr (.t L0) .c) rfl ?_
    refine HD.st (R.pkt (.t L5) (.t L0)) rfl ?_
    refine HD.st (R.mv (.t L0)) rfl ?_
    refine HD.cd L0 U0 U0 (fun hg50 => ?_) (fun hg50 => ?_)
    ·
     refine HD.gy rfl L0 (R.mv (.t (D1 (D1 L2)))) rfl ?_
     refine HD.gy rfl L1 (R.nc (.t L0)) rfl ?_
     refine HD.gy rfl L2 (R.fao fo_127_3 (.t L0) (k := n1 * 5 + 3) rfl) rfl ?_
     refine HD.gy rfl L3 (R.ld sc_3 (.t L0) H1 (w_frame hf (j := 3) rfl)) rfl ?_
     refine HD.gy rfl L4 (R.mv (.t (D1 (D1 L6)))) rfl ?_
     refine HD.gy rfl L5 (R.nc (.t L0)) rfl ?_
     refine HD.gy rfl L6 (R.fao fo_127_4 (.t L0) (k := n1 * 5 + 4) rfl) rfl ?_
     refine HD.gy rfl L7 (R.ld sc_3 (.t L0) H1 (w_frame hf (j := 4) rfl)) rfl ?_
     refine HD.gy rfl L8 (R.lss (.t L4) (.t L0)) rfl ?_
     refine HD.st (R.pkt (.t L9) (.t L0)) rfl ?_
     refine HD.up (R.as (.t L0)) (E1 (E1 (E1 U4))) rfl ?_
     refine HD.nil (WL.nil (QS.next (W.del (.dr (.dr (.dr (.dr (.dr (.dr (.dr (.dr (.dr (.dr (.dr (.dr (.dr (.dr (.dr (.dr (.dr (.dr (.dr (.dr (.dr (.dr (.dr (.dr (.dr (.dr (.dr .rf))))))))))))))))))))))))))) (W.seq (W.seq (W.region ?_))))))
     refine WL.st (R.fa fo_59_2 (.t L3)) rfl ?_
     rcases Classical.em (f.cells < f.wide) with hx | hx
     ·
      have hit : f.cells < f.wide := by omega
      refine WL.rw L8 (v' := .bool true) (congrArg Value.bool (decide_eq_true (by omega))) U8 ?_
      refine WL.st (R.ld sc_57 (.t L0) H0 rfl) rfl ?_
      refine WL.nil (QS.next (W.del (.kp (.dr .rf)) (W.block (W.seq (W.region ?_)))))
      refine WL.st (R.eqi (.t L0) .c) rfl ?_
      refine WL.st (R.as (.t L0)) rfl ?_
      refine WL.nil (QS.next (W.del (.kp (.dr .rf)) ?_))
      refine W.cd (.t L0) (fun h1 => ?_) (fun h1 => ?_)
      ·
       refine W.del (.dr (.dr .rf)) (W.seq (W.region ?_))
       refine WL.st (R.mv (.t L5)) rfl ?_
       refine WL.st (R.eqpn pt_149 (.t L0)) rfl ?_
       refine WL.as (.t L0) U6 rfl ?_
       refine WL.nil (QS.next (W.del (.dr (.dr .rf)) (W.ret (QS.blkr (QS.thenr ?_)))))
       exact QS.fin (.inl rfl) rfl (.tmp L4 .nil) () (by first | (exfalso; omega) | (unfold outerS; (first | rw [top_0] | rw [top_1 hf]); dsimp only [zf]; (repeat (first | rw [if_pos (by omega)] | rw [if_neg (by omega)])); first | done | rfl | (rw [List.set_set]; rfl))) (.dr (.kp (by first | (exfalso; omega) | (unfold outerS; (first | rw [top_0] | rw [top_1 hf]); dsimp only [zf]; (repeat (first | rw [if_pos (by omega)] | rw [if_neg (by omega)])); first | done | rfl | (rw [List.set_set]; rfl))) .nil)) (fun _ _ _ => trivial)
      ·
       refine W.del (.dr .rf) (W.seq (W.region ?_))
       refine WL.st (R.eqi (.t L0) .c) rfl ?_
       refine WL.st (R.as (.t L0)) rfl ?_
       refine WL.nil (QS.next (W.del (.kp (.dr .rf)) ?_))
       refine W.cd (.t L0) (fun h2 => ?_) (fun h2 => ?_)
       ·
        refine W.del (.dr (.dr .rf)) (W.seq (W.seq (W.region ?_)))
        refine WL.st (R.mv (.t L5)) rfl ?_
        refine WL.st (R.nepn pt_149 (.t L0)) rfl ?_
        refine WL.st (R.mv (.t L0)) rfl ?_
        refine WL.gy rfl L0 (R.mv (.t L9)) rfl ?_
        refine WL.gy rfl L1 (R.notb (.t L0)) rfl ?_
        refine WL.st (R.pkt (.t L2) (.t L0)) rfl ?_
        refine WL.st (R.mv (.t L0)) rfl ?_
        refine WL.gy rfl L0 (R.mv (.t (D1 L4))) rfl ?_
        refine WL.gy rfl L1 (R.notb (.t L0)) rfl ?_
        refine WL.st (R.pkt (.t L2) (.t L0)) rfl ?_
        refine WL.nil (QS.next (W.del (.kp (.dr (.dr (.dr (.dr (.dr (.dr (.dr (.dr (.dr .rf)))))))))) (W.cf (.t L0) (W.del (.dr .rf) (W.skip (QS.next (W.seq (W.region ?_))))))))
        refine WL.st (R.mv (.t L0)) rfl ?_
        refine WL.st (R.fa fo_59_2 (.t L4)) rfl ?_
        refine WL.st (R.ld sc_57 (.t L0) H0 rfl) rfl ?_
        refine WL.st (R.bld (z := [.int .i64 0, .int .i64 0, .int .i64 0, .int .i64 0, .int .i64 0]) Tryd.underlying127 (by kernel_rfl) z_127 (.cons fo_127_0 fz_127_0 rfl (.t L0) rfl (by repeat constructor) .nil)) rfl ?_
        refine WL.call1r gf_91 .f (.cons (.t L3) (.cons (.t L0) .nil)) I1 (fun w ds hb => (walk_push (f := zf kind 0) hk (by omega) (hb.imp fun _ _ => trivial))) rfl ?_
        have hk0 := hk
        replace hk : (st.set (n1 + 1) (zf kind 0)).length = 32 := by simpa using hk0
        refine WL.nil (QS.next (W.del (.dr (.dr (.dr (.dr (.dr .rf))))) (W.region ?_)))
        refine WL.st (R.mv (.t L0)) rfl ?_
        refine WL.st (R.nc (.t L0)) rfl ?_
        refine WL.st (R.fa fo_130_2 (.t L0)) rfl ?_
        refine WL.sto sz_3 (.t L0) .c rfl rfl rfl C1 (wp_para hk) ?_
        refine WL.nil (QS.blkn (QS.next (W.del (.dr (.dr (.dr .rf))) (W.seq (W.region ?_)))))
        refine WL.as .c U4 rfl ?_
        refine WL.nil (QS.next (W.ret ?_))
        exact QS.fin (.inl rfl) rfl (.tmp L4 .nil) () (by first | (exfalso; omega) | (unfold outerS; (first | rw [top_0] | rw [top_1 hf]); dsimp only [zf]; (repeat (first | rw [if_pos (by omega)] | rw [if_neg (by omega)])); first | done | rfl | (rw [List.set_set]; rfl))) (.dr (.kp (by first | (exfalso; omega) | (unfold outerS; (first | rw [top_0] | rw [top_1 hf]); dsimp only [zf]; (repeat (first | rw [if_pos (by omega)] | rw [if_neg (by omega)])); first | done | rfl | (rw [List.set_set]; rfl))) .nil)) (fun _ _ _ => trivial)
       ·
        refine W.del (.dr .rf) (W.seq (W.region ?_))
        refine WL.st (R.eqi (.t L0) .c) rfl ?_
        refine WL.st (R.as (.t L0)) rfl ?_
        refine WL.nil (QS.next (W.del (.kp (.dr .rf)) ?_))
        refine W.cd (.t L0) (fun h4 => ?_) (fun h4 => ?_)
        ·
         refine W.del (.dr (.dr .rf)) (W.seq (W.seq (W.region ?_)))
         refine WL.st (R.mv (.t L5)) rfl ?_
         refine WL.st (R.nepn pt_149 (.t L0)) rfl ?_
         refine WL.st (R.mv (.t L0)) rfl ?_
         refine WL.gy rfl L0 (R.mv (.t L9)) rfl ?_
         refine WL.gy rfl L1 (R.notb (.t L0)) rfl ?_
         refine WL.st (R.pkt (.t L2) (.t L0)) rfl ?_
         refine WL.st (R.mv (.t L0)) rfl ?_
         refine WL.gn rfl L0 rfl ?_
         refine WL.gn rfl L1 rfl ?_
         refine WL.gn rfl L2 rfl ?_
         refine WL.gn rfl L3 rfl ?_
         refine WL.gn rfl L4 rfl ?_
         refine WL.st (R.pkt (.t L5) .c) rfl ?_
         refine WL.nil (QS.next (W.del (.kp (.dr (.dr (.dr (.dr (.dr (.dr (.dr (.dr (.dr (.dr (.dr (.dr .rf))))))))))))) (W.ct (.t L0) (W.del (.dr .rf) (W.seq (W.region ?_))))))
         refine WL.as .c U4 rfl ?_
         refine WL.nil (QS.next (W.ret (QS.thenr (QS.blkr (QS.thenr ?_)))))
         exact QS.fin (.inl rfl) rfl (.tmp L4 .nil) () (by first | (exfalso; omega) | (unfold outerS; (first | rw [top_0] | rw [top_1 hf]); dsimp only [zf]; (repeat (first | rw [if_pos (by omega)] | rw [if_neg (by omega)])); first | done | rfl | (rw [List.set_set]; rfl))) (.dr (.kp (by first | (exfalso; omega) | (unfold outerS; (first | rw [top_0] | rw [top_1 hf]); dsimp only [zf]; (repeat (first | rw [if_pos (by omega)] | rw [if_neg (by omega)])); first | done | rfl | (rw [List.set_set]; rfl))) .nil)) (fun _ _ _ => trivial)
        ·
         refine W.del (.dr .rf) (W.seq (W.region ?_))
         refine WL.st (R.eqi (.t L0) .c) rfl ?_
         refine WL.st (R.as (.t L0)) rfl ?_
         refine WL.nil (QS.next (W.del (.kp (.dr .rf)) ?_))
         refine W.cd (.t L0) (fun h6 => ?_) (fun h6 => ?_)
         ·
          refine W.del (.dr (.dr .rf)) (W.seq (W.seq (W.region ?_)))
          refine WL.st (R.mv (.t L5)) rfl ?_
          refine WL.st (R.eqpn pt_149 (.t L0)) rfl ?_
          refine WL.st (R.mv (.t L0)) rfl ?_
          refine WL.gy rfl L0 (R.mv (.t L8)) rfl ?_
          refine WL.gy rfl L1 (R.nc (.t L0)) rfl ?_
          refine WL.gy rfl L2 (R.fao fo_127_0 (.t L0) (k := n1 * 5 + 0) rfl) rfl ?_
          refine WL.gy rfl L3 (R.ld sc_57 (.t L0) H1 (w_frame hf (j := 0) rfl)) rfl ?_
          refine WL.gy rfl L4 (R.nei (.t L0) .c) rfl ?_
          refine WL.st (R.pkf (.t L5) (.t L0)) rfl ?_
          refine WL.nil (QS.next (W.del (.kp (.dr (.dr (.dr (.dr (.dr (.dr (.dr (.dr .rf))))))))) ?_))
          refine W.cd (.t L0) (fun h7 => ?_) (fun h7 => ?_)
          ·
           refine W.del (.dr .rf) (W.seq (W.region ?_))
           refine WL.as .c U4 rfl ?_
           refine WL.nil (QS.next (W.ret (QS.thenr (QS.blkr (QS.thenr ?_)))))
           exact QS.fin (.inl rfl) rfl (.tmp L4 .nil) () (by first | (exfalso; omega) | (unfold outerS; (first | rw [top_0] | rw [top_1 hf]); dsimp only [zf]; (repeat (first | rw [if_pos (by omega)] | rw [if_neg (by omega)])); first | done | rfl | (rw [List.set_set]; rfl))) (.dr (.kp (by first | (exfalso; omega) | (unfold outerS; (first | rw [top_0] | rw [top_1 hf]); dsimp only [zf]; (repeat (first | rw [if_pos (by omega)] | rw [if_neg (by omega)])); first | done | rfl | (rw [List.set_set]; rfl))) .nil)) (fun _ _ _ => trivial)
          ·
           refine W.del (.dr .rf) (W.skip (QS.next (W.region ?_)))
           refine WL.st (R.mv (.t L5)) rfl ?_
           refine WL.st (R.nc (.t L0)) rfl ?_
           refine WL.st (R.fao fo_127_1 (.t L0) (k := n1 * 5 + 1) rfl) rfl ?_
           refine WL.st (R.ld sc_3 (.t L0) H1 (w_frame hf (j := 1) rfl)) rfl ?_
           refine WL.st (R.add (.t L0) .c (wi (by omega) (by omega))) rfl ?_
           refine WL.st (R.nc (.t L4)) rfl ?_
           refine WL.st (R.fao fo_127_1 (.t L0) (k := n1 * 5 + 1) rfl) rfl ?_
           refine WL.sto sz_3 (.t L0) (.t L2) rfl rfl rfl C1 (wp_frame (f' := ⟨f.kind, f.items + 1, f.rows, f.cells, f.wide⟩) hf (j := 1) (by repeat constructor)) ?_
           refine WL.nil (QS.blkn (QS.next (W.del (.dr (.dr (.dr (.dr (.dr (.dr (.dr .rf))))))) (W.seq (W.region ?_)))))
           refine WL.as .c U4 rfl ?_
           refine WL.nil (QS.next (W.ret ?_))
           exact QS.fin (.inl rfl) rfl (.tmp L4 .nil) () (by first | (exfalso; omega) | (unfold outerS; (first | rw [top_0] | rw [top_1 hf]); dsimp only [zf]; (repeat (first | rw [if_pos (by omega)] | rw [if_neg (by omega)])); first | done | rfl | (rw [List.set_set]; rfl))) (.dr (.kp (by first | (exfalso; omega) | (unfold outerS; (first | rw [top_0] | rw [top_1 hf]); dsimp only [zf]; (repeat (first | rw [if_pos (by omega)] | rw [if_neg (by omega)])); first | done | rfl | (rw [List.set_set]; rfl))) .nil)) (fun _ _ _ => trivial)
         ·
          refine W.del (.dr .rf) (W.seq (W.region ?_))
          refine WL.st (R.eqi (.t L0) .c) rfl ?_
          refine WL.st (R.as (.t L0)) rfl ?_
          refine WL.nil (QS.next (W.del (.kp (.dr .rf)) ?_))
          refine W.cd (.t L0) (fun h8 => ?_) (fun h8 => ?_)
          ·
           refine W.del (.dr (.dr .rf)) (W.seq (W.seq (W.region ?_)))
           refine WL.st (R.mv (.t L5)) rfl ?_
           refine WL.st (R.nepn pt_149 (.t L0)) rfl ?_
           refine WL.nil (QS.next (W.del (.kp (.dr .rf)) (W.ct (.t L0) (W.del (.dr .rf) (W.seq (W.region ?_))))))
           refine WL.as .c U4 rfl ?_
           refine WL.nil (QS.next (W.ret (QS.thenr (QS.blkr (QS.thenr ?_)))))
           exact QS.fin (.inl rfl) rfl (.tmp L4 .nil) () (by first | (exfalso; omega) | (unfold outerS; (first | rw [top_0] | rw [top_1 hf]); dsimp only [zf]; (repeat (first | rw [if_pos (by omega)] | rw [if_neg (by omega)])); first | done | rfl | (rw [List.set_set]; rfl))) (.dr (.kp (by first | (exfalso; omega) | (unfold outerS; (first | rw [top_0] | rw [top_1 hf]); dsimp only [zf]; (repeat (first | rw [if_pos (by omega)] | rw [if_neg (by omega)])); first | done | rfl | (rw [List.set_set]; rfl))) .nil)) (fun _ _ _ => trivial)
          ·
           refine W.del (.dr .rf) (W.seq (W.seq (W.region ?_)))
           refine WL.st (R.eqi (.t L0) .c) rfl ?_
           refine WL.st (R.as (.t L0)) rfl ?_
           refine WL.nil (QS.next (W.del (.kp (.dr .rf)) ?_))
           refine W.cd (.t L0) (fun h10 => ?_) (fun h10 => ?_)
           ·
            refine W.del (.kp (.dr .rf)) (W.skip (QS.next ?_))
            refine W.cdt (.t L0) h10 ?_
            refine W.del (.dr .rf) (W.seq (W.seq (W.region ?_)))
            refine WL.st (R.mv (.t L5)) rfl ?_
            refine WL.st (R.eqpn pt_149 (.t L0)) rfl ?_
            refine WL.st (R.mv (.t L0)) rfl ?_
            refine WL.gy rfl L0 (R.mv (.t (D1 L0))) rfl ?_
            refine WL.st (R.pkf (.t L1) (.t L0)) rfl ?_
            refine WL.st (R.mv (.t L0)) rfl ?_
            refine WL.gn rfl L0 rfl ?_
            refine WL.gn rfl L1 rfl ?_
            refine WL.gn rfl L2 rfl ?_
            refine WL.gn rfl L3 rfl ?_
            refine WL.gu rfl L0 rfl ?_
            refine WL.gu rfl L1 rfl ?_
            refine WL.gu rfl L2 rfl ?_
            refine WL.gu rfl L3 rfl ?_
            refine WL.gu rfl L4 rfl ?_
            refine WL.gn rfl L9 rfl ?_
            refine WL.st (R.pkt (.t (D1 L0)) .c) rfl ?_
            refine WL.nil (QS.next (W.del (.kp (.dr (.dr (.dr (.dr (.dr (.dr (.dr (.dr (.dr (.dr (.dr (.dr (.dr (.dr (.dr (.dr .rf))))))))))))))))) (W.ct (.t L0) (W.del (.dr .rf) (W.seq (W.region ?_))))))
            refine WL.as .c U4 rfl ?_
            refine WL.nil (QS.next (W.ret (QS.thenr (QS.blkr (QS.thenr ?_)))))
            exact QS.fin (.inl rfl) rfl (.tmp L4 .nil) () (by first | (exfalso; omega) | (unfold outerS; (first | rw [top_0] | rw [top_1 hf]); dsimp only [zf]; (repeat (first | rw [if_pos (by omega)] | rw [if_neg (by omega)])); first | done | rfl | (rw [List.set_set]; rfl))) (.dr (.kp (by first | (exfalso; omega) | (unfold outerS; (first | rw [top_0] | rw [top_1 hf]); dsimp only [zf]; (repeat (first | rw [if_pos (by omega)] | rw [if_neg (by omega)])); first | done | rfl | (rw [List.set_set]; rfl))) .nil)) (fun _ _ _ => trivial)
           ·
            refine W.region ?_
            refine WL.st (R.eqi (.t L1) .c) rfl ?_
            refine WL.as (.t L0) U1 rfl ?_
            refine WL.nil (QS.next (W.del (.dr (.kp (.dr .rf))) ?_))
            refine W.cd (.t L0) (fun h11 => ?_) (fun h11 => ?_)
            ·
             refine W.del (.dr .rf) (W.seq (W.seq (W.region ?_)))
             refine WL.st (R.mv (.t L5)) rfl ?_
             refine WL.st (R.eqpn pt_149 (.t L0)) rfl ?_
             refine WL.st (R.mv (.t L0)) rfl ?_
             refine WL.gy rfl L0 (R.mv (.t (D1 L0))) rfl ?_
             refine WL.st (R.pkf (.t L1) (.t L0)) rfl ?_
             refine WL.st (R.mv (.t L0)) rfl ?_
             refine WL.gn rfl L0 rfl ?_
             refine WL.gn rfl L1 rfl ?_
             refine WL.gn rfl L2 rfl ?_
             refine WL.gn rfl L3 rfl ?_
             refine WL.gu rfl L0 rfl ?_
             refine WL.gu rfl L1 rfl ?_
             refine WL.gu rfl L2 rfl ?_
             refine WL.gu rfl L3 rfl ?_
             refine WL.gu rfl L4 rfl ?_
             refine WL.gn rfl L9 rfl ?_
             refine WL.st (R.pkt (.t (D1 L0)) .c) rfl ?_
             refine WL.nil (QS.next (W.del (.kp (.dr (.dr (.dr (.dr (.dr (.dr (.dr (.dr (.dr (.dr (.dr (.dr (.dr (.dr (.dr (.dr .rf))))))))))))))))) (W.ct (.t L0) (W.del (.dr .rf) (W.seq (W.region ?_))))))
             refine WL.as .c U4 rfl ?_
             refine WL.nil (QS.next (W.ret (QS.thenr (QS.blkr (QS.thenr ?_)))))
             exact QS.fin (.inl rfl) rfl (.tmp L4 .nil) () (by first | (exfalso; omega) | (unfold outerS; (first | rw [top_0] | rw [top_1 hf]); dsimp only [zf]; (repeat (first | rw [if_pos (by omega)] | rw [if_neg (by omega)])); first | done | rfl | (rw [List.set_set]; rfl))) (.dr (.kp (by first | (exfalso; omega) | (unfold outerS; (first | rw [top_0] | rw [top_1 hf]); dsimp only [zf]; (repeat (first | rw [if_pos (by omega)] | rw [if_neg (by omega)])); first | done | rfl | (rw [List.set_set]; rfl))) .nil)) (fun _ _ _ => trivial)
            ·
             refine W.del (.dr .rf) (W.seq (W.region ?_))
             refine WL.as .c U4 rfl ?_
             refine WL.nil (QS.next (W.ret (QS.blkr (QS.thenr ?_))))
             exact QS.fin (.inl rfl) rfl (.tmp L4 .nil) () (by first | (exfalso; omega) | (unfold outerS; (first | rw [top_0] | rw [top_1 hf]); dsimp only [zf]; (repeat (first | rw [if_pos (by omega)] | rw [if_neg (by omega)])); first | done | rfl | (rw [List.set_set]; rfl))) (.dr (.kp (by first | (exfalso; omega) | (unfold outerS; (first | rw [top_0] | rw [top_1 hf]); dsimp only [zf]; (repeat (first | rw [if_pos (by omega)] | rw [if_neg (by omega)])); first | done | rfl | (rw [List.set_set]; rfl))) .nil)) (fun _ _ _ => trivial)
     ·
      have hit : ¬ f.cells < f.wide := by omega
      refine WL.rw L8 (v' := .bool false) (congrArg Value.bool (decide_eq_false (by omega))) U8 ?_
      refine WL.st (R.ld sc_57 (.t L0) H0 rfl) rfl ?_
      refine WL.nil (QS.next (W.del (.kp (.dr .rf)) (W.block (W.seq (W.region ?_)))))
      refine WL.st (R.eqi (.t L0) .c) rfl ?_
      refine WL.st (R.as (.t L0)) rfl ?_
      refine WL.nil (QS.next (W.del (.kp (.dr .rf)) ?_))
      refine W.cd (.t L0) (fun h1 => ?_) (fun h1 => ?_)
      ·
       refine W.del (.dr (.dr .rf)) (W.seq (W.region ?_))
       refine WL.st (R.mv (.t L5)) rfl ?_
       refine WL.st (R.eqpn pt_149 (.t L0)) rfl ?_
       refine WL.as (.t L0) U6 rfl ?_
       refine WL.nil (QS.next (W.del (.dr (.dr .rf)) (W.ret (QS.blkr (QS.thenr ?_)))))
       exact QS.fin (.inl rfl) rfl (.tmp L4 .nil) () (by first | (exfalso; omega) | (unfold outerS; (first | rw [top_0] | rw [top_1 hf]); dsimp only [zf]; (repeat (first | rw [if_pos (by omega)] | rw [if_neg (by omega)])); first | done | rfl | (rw [List.set_set]; rfl))) (.dr (.kp (by first | (exfalso; omega) | (unfold outerS; (first | rw [top_0] | rw [top_1 hf]); dsimp only [zf]; (repeat (first | rw [if_pos (by omega)] | rw [if_neg (by omega)])); first | done | rfl | (rw [List.set_set]; rfl))) .nil)) (fun _ _ _ => trivial)
      ·
       refine W.del (.dr .rf) (W.seq (W.region ?_))
       refine WL.st (R.eqi (.t L0) .c) rfl ?_
       refine WL.st (R.as (.t L0)) rfl ?_
       refine WL.nil (QS.next (W.del (.kp (.dr .rf)) ?_))
       refine W.cd (.t L0) (fun h2 => ?_) (fun h2 => ?_)
       ·
        refine W.del (.dr (.dr .rf)) (W.seq (W.seq (W.region ?_)))
        refine WL.st (R.mv (.t L5)) rfl ?_
        refine WL.st (R.nepn pt_149 (.t L0)) rfl ?_
        refine WL.st (R.mv (.t L0)) rfl ?_
        refine WL.gy rfl L0 (R.mv (.t L9)) rfl ?_
        refine WL.gy rfl L1 (R.notb (.t L0)) rfl ?_
        refine WL.st (R.pkt (.t L2) (.t L0)) rfl ?_
        refine WL.st (R.mv (.t L0)) rfl ?_
        refine WL.gy rfl L0 (R.mv (.t (D1 L4))) rfl ?_
        refine WL.gy rfl L1 (R.notb (.t L0)) rfl ?_
        refine WL.st (R.pkt (.t L2) (.t L0)) rfl ?_
        refine WL.nil (QS.next (W.del (.kp (.dr (.dr (.dr (.dr (.dr (.dr (.dr (.dr (.dr .rf)))))))))) (W.ct (.t L0) (W.del (.dr .rf) (W.seq (W.region ?_))))))
        refine WL.as .c U4 rfl ?_
        refine WL.nil (QS.next (W.ret (QS.thenr (QS.blkr (QS.thenr ?_)))))
        exact QS.fin (.inl rfl) rfl (.tmp L4 .nil) () (by first | (exfalso; omega) | (unfold outerS; (first | rw [top_0] | rw [top_1 hf]); dsimp only [zf]; (repeat (first | rw [if_pos (by omega)] | rw [if_neg (by omega)])); first | done | rfl | (rw [List.set_set]; rfl))) (.dr (.kp (by first | (exfalso; omega) | (unfold outerS; (first | rw [top_0] | rw [top_1 hf]); dsimp only [zf]; (repeat (first | rw [if_pos (by omega)] | rw [if_neg (by omega)])); first | done | rfl | (rw [List.set_set]; rfl))) .nil)) (fun _ _ _ => trivial)
       ·
        refine W.del (.dr .rf) (W.seq (W.region ?_))
        refine WL.st (R.eqi (.t L0) .c) rfl ?_
        refine WL.st (R.as (.t L0)) rfl ?_
        refine WL.nil (QS.next (W.del (.kp (.dr .rf)) ?_))
        refine W.cd (.t L0) (fun h4 => ?_) (fun h4 => ?_)
        ·
         refine W.del (.dr (.dr .rf)) (W.seq (W.seq (W.region ?_)))
         refine WL.st (R.mv (.t L5)) rfl ?_
         refine WL.st (R.nepn pt_149 (.t L0)) rfl ?_
         refine WL.st (R.mv (.t L0)) rfl ?_
         refine WL.gy rfl L0 (R.mv (.t L9)) rfl ?_
         refine WL.gy rfl L1 (R.notb (.t L0)) rfl ?_
         refine WL.st (R.pkt (.t L2) (.t L0)) rfl ?_
         refine WL.st (R.mv (.t L0)) rfl ?_
         refine WL.gn rfl L0 rfl ?_
         refine WL.gn rfl L1 rfl ?_
         refine WL.gn rfl L2 rfl ?_
         refine WL.gn rfl L3 rfl ?_
         refine WL.gn rfl L4 rfl ?_
         refine WL.st (R.pkt (.t L5) .c) rfl ?_
         refine WL.nil (QS.next (W.del (.kp (.dr (.dr (.dr (.dr (.dr (.dr (.dr (.dr (.dr (.dr (.dr (.dr .rf))))))))))))) (W.ct (.t L0) (W.del (.dr .rf) (W.seq (W.region ?_))))))
         refine WL.as .c U4 rfl ?_
         refine WL.nil (QS.next (W.ret (QS.thenr (QS.blkr (QS.thenr ?_)))))
         exact QS.fin (.inl rfl) rfl (.tmp L4 .nil) () (by first | (exfalso; omega) | (unfold outerS; (first | rw [top_0] | rw [top_1 hf]); dsimp only [zf]; (repeat (first | rw [if_pos (by omega)] | rw [if_neg (by omega)])); first | done | rfl | (rw [List.set_set]; rfl))) (.dr (.kp (by first | (exfalso; omega) | (unfold outerS; (first | rw [top_0] | rw [top_1 hf]); dsimp only [zf]; (repeat (first | rw [if_pos (by omega)] | rw [if_neg (by omega)])); first | done | rfl | (rw [List.set_set]; rfl))) .nil)) (fun _ _ _ => trivial)
        ·
         refine W.del (.dr .rf) (W.seq (W.region ?_))
         refine WL.st (R.eqi (.t L0) .c) rfl ?_
         refine WL.st (R.as (.t L0)) rfl ?_
         refine WL.nil (QS.next (W.del (.kp (.dr .rf)) ?_))
         refine W.cd (.t L0) (fun h6 => ?_) (fun h6 => ?_)
         ·
          refine W.del (.dr (.dr .rf)) (W.seq (W.seq (W.region ?_)))
          refine WL.st (R.mv (.t L5)) rfl ?_
          refine WL.st (R.eqpn pt_149 (.t L0)) rfl ?_
          refine WL.st (R.mv (.t L0)) rfl ?_
          refine WL.gy rfl L0 (R.mv (.t L8)) rfl ?_
          refine WL.gy rfl L1 (R.nc (.t L0)) rfl ?_
          refine WL.gy rfl L2 (R.fao fo_127_0 (.t L0) (k := n1 * 5 + 0) rfl) rfl ?_
          refine WL.gy rfl L3 (R.ld sc_57 (.t L0) H1 (w_frame hf (j := 0) rfl)) rfl ?_
          refine WL.gy rfl L4 (R.nei (.t L0) .c) rfl ?_
          refine WL.st (R.pkf (.t L5) (.t L0)) rfl ?_
          refine WL.nil (QS.next (W.del (.kp (.dr (.dr (.dr (.dr (.dr (.dr (.dr (.dr .rf))))))))) ?_))
          refine W.cd (.t L0) (fun h7 => ?_) (fun h7 => ?_)
          ·
           refine W.del (.dr .rf) (W.seq (W.region ?_))
           refine WL.as .c U4 rfl ?_
           refine WL.nil (QS.next (W.ret (QS.thenr (QS.blkr (QS.thenr ?_)))))
           exact QS.fin (.inl rfl) rfl (.tmp L4 .nil) () (by first | (exfalso; omega) | (unfold outerS; (first | rw [top_0] | rw [top_1 hf]); dsimp only [zf]; (repeat (first | rw [if_pos (by omega)] | rw [if_neg (by omega)])); first | done | rfl | (rw [List.set_set]; rfl))) (.dr (.kp (by first | (exfalso; omega) | (unfold outerS; (first | rw [top_0] | rw [top_1 hf]); dsimp only [zf]; (repeat (first | rw [if_pos (by omega)] | rw [if_neg (by omega)])); first | done | rfl | (rw [List.set_set]; rfl))) .nil)) (fun _ _ _ => trivial)
          ·
           refine W.del (.dr .rf) (W.skip (QS.next (W.region ?_)))
           refine WL.st (R.mv (.t L5)) rfl ?_
           refine WL.st (R.nc (.t L0)) rfl ?_
           refine WL.st (R.fao fo_127_1 (.t L0) (k := n1 * 5 + 1) rfl) rfl ?_
           refine WL.st (R.ld sc_3 (.t L0) H1 (w_frame hf (j := 1) rfl)) rfl ?_
           refine WL.st (R.add (.t L0) .c (wi (by omega) (by omega))) rfl ?_
           refine WL.st (R.nc (.t L4)) rfl ?_
           refine WL.st (R.fao fo_127_1 (.t L0) (k := n1 * 5 + 1) rfl) rfl ?_
           refine WL.sto sz_3 (.t L0) (.t L2) rfl rfl rfl C1 (wp_frame (f' := ⟨f.kind, f.items + 1, f.rows, f.cells, f.wide⟩) hf (j := 1) (by repeat constructor)) ?_
           refine WL.nil (QS.blkn (QS.next (W.del (.dr (.dr (.dr (.dr (.dr (.dr (.dr .rf))))))) (W.seq (W.region ?_)))))
           refine WL.as .c U4 rfl ?_
           refine WL.nil (QS.next (W.ret ?_))
           exact QS.fin (.inl rfl) rfl (.tmp L4 .nil) () (by first | (exfalso; omega) | (unfold outerS; (first | rw [top_0] | rw [top_1 hf]); dsimp only [zf]; (repeat (first | rw [if_pos (by omega)] | rw [if_neg (by omega)])); first | done | rfl | (rw [List.set_set]; rfl))) (.dr (.kp (by first | (exfalso; omega) | (unfold outerS; (first | rw [top_0] | rw [top_1 hf]); dsimp only [zf]; (repeat (first | rw [if_pos (by omega)] | rw [if_neg (by omega)])); first | done | rfl | (rw [List.set_set]; rfl))) .nil)) (fun _ _ _ => trivial)
         ·
          refine W.del (.dr .rf) (W.seq (W.region ?_))
          refine WL.st (R.eqi (.t L0) .c) rfl ?_
          refine WL.st (R.as (.t L0)) rfl ?_
          refine WL.nil (QS.next (W.del (.kp (.dr .rf)) ?_))
          refine W.cd (.t L0) (fun h8 => ?_) (fun h8 => ?_)
          ·
           refine W.del (.dr (.dr .rf)) (W.seq (W.seq (W.region ?_)))
           refine WL.st (R.mv (.t L5)) rfl ?_
           refine WL.st (R.nepn pt_149 (.t L0)) rfl ?_
           refine WL.nil (QS.next (W.del (.kp (.dr .rf)) (W.ct (.t L0) (W.del (.dr .rf) (W.seq (W.region ?_))))))
           refine WL.as .c U4 rfl ?_
           refine WL.nil (QS.next (W.ret (QS.thenr (QS.blkr (QS.thenr ?_)))))
           exact QS.fin (.inl rfl) rfl (.tmp L4 .nil) () (by first | (exfalso; omega) | (unfold outerS; (first | rw [top_0] | rw [top_1 hf]); dsimp only [zf]; (repeat (first | rw [if_pos (by omega)] | rw [if_neg (by omega)])); first | done | rfl | (rw [List.set_set]; rfl))) (.dr (.kp (by first | (exfalso; omega) | (unfold outerS; (first | rw [top_0] | rw [top_1 hf]); dsimp only [zf]; (repeat (first | rw [if_pos (by omega)] | rw [if_neg (by omega)])); first | done | rfl | (rw [List.set_set]; rfl))) .nil)) (fun _ _ _ => trivial)
          ·
           refine W.del (.dr .rf) (W.seq (W.seq (W.region ?_)))
           refine WL.st (R.eqi (.t L0) .c) rfl ?_
           refine WL.st (R.as (.t L0)) rfl ?_
           refine WL.nil (QS.next (W.del (.kp (.dr .rf)) ?_))
           refine W.cd (.t L0) (fun h10 => ?_) (fun h10 => ?_)
           ·
            refine W.del (.kp (.dr .rf)) (W.skip (QS.next ?_))
            refine W.cdt (.t L0) h10 ?_
            refine W.del (.dr .rf) (W.seq (W.seq (W.region ?_)))
            refine WL.st (R.mv (.t L5)) rfl ?_
            refine WL.st (R.eqpn pt_149 (.t L0)) rfl ?_
            refine WL.st (R.mv (.t L0)) rfl ?_
            refine WL.gy rfl L0 (R.mv (.t (D1 L0))) rfl ?_
            refine WL.st (R.pkf (.t L1) (.t L0)) rfl ?_
            refine WL.st (R.mv (.t L0)) rfl ?_
            refine WL.gy rfl L0 (R.fa fo_59_2 (.t L9)) rfl ?_
            refine WL.gy rfl L1 (R.ld sc_57 (.t L0) H0 rfl) rfl ?_
            refine WL.gy rfl L2 (R.eqi (.t L0) .c) rfl ?_
            refine WL.gy rfl L3 (R.mv (.t L0)) rfl ?_
            refine WL.cd L0 U0 U0 (fun hg149 => ?_) (fun hg149 => ?_)
            ·
             refine WL.gy rfl L0 (R.mv (.t (D1 L5))) rfl ?_
             refine WL.gy rfl L1 (R.nc (.t L0)) rfl ?_
             refine WL.gy rfl L2 (R.fao fo_127_0 (.t L0) (k := n1 * 5 + 0) rfl) rfl ?_
             refine WL.gy rfl L3 (R.ld sc_57 (.t L0) H1 (w_frame hf (j := 0) rfl)) rfl ?_
             refine WL.gy rfl L4 (R.nei (.t L0) .c) rfl ?_
             refine WL.gy rfl L9 (R.pkt (.t L5) (.t L0)) rfl ?_
             refine WL.st (R.pkf (.t (D1 L0)) (.t L0)) rfl ?_
             refine WL.nil (QS.next (W.del (.kp (.dr (.dr (.dr (.dr (.dr (.dr (.dr (.dr (.dr (.dr (.dr (.dr (.dr (.dr (.dr (.dr .rf))))))))))))))))) ?_))
             refine W.cd (.t L0) (fun h12 => ?_) (fun h12 => ?_)
             ·
              refine W.del (.dr .rf) (W.seq (W.region ?_))
              refine WL.as .c U4 rfl ?_
              refine WL.nil (QS.next (W.ret (QS.thenr (QS.blkr (QS.thenr ?_)))))
              exact QS.fin (.inl rfl) rfl (.tmp L4 .nil) () (by first | (exfalso; omega) | (unfold outerS; (first | rw [top_0] | rw [top_1 hf]); dsimp only [zf]; (repeat (first | rw [if_pos (by omega)] | rw [if_neg (by omega)])); first | done | rfl | (rw [List.set_set]; rfl))) (.dr (.kp (by first | (exfalso; omega) | (unfold outerS; (first | rw [top_0] | rw [top_1 hf]); dsimp only [zf]; (repeat (first | rw [if_pos (by omega)] | rw [if_neg (by omega)])); first | done | rfl | (rw [List.set_set]; rfl))) .nil)) (fun _ _ _ => trivial)
             ·
              refine W.del (.dr .rf) (W.skip (QS.next (W.seq (W.region ?_))))
              refine WL.st (R.fa fo_59_2 (.t L3)) rfl ?_
              refine WL.st (R.ld sc_57 (.t L0) H0 rfl) rfl ?_
              refine WL.st (R.eqi (.t L0) .c) rfl ?_
              refine WL.nil (QS.next (W.del (.kp (.dr (.dr .rf))) ?_))
              refine W.cd (.t L0) (fun h13 => ?_) (fun h13 => ?_)
              ·
               refine W.del (.dr .rf) (W.region ?_)
               refine WL.st (R.mv (.t L0)) rfl ?_
               refine WL.st (R.nc (.t L0)) rfl ?_
               refine WL.st (R.fa fo_130_1 (.t L0)) rfl ?_
               refine WL.st (R.ld sc_3 (.t L0) H1 (w_depth hk)) rfl ?_
               refine WL.st (R.vq (R.sub (.t L0) .c (wi (by omega) (by omega))) (show Value.int .i64 (((n1 + 1 : Nat) : Int) - 1) = Value.int .i64 ((n1 : Nat) : Int) from congrArg (Value.int .i64) (by omega))) rfl ?_
               refine WL.st (R.nc (.t L4)) rfl ?_
               refine WL.st (R.fa fo_130_1 (.t L0)) rfl ?_
               refine WL.sto sz_3 (.t L0) (.t L2) rfl rfl rfl C1 (wp_depth hk) ?_
               refine WL.nil (QS.blkn (QS.next (W.del (.dr (.dr (.dr (.dr (.dr (.dr (.dr .rf))))))) (W.seq (W.region ?_)))))
               refine WL.as .c U4 rfl ?_
               refine WL.nil (QS.next (W.ret ?_))
               exact QS.fin (.inl rfl) rfl (.tmp L4 .nil) () (by first | (exfalso; omega) | (unfold outerS; (first | rw [top_0] | rw [top_1 hf]); dsimp only [zf]; (repeat (first | rw [if_pos (by omega)] | rw [if_neg (by omega)])); first | done | rfl | (rw [List.set_set]; rfl))) (.dr (.kp (by first | (exfalso; omega) | (unfold outerS; (first | rw [top_0] | rw [top_1 hf]); dsimp only [zf]; (repeat (first | rw [if_pos (by omega)] | rw [if_neg (by omega)])); first | done | rfl | (rw [List.set_set]; rfl))) .nil)) (fun _ _ _ => trivial)
              ·
               refine W.del (.dr .rf) (W.region ?_)
               refine WL.st (R.mv (.t L5)) rfl ?_
               refine WL.st (R.mv (.t L6)) rfl ?_
               refine WL.st (R.mv (.t L7)) rfl ?_
               refine WL.st (R.nc (.t L0)) rfl ?_
               refine WL.st (R.fao fo_127_2 (.t L0) (k := n1 * 5 + 2) rfl) rfl ?_
               refine WL.st (R.ld sc_3 (.t L0) H1 (w_frame hf (j := 2) rfl)) rfl ?_
               refine WL.st (R.add (.t L0) .c (wi (by omega) (by omega))) rfl ?_
               refine WL.st (R.nc (.t L6)) rfl ?_
               refine WL.st (R.fao fo_127_2 (.t L0) (k := n1 * 5 + 2) rfl) rfl ?_
               refine WL.sto sz_3 (.t L0) (.t L2) rfl rfl rfl C1 (wp_frame (f' := ⟨f.kind, f.items, f.rows + 1, f.cells, f.wide⟩) hf (j := 2) (by repeat constructor)) ?_
               refine WL.st (R.nc (.t L7)) rfl ?_
               refine WL.st (R.fao fo_127_3 (.t L0) (k := n1 * 5 + 3) rfl) rfl ?_
               refine WL.sto sz_3 (.t L0) .c rfl rfl rfl C1 (wp_frame (f' := ⟨f.kind, f.items, f.rows + 1, 0, f.wide⟩) (set_get hf) (j := 3) (by repeat constructor)) ?_
               refine WL.nil (QS.blkn (QS.next (W.del (.dr (.dr (.dr (.dr (.dr (.dr (.dr (.dr (.dr (.dr (.dr .rf))))))))))) (W.seq (W.region ?_)))))
               refine WL.as .c U4 rfl ?_
               refine WL.nil (QS.next (W.ret ?_))
               exact QS.fin (.inl rfl) rfl (.tmp L4 .nil) () (by first | (exfalso; omega) | (unfold outerS; (first | rw [top_0] | rw [top_1 hf]); dsimp only [zf]; (repeat (first | rw [if_pos (by omega)] | rw [if_neg (by omega)])); first | done | rfl | (rw [List.set_set]; rfl))) (.dr (.kp (by first | (exfalso; omega) | (unfold outerS; (first | rw [top_0] | rw [top_1 hf]); dsimp only [zf]; (repeat (first | rw [if_pos (by omega)] | rw [if_neg (by omega)])); first | done | rfl | (rw [List.set_set]; rfl))) .nil)) (fun _ _ _ => trivial)
            ·
             refine WL.gn rfl L0 rfl ?_
             refine WL.gn rfl L1 rfl ?_
             refine WL.gn rfl L2 rfl ?_
             refine WL.gn rfl L3 rfl ?_
             refine WL.gn rfl L4 rfl ?_
             refine WL.gy rfl L9 (R.pkf (.t L5) .c) rfl ?_
             refine WL.st (R.pkf (.t (D1 L0)) (.t L0)) rfl ?_
             refine WL.nil (QS.next (W.del (.kp (.dr (.dr (.dr (.dr (.dr (.dr (.dr (.dr (.dr (.dr (.dr (.dr (.dr (.dr (.dr (.dr .rf))))))))))))))))) (W.cf (.t L0) (W.del (.dr .rf) (W.skip (QS.next (W.seq (W.region ?_))))))))
             refine WL.st (R.fa fo_59_2 (.t L3)) rfl ?_
             refine WL.st (R.ld sc_57 (.t L0) H0 rfl) rfl ?_
             refine WL.st (R.eqi (.t L0) .c) rfl ?_
             refine WL.nil (QS.next (W.del (.kp (.dr (.dr .rf))) ?_))
             refine W.cd (.t L0) (fun h13 => ?_) (fun h13 => ?_)
             ·
              refine W.del (.dr .rf) (W.region ?_)
              refine WL.st (R.mv (.t L0)) rfl ?_
              refine WL.st (R.nc (.t L0)) rfl ?_
              refine WL.st (R.fa fo_130_1 (.t L0)) rfl ?_
              refine WL.st (R.ld sc_3 (.t L0) H1 (w_depth hk)) rfl ?_
              refine WL.st (R.vq (R.sub (.t L0) .c (wi (by omega) (by omega))) (show Value.int .i64 (((n1 + 1 : Nat) : Int) - 1) = Value.int .i64 ((n1 : Nat) : Int) from congrArg (Value.int .i64) (by omega))) rfl ?_
              refine WL.st (R.nc (.t L4)) rfl ?_
              refine WL.st (R.fa fo_130_1 (.t L0)) rfl ?_
              refine WL.sto sz_3 (.t L0) (.t L2) rfl rfl rfl C1 (wp_depth hk) ?_
              refine WL.nil (QS.blkn (QS.next (W.del (.dr (.dr (.dr (.dr (.dr (.dr (.dr .rf))))))) (W.seq (W.region ?_)))))
              refine WL.as .c U4 rfl ?_
              refine WL.nil (QS.next (W.ret ?_))
              exact QS.fin (.inl rfl) rfl (.tmp L4 .nil) () (by first | (exfalso; omega) | (unfold outerS; (first | rw [top_0] | rw [top_1 hf]); dsimp only [zf]; (repeat (first | rw [if_pos (by omega)] | rw [if_neg (by omega)])); first | done | rfl | (rw [List.set_set]; rfl))) (.dr (.kp (by first | (exfalso; omega) | (unfold outerS; (first | rw [top_0] | rw [top_1 hf]); dsimp only [zf]; (repeat (first | rw [if_pos (by omega)] | rw [if_neg (by omega)])); first | done | rfl | (rw [List.set_set]; rfl))) .nil)) (fun _ _ _ => trivial)
             ·
              refine W.del (.dr .rf) (W.region ?_)
              refine WL.st (R.mv (.t L5)) rfl ?_
              refine WL.st (R.mv (.t L6)) rfl ?_
              refine WL.st (R.mv (.t L7)) rfl ?_
              refine WL.st (R.nc (.t L0)) rfl ?_
              refine WL.st (R.fao fo_127_2 (.t L0) (k := n1 * 5 + 2) rfl) rfl ?_
              refine WL.st (R.ld sc_3 (.t L0) H1 (w_frame hf (j := 2) rfl)) rfl ?_
              refine WL.st (R.add (.t L0) .c (wi (by omega) (by omega))) rfl ?_
              refine WL.st (R.nc (.t L6)) rfl ?_
              refine WL.st (R.fao fo_127_2 (.t L0) (k := n1 * 5 + 2) rfl) rfl ?_
              refine WL.sto sz_3 (.t L0) (.t L2) rfl rfl rfl C1 (wp_frame (f' := ⟨f.kind, f.items, f.rows + 1, f.cells, f.wide⟩) hf (j := 2) (by repeat constructor)) ?_
              refine WL.st (R.nc (.t L7)) rfl ?_
              refine WL.st (R.fao fo_127_3 (.t L0) (k := n1 * 5 + 3) rfl) rfl ?_
              refine WL.sto sz_3 (.t L0) .c rfl rfl rfl C1 (wp_frame (f' := ⟨f.kind, f.items, f.rows + 1, 0, f.wide⟩) (set_get hf) (j := 3) (by repeat constructor)) ?_
              refine WL.nil (QS.blkn (QS.next (W.del (.dr (.dr (.dr (.dr (.dr (.dr (.dr (.dr (.dr (.dr (.dr .rf))))))))))) (W.seq (W.region ?_)))))
              refine WL.as .c U4 rfl ?_
              refine WL.nil (QS.next (W.ret ?_))
              exact QS.fin (.inl rfl) rfl (.tmp L4 .nil) () (by first | (exfalso; omega) | (unfold outerS; (first | rw [top_0] | rw [top_1 hf]); dsimp only [zf]; (repeat (first | rw [if_pos (by omega)] | rw [if_neg (by omega)])); first | done | rfl | (rw [List.set_set]; rfl))) (.dr (.kp (by first | (exfalso; omega) | (unfold outerS; (first | rw [top_0] | rw [top_1 hf]); dsimp only [zf]; (repeat (first | rw [if_pos (by omega)] | rw [if_neg (by omega)])); first | done | rfl | (rw [List.set_set]; rfl))) .nil)) (fun _ _ _ => trivial)
           ·
            refine W.region ?_
            refine WL.st (R.eqi (.t L1) .c) rfl ?_
            refine WL.as (.t L0) U1 rfl ?_
            refine WL.nil (QS.next (W.del (.dr (.kp (.dr .rf))) ?_))
            refine W.cd (.t L0) (fun h11 => ?_) (fun h11 => ?_)
            ·
             refine W.del (.dr .rf) (W.seq (W.seq (W.region ?_)))
             refine WL.st (R.mv (.t L5)) rfl ?_
             refine WL.st (R.eqpn pt_149 (.t L0)) rfl ?_
             refine WL.st (R.mv (.t L0)) rfl ?_
             refine WL.gy rfl L0 (R.mv (.t (D1 L0))) rfl ?_
             refine WL.st (R.pkf (.t L1) (.t L0)) rfl ?_
             refine WL.st (R.mv (.t L0)) rfl ?_
             refine WL.gy rfl L0 (R.fa fo_59_2 (.t L9)) rfl ?_
             refine WL.gy rfl L1 (R.ld sc_57 (.t L0) H0 rfl) rfl ?_
             refine WL.gy rfl L2 (R.eqi (.t L0) .c) rfl ?_
             refine WL.gy rfl L3 (R.mv (.t L0)) rfl ?_
             refine WL.cd L0 U0 U0 (fun hg149 => ?_) (fun hg149 => ?_)
             ·
              refine WL.gy rfl L0 (R.mv (.t (D1 L5))) rfl ?_
              refine WL.gy rfl L1 (R.nc (.t L0)) rfl ?_
              refine WL.gy rfl L2 (R.fao fo_127_0 (.t L0) (k := n1 * 5 + 0) rfl) rfl ?_
              refine WL.gy rfl L3 (R.ld sc_57 (.t L0) H1 (w_frame hf (j := 0) rfl)) rfl ?_
              refine WL.gy rfl L4 (R.nei (.t L0) .c) rfl ?_
              refine WL.gy rfl L9 (R.pkt (.t L5) (.t L0)) rfl ?_
              refine WL.st (R.pkf (.t (D1 L0)) (.t L0)) rfl ?_
              refine WL.nil (QS.next (W.del (.kp (.dr (.dr (.dr (.dr (.dr (.dr (.dr (.dr (.dr (.dr (.dr (.dr (.dr (.dr (.dr (.dr .rf))))))))))))))))) ?_))
              refine W.cd (.t L0) (fun h12 => ?_) (fun h12 => ?_)
              ·
               refine W.del (.dr .rf) (W.seq (W.region ?_))
               refine WL.as .c U4 rfl ?_
               refine WL.nil (QS.next (W.ret (QS.thenr (QS.blkr (QS.thenr ?_)))))
               exact QS.fin (.inl rfl) rfl (.tmp L4 .nil) () (by first | (exfalso; omega) | (unfold outerS; (first | rw [top_0] | rw [top_1 hf]); dsimp only [zf]; (repeat (first | rw [if_pos (by omega)] | rw [if_neg (by omega)])); first | done | rfl | (rw [List.set_set]; rfl))) (.dr (.kp (by first | (exfalso; omega) | (unfold outerS; (first | rw [top_0] | rw [top_1 hf]); dsimp only [zf]; (repeat (first | rw [if_pos (by omega)] | rw [if_neg (by omega)])); first | done | rfl | (rw [List.set_set]; rfl))) .nil)) (fun _ _ _ => trivial)
              ·
               refine W.del (.dr .rf) (W.skip (QS.next (W.seq (W.region ?_))))
               refine WL.st (R.fa fo_59_2 (.t L3)) rfl ?_
               refine WL.st (R.ld sc_57 (.t L0) H0 rfl) rfl ?_
               refine WL.st (R.eqi (.t L0) .c) rfl ?_
               refine WL.nil (QS.next (W.del (.kp (.dr (.dr .rf))) ?_))
               refine W.cd (.t L0) (fun h13 => ?_) (fun h13 => ?_)
               ·
                refine W.del (.dr .rf) (W.region ?_)
                refine WL.st (R.mv (.t L0)) rfl ?_
                refine WL.st (R.nc (.t L0)) rfl ?_
                refine WL.st (R.fa fo_130_1 (.t L0)) rfl ?_
                refine WL.st (R.ld sc_3 (.t L0) H1 (w_depth hk)) rfl ?_
                refine WL.st (R.vq (R.sub (.t L0) .c (wi (by omega) (by omega))) (show Value.int .i64 (((n1 + 1 : Nat) : Int) - 1) = Value.int .i64 ((n1 : Nat) : Int) from congrArg (Value.int .i64) (by omega))) rfl ?_
                refine WL.st (R.nc (.t L4)) rfl ?_
                refine WL.st (R.fa fo_130_1 (.t L0)) rfl ?_
                refine WL.sto sz_3 (.t L0) (.t L2) rfl rfl rfl C1 (wp_depth hk) ?_
                refine WL.nil (QS.blkn (QS.next (W.del (.dr (.dr (.dr (.dr (.dr (.dr (.dr .rf))))))) (W.seq (W.region ?_)))))
                refine WL.as .c U4 rfl ?_
                refine WL.nil (QS.next (W.ret ?_))
                exact QS.fin (.inl rfl) rfl (.tmp L4 .nil) () (by first | (exfalso; omega) | (unfold outerS; (first | rw [top_0] | rw [top_1 hf]); dsimp only [zf]; (repeat (first | rw [if_pos (by omega)] | rw [if_neg (by omega)])); first | done | rfl | (rw [List.set_set]; rfl))) (.dr (.kp (by first | (exfalso; omega) | (unfold outerS; (first | rw [top_0] | rw [top_1 hf]); dsimp only [zf]; (repeat (first | rw [if_pos (by omega)] | rw [if_neg (by omega)])); first | done | rfl | (rw [List.set_set]; rfl))) .nil)) (fun _ _ _ => trivial)
               ·
                refine W.del (.dr .rf) (W.region ?_)
                refine WL.st (R.mv (.t L5)) rfl ?_
                refine WL.st (R.mv (.t L6)) rfl ?_
                refine WL.st (R.mv (.t L7)) rfl ?_
                refine WL.st (R.nc (.t L0)) rfl ?_
                refine WL.st (R.fao fo_127_2 (.t L0) (k := n1 * 5 + 2) rfl) rfl ?_
                refine WL.st (R.ld sc_3 (.t L0) H1 (w_frame hf (j := 2) rfl)) rfl ?_
                refine WL.st (R.add (.t L0) .c (wi (by omega) (by omega))) rfl ?_
                refine WL.st (R.nc (.t L6)) rfl ?_
                refine WL.st (R.fao fo_127_2 (.t L0) (k := n1 * 5 + 2) rfl) rfl ?_
                refine WL.sto sz_3 (.t L0) (.t L2) rfl rfl rfl C1 (wp_frame (f' := ⟨f.kind, f.items, f.rows + 1, f.cells, f.wide⟩) hf (j := 2) (by repeat constructor)) ?_
                refine WL.st (R.nc (.t L7)) rfl ?_
                refine WL.st (R.fao fo_127_3 (.t L0) (k := n1 * 5 + 3) rfl) rfl ?_
                refine WL.sto sz_3 (.t L0) .c rfl rfl rfl C1 (wp_frame (f' := ⟨f.kind, f.items, f.rows + 1, 0, f.wide⟩) (set_get hf) (j := 3) (by repeat constructor)) ?_
                refine WL.nil (QS.blkn (QS.next (W.del (.dr (.dr (.dr (.dr (.dr (.dr (.dr (.dr (.dr (.dr (.dr .rf))))))))))) (W.seq (W.region ?_)))))
                refine WL.as .c U4 rfl ?_
                refine WL.nil (QS.next (W.ret ?_))
                exact QS.fin (.inl rfl) rfl (.tmp L4 .nil) () (by first | (exfalso; omega) | (unfold outerS; (first | rw [top_0] | rw [top_1 hf]); dsimp only [zf]; (repeat (first | rw [if_pos (by omega)] | rw [if_neg (by omega)])); first | done | rfl | (rw [List.set_set]; rfl))) (.dr (.kp (by first | (exfalso; omega) | (unfold outerS; (first | rw [top_0] | rw [top_1 hf]); dsimp only [zf]; (repeat (first | rw [if_pos (by omega)] | rw [if_neg (by omega)])); first | done | rfl | (rw [List.set_set]; rfl))) .nil)) (fun _ _ _ => trivial)
             ·
              refine WL.gn rfl L0 rfl ?_
              refine WL.gn rfl L1 rfl ?_
              refine WL.gn rfl L2 rfl ?_
              refine WL.gn rfl L3 rfl ?_
              refine WL.gn rfl L4 rfl ?_
              refine WL.gy rfl L9 (R.pkf (.t L5) .c) rfl ?_
              refine WL.st (R.pkf (.t (D1 L0)) (.t L0)) rfl ?_
              refine WL.nil (QS.next (W.del (.kp (.dr (.dr (.dr (.dr (.dr (.dr (.dr (.dr (.dr (.dr (.dr (.dr (.dr (.dr (.dr (.dr .rf))))))))))))))))) (W.cf (.t L0) (W.del (.dr .rf) (W.skip (QS.next (W.seq (W.region ?_))))))))
              refine WL.st (R.fa fo_59_2 (.t L3)) rfl ?_
              refine WL.st (R.ld sc_57 (.t L0) H0 rfl) rfl ?_
              refine WL.st (R.eqi (.t L0) .c) rfl ?_
              refine WL.nil (QS.next (W.del (.kp (.dr (.dr .rf))) ?_))
              refine W.cd (.t L0) (fun h13 => ?_) (fun h13 => ?_)
              ·
               refine W.del (.dr .rf) (W.region ?_)
               refine WL.st (R.mv (.t L0)) rfl ?_
               refine WL.st (R.nc (.t L0)) rfl ?_
               refine WL.st (R.fa fo_130_1 (.t L0)) rfl ?_
               refine WL.st (R.ld sc_3 (.t L0) H1 (w_depth hk)) rfl ?_
               refine WL.st (R.vq (R.sub (.t L0) .c (wi (by omega) (by omega))) (show Value.int .i64 (((n1 + 1 : Nat) : Int) - 1) = Value.int .i64 ((n1 : Nat) : Int) from congrArg (Value.int .i64) (by omega))) rfl ?_
               refine WL.st (R.nc (.t L4)) rfl ?_
               refine WL.st (R.fa fo_130_1 (.t L0)) rfl ?_
               refine WL.sto sz_3 (.t L0) (.t L2) rfl rfl rfl C1 (wp_depth hk) ?_
               refine WL.nil (QS.blkn (QS.next (W.del (.dr (.dr (.dr (.dr (.dr (.dr (.dr .rf))))))) (W.seq (W.region ?_)))))
               refine WL.as .c U4 rfl ?_
               refine WL.nil (QS.next (W.ret ?_))
               exact QS.fin (.inl rfl) rfl (.tmp L4 .nil) () (by first | (exfalso; omega) | (unfold outerS; (first | rw [top_0] | rw [top_1 hf]); dsimp only [zf]; (repeat (first | rw [if_pos (by omega)] | rw [if_neg (by omega)])); first | done | rfl | (rw [List.set_set]; rfl))) (.dr (.kp (by first | (exfalso; omega) | (unfold outerS; (first | rw [top_0] | rw [top_1 hf]); dsimp only [zf]; (repeat (first | rw [if_pos (by omega)] | rw [if_neg (by omega)])); first | done | rfl | (rw [List.set_set]; rfl))) .nil)) (fun _ _ _ => trivial)
              ·
               refine W.del (.dr .rf) (W.region ?_)
               refine WL.st (R.mv (.t L5)) rfl ?_
               refine WL.st (R.mv (.t L6)) rfl ?_
               refine WL.st (R.mv (.t L7)) rfl ?_
               refine WL.st (R.nc (.t L0)) rfl ?_
               refine WL.st (R.fao fo_127_2 (.t L0) (k := n1 * 5 + 2) rfl) rfl ?_
               refine WL.st (R.ld sc_3 (.t L0) H1 (w_frame hf (j := 2) rfl)) rfl ?_
               refine WL.st (R.add (.t L0) .c (wi (by omega) (by omega))) rfl ?_
               refine WL.st (R.nc (.t L6)) rfl ?_
               refine WL.st (R.fao fo_127_2 (.t L0) (k := n1 * 5 + 2) rfl) rfl ?_
               refine WL.sto sz_3 (.t L0) (.t L2) rfl rfl rfl C1 (wp_frame (f' := ⟨f.kind, f.items, f.rows + 1, f.cells, f.wide⟩) hf (j := 2) (by repeat constructor)) ?_
               refine WL.st (R.nc (.t L7)) rfl ?_
               refine WL.st (R.fao fo_127_3 (.t L0) (k := n1 * 5 + 3) rfl) rfl ?_
               refine WL.sto sz_3 (.t L0) .c rfl rfl rfl C1 (wp_frame (f' := ⟨f.kind, f.items, f.rows + 1, 0, f.wide⟩) (set_get hf) (j := 3) (by repeat constructor)) ?_
               refine WL.nil (QS.blkn (QS.next (W.del (.dr (.dr (.dr (.dr (.dr (.dr (.dr (.dr (.dr (.dr (.dr .rf))))))))))) (W.seq (W.region ?_)))))
               refine WL.as .c U4 rfl ?_
               refine WL.nil (QS.next (W.ret ?_))
               exact QS.fin (.inl rfl) rfl (.tmp L4 .nil) () (by first | (exfalso; omega) | (unfold outerS; (first | rw [top_0] | rw [top_1 hf]); dsimp only [zf]; (repeat (first | rw [if_pos (by omega)] | rw [if_neg (by omega)])); first | done | rfl | (rw [List.set_set]; rfl))) (.dr (.kp (by first | (exfalso; omega) | (unfold outerS; (first | rw [top_0] | rw [top_1 hf]); dsimp only [zf]; (repeat (first | rw [if_pos (by omega)] | rw [if_neg (by omega)])); first | done | rfl | (rw [List.set_set]; rfl))) .nil)) (fun _ _ _ => trivial)
            ·
             refine W.del (.dr .rf) (W.seq (W.region ?_))
             refine WL.as .c U4 rfl ?_
             refine WL.nil (QS.next (W.ret (QS.blkr (QS.thenr ?_))))
             exact QS.fin (.inl rfl) rfl (.tmp L4 .nil) () (by first | (exfalso; omega) | (unfold outerS; (first | rw [top_0] | rw [top_1 hf]); dsimp only [zf]; (repeat (first | rw [if_pos (by omega)] | rw [if_neg (by omega)])); first | done | rfl | (rw [List.set_set]; rfl))) (.dr (.kp (by first | (exfalso; omega) | (unfold outerS; (first | rw [top_0] | rw [top_1 hf]); dsimp only [zf]; (repeat (first | rw [if_pos (by omega)] | rw [if_neg (by omega)])); first | done | rfl | (rw [List.set_set]; rfl))) .nil)) (fun _ _ _ => trivial)
    ·
     refine HD.gn rfl L0 rfl ?_
     refine HD.gn rfl L1 rfl ?_
     refine HD.gn rfl L2 rfl ?_
     refine HD.gn rfl L3 rfl ?_
     refine HD.gn rfl L4 rfl ?_
     refine HD.gn rfl L5 rfl ?_
     refine HD.gn rfl L6 rfl ?_
     refine HD.gn rfl L7 rfl ?_
     refine HD.gn rfl L8 rfl ?_
     refine HD.st (R.pkf (.t L9) .c) rfl ?_
     refine HD.up (R.as (.t L0)) (E1 (E1 (E1 U4))) rfl ?_
     refine HD.nil (WL.nil (QS.next (W.del (.dr (.dr (.dr (.dr (.dr (.dr (.dr (.dr (.dr (.dr (.dr (.dr (.dr (.dr (.dr (.dr (.dr (.dr (.dr (.dr (.dr (.dr (.dr (.dr (.dr (.dr (.dr .rf))))))))))))))))))))))))))) (W.seq (W.seq (W.region ?_))))))
     refine WL.st (R.fa fo_59_2 (.t L3)) rfl ?_
     refine WL.st (R.ld sc_57 (.t L0) H0 rfl) rfl ?_
     refine WL.nil (QS.next (W.del (.kp (.dr .rf)) (W.block (W.seq (W.region ?_)))))
     refine WL.st (R.eqi (.t L0) .c) rfl ?_
     refine WL.st (R.as (.t L0)) rfl ?_
     refine WL.nil (QS.next (W.del (.kp (.dr .rf)) ?_))
     refine W.cd (.t L0) (fun h1 => ?_) (fun h1 => ?_)
     ·
      refine W.del (.dr (.dr .rf)) (W.seq (W.region ?_))
      refine WL.st (R.mv (.t L5)) rfl ?_
      refine WL.st (R.eqpn pt_149 (.t L0)) rfl ?_
      refine WL.as (.t L0) U6 rfl ?_
      refine WL.nil (QS.next (W.del (.dr (.dr .rf)) (W.ret (QS.blkr (QS.thenr ?_)))))
      exact QS.fin (.inl rfl) rfl (.tmp L4 .nil) () (by first | (exfalso; omega) | (unfold outerS; (first | rw [top_0] | rw [top_1 hf]); dsimp only [zf]; (repeat (first | rw [if_pos (by omega)] | rw [if_neg (by omega)])); first | done | rfl | (rw [List.set_set]; rfl))) (.dr (.kp (by first | (exfalso; omega) | (unfold outerS; (first | rw [top_0] | rw [top_1 hf]); dsimp only [zf]; (repeat (first | rw [if_pos (by omega)] | rw [if_neg (by omega)])); first | done | rfl | (rw [List.set_set]; rfl))) .nil)) (fun _ _ _ => trivial)
     ·
      refine W.del (.dr .rf) (W.seq (W.region ?_))
      refine WL.st (R.eqi (.t L0) .c) rfl ?_
      refine WL.st (R.as (.t L0)) rfl ?_
      refine WL.nil (QS.next (W.del (.kp (.dr .rf)) ?_))
      refine W.cd (.t L0) (fun h2 => ?_) (fun h2 => ?_)
      ·
       refine W.del (.dr (.dr .rf)) (W.seq (W.seq (W.region ?_)))
       refine WL.st (R.mv (.t L5)) rfl ?_
       refine WL.st (R.nepn pt_149 (.t L0)) rfl ?_
       refine WL.st (R.mv (.t L0)) rfl ?_
       refine WL.gy rfl L0 (R.mv (.t L9)) rfl ?_
       refine WL.gy rfl L1 (R.notb (.t L0)) rfl ?_
       refine WL.st (R.pkt (.t L2) (.t L0)) rfl ?_
       refine WL.st (R.mv (.t L0)) rfl ?_
       refine WL.gy rfl L0 (R.mv (.t (D1 L4))) rfl ?_
       refine WL.gy rfl L1 (R.notb (.t L0)) rfl ?_
       refine WL.st (R.pkt (.t L2) (.t L0)) rfl ?_
       refine WL.nil (QS.next (W.del (.kp (.dr (.dr (.dr (.dr (.dr (.dr (.dr (.dr (.dr .rf)))))))))) (W.ct (.t L0) (W.del (.dr .rf) (W.seq (W.region ?_))))))
       refine WL.as .c U4 rfl ?_
       refine WL.nil (QS.next (W.ret (QS.thenr (QS.blkr (QS.thenr ?_)))))
       exact QS.fin (.inl rfl) rfl (.tmp L4 .nil) () (by first | (exfalso; omega) | (unfold outerS; (first | rw [top_0] | rw [top_1 hf]); dsimp only [zf]; (repeat (first | rw [if_pos (by omega)] | rw [if_neg (by omega)])); first | done | rfl | (rw [List.set_set]; rfl))) (.dr (.kp (by first | (exfalso; omega) | (unfold outerS; (first | rw [top_0] | rw [top_1 hf]); dsimp only [zf]; (repeat (first | rw [if_pos (by omega)] | rw [if_neg (by omega)])); first | done | rfl | (rw [List.set_set]; rfl))) .nil)) (fun _ _ _ => trivial)
      ·
       refine W.del (.dr .rf) (W.seq (W.region ?_))
       refine WL.st (R.eqi (.t L0) .c) rfl ?_
       refine WL.st (R.as (.t L0)) rfl ?_
       refine WL.nil (QS.next (W.del (.kp (.dr .rf)) ?_))
       refine W.cd (.t L0) (fun h4 => ?_) (fun h4 => ?_)
       ·
        refine W.del (.dr (.dr .rf)) (W.seq (W.seq (W.region ?_)))
        refine WL.st (R.mv (.t L5)) rfl ?_
        refine WL.st (R.nepn pt_149 (.t L0)) rfl ?_
        refine WL.st (R.mv (.t L0)) rfl ?_
        refine WL.gy rfl L0 (R.mv (.t L9)) rfl ?_
        refine WL.gy rfl L1 (R.notb (.t L0)) rfl ?_
        refine WL.st (R.pkt (.t L2) (.t L0)) rfl ?_
        refine WL.st (R.mv (.t L0)) rfl ?_
        refine WL.gn rfl L0 rfl ?_
        refine WL.gn rfl L1 rfl ?_
        refine WL.gn rfl L2 rfl ?_
        refine WL.gn rfl L3 rfl ?_
        refine WL.gn rfl L4 rfl ?_
        refine WL.st (R.pkt (.t L5) .c) rfl ?_
        refine WL.nil (QS.next (W.del (.kp (.dr (.dr (.dr (.dr (.dr (.dr (.dr (.dr (.dr (.dr (.dr (.dr .rf))))))))))))) (W.ct (.t L0) (W.del (.dr .rf) (W.seq (W.region ?_))))))
        refine WL.as .c U4 rfl ?_
        refine WL.nil (QS.next (W.ret (QS.thenr (QS.blkr (QS.thenr ?_)))))
        exact QS.fin (.inl rfl) rfl (.tmp L4 .nil) () (by first | (exfalso; omega) | (unfold outerS; (first | rw [top_0] | rw [top_1 hf]); dsimp only [zf]; (repeat (first | rw [if_pos (by omega)] | rw [if_neg (by omega)])); first | done | rfl | (rw [List.set_set]; rfl))) (.dr (.kp (by first | (exfalso; omega) | (unfold outerS; (first | rw [top_0] | rw [top_1 hf]); dsimp only [zf]; (repeat (first | rw [if_pos (by omega)] | rw [if_neg (by omega)])); first | done | rfl | (rw [List.set_set]; rfl))) .nil)) (fun _ _ _ => trivial)
       ·
        refine W.del (.dr .rf) (W.seq (W.region ?_))
        refine WL.st (R.eqi (.t L0) .c) rfl ?_
        refine WL.st (R.as (.t L0)) rfl ?_
        refine WL.nil (QS.next (W.del (.kp (.dr .rf)) ?_))
        refine W.cd (.t L0) (fun h6 => ?_) (fun h6 => ?_)
        ·
         refine W.del (.dr (.dr .rf)) (W.seq (W.seq (W.region ?_)))
         refine WL.st (R.mv (.t L5)) rfl ?_
         refine WL.st (R.eqpn pt_149 (.t L0)) rfl ?_
         refine WL.st (R.mv (.t L0)) rfl ?_
         refine WL.gy rfl L0 (R.mv (.t L8)) rfl ?_
         refine WL.gy rfl L1 (R.nc (.t L0)) rfl ?_
         refine WL.gy rfl L2 (R.fao fo_127_0 (.t L0) (k := n1 * 5 + 0) rfl) rfl ?_
         refine WL.gy rfl L3 (R.ld sc_57 (.t L0) H1 (w_frame hf (j := 0) rfl)) rfl ?_
         refine WL.gy rfl L4 (R.nei (.t L0) .c) rfl ?_
         refine WL.st (R.pkf (.t L5) (.t L0)) rfl ?_
         refine WL.nil (QS.next (W.del (.kp (.dr (.dr (.dr (.dr (.dr (.dr (.dr (.dr .rf))))))))) ?_))
         refine W.cd (.t L0) (fun h7 => ?_) (fun h7 => ?_)
         ·
          refine W.del (.dr .rf) (W.seq (W.region ?_))
          refine WL.as .c U4 rfl ?_
          refine WL.nil (QS.next (W.ret (QS.thenr (QS.blkr (QS.thenr ?_)))))
          exact QS.fin (.inl rfl) rfl (.tmp L4 .nil) () (by first | (exfalso; omega) | (unfold outerS; (first | rw [top_0] | rw [top_1 hf]); dsimp only [zf]; (repeat (first | rw [if_pos (by omega)] | rw [if_neg (by omega)])); first | done | rfl | (rw [List.set_set]; rfl))) (.dr (.kp (by first | (exfalso; omega) | (unfold outerS; (first | rw [top_0] | rw [top_1 hf]); dsimp only [zf]; (repeat (first | rw [if_pos (by omega)] | rw [if_neg (by omega)])); first | done | rfl | (rw [List.set_set]; rfl))) .nil)) (fun _ _ _ => trivial)
         ·
          refine W.del (.dr .rf) (W.skip (QS.next (W.region ?_)))
          refine WL.st (R.mv (.t L5)) rfl ?_
          refine WL.st (R.nc (.t L0)) rfl ?_
          refine WL.st (R.fao fo_127_1 (.t L0) (k := n1 * 5 + 1) rfl) rfl ?_
          refine WL.st (R.ld sc_3 (.t L0) H1 (w_frame hf (j := 1) rfl)) rfl ?_
          refine WL.st (R.add (.t L0) .c (wi (by omega) (by omega))) rfl ?_
          refine WL.st (R.nc (.t L4)) rfl ?_
          refine WL.st (R.fao fo_127_1 (.t L0) (k := n1 * 5 + 1) rfl) rfl ?_
          refine WL.sto sz_3 (.t L0) (.t L2) rfl rfl rfl C1 (wp_frame (f' := ⟨f.kind, f.items + 1, f.rows, f.cells, f.wide⟩) hf (j := 1) (by repeat constructor)) ?_
          refine WL.nil (QS.blkn (QS.next (W.del (.dr (.dr (.dr (.dr (.dr (.dr (.dr .rf))))))) (W.seq (W.region ?_)))))
          refine WL.as .c U4 rfl ?_
          refine WL.nil (QS.next (W.ret ?_))
          exact QS.fin (.inl rfl) rfl (.tmp L4 .nil) () (by first | (exfalso; omega) | (unfold outerS; (first | rw [top_0] | rw [top_1 hf]); dsimp only [zf]; (repeat (first | rw [if_pos (by omega)] | rw [if_neg (by omega)])); first | done | rfl | (rw [List.set_set]; rfl))) (.dr (.kp (by first | (exfalso; omega) | (unfold outerS; (first | rw [top_0] | rw [top_1 hf]); dsimp only [zf]; (repeat (first | rw [if_pos (by omega)] | rw [if_neg (by omega)])); first | done | rfl | (rw [List.set_set]; rfl))) .nil)) (fun _ _ _ => trivial)
        ·
         refine W.del (.dr .rf) (W.seq (W.region ?_))
         refine WL.st (R.eqi (.t L0) .c) rfl ?_
         refine WL.st (R.as (.t L0)) rfl ?_
         refine WL.nil (QS.next (W.del (.kp (.dr .rf)) ?_))
         refine W.cd (.t L0) (fun h8 => ?_) (fun h8 => ?_)
         ·
          refine W.del (.dr (.dr .rf)) (W.seq (W.seq (W.region ?_)))
          refine WL.st (R.mv (.t L5)) rfl ?_
          refine WL.st (R.nepn pt_149 (.t L0)) rfl ?_
          refine WL.nil (QS.next (W.del (.kp (.dr .rf)) (W.ct (.t L0) (W.del (.dr .rf) (W.seq (W.region ?_))))))
          refine WL.as .c U4 rfl ?_
          refine WL.nil (QS.next (W.ret (QS.thenr (QS.blkr (QS.thenr ?_)))))
          exact QS.fin (.inl rfl) rfl (.tmp L4 .nil) () (by first | (exfalso; omega) | (unfold outerS; (first | rw [top_0] | rw [top_1 hf]); dsimp only [zf]; (repeat (first | rw [if_pos (by omega)] | rw [if_neg (by omega)])); first | done | rfl | (rw [List.set_set]; rfl))) (.dr (.kp (by first | (exfalso; omega) | (unfold outerS; (first | rw [top_0] | rw [top_1 hf]); dsimp only [zf]; (repeat (first | rw [if_pos (by omega)] | rw [if_neg (by omega)])); first | done | rfl | (rw [List.set_set]; rfl))) .nil)) (fun _ _ _ => trivial)
         ·
          refine W.del (.dr .rf) (W.seq (W.seq (W.region ?_)))
          refine WL.st (R.eqi (.t L0) .c) rfl ?_
          refine WL.st (R.as (.t L0)) rfl ?_
          refine WL.nil (QS.next (W.del (.kp (.dr .rf)) ?_))
          refine W.cd (.t L0) (fun h10 => ?_) (fun h10 => ?_)
          ·
           refine W.del (.kp (.dr .rf)) (W.skip (QS.next ?_))
           refine W.cdt (.t L0) h10 ?_
           refine W.del (.dr .rf) (W.seq (W.seq (W.region ?_)))
           refine WL.st (R.mv (.t L5)) rfl ?_
           refine WL.st (R.eqpn pt_149 (.t L0)) rfl ?_
           refine WL.st (R.mv (.t L0)) rfl ?_
           refine WL.gy rfl L0 (R.mv (.t (D1 L0))) rfl ?_
           refine WL.st (R.pkf (.t L1) (.t L0)) rfl ?_
           refine WL.st (R.mv (.t L0)) rfl ?_
           refine WL.gy rfl L0 (R.fa fo_59_2 (.t L9)) rfl ?_
           refine WL.gy rfl L1 (R.ld sc_57 (.t L0) H0 rfl) rfl ?_
           refine WL.gy rfl L2 (R.eqi (.t L0) .c) rfl ?_
           refine WL.gy rfl L3 (R.mv (.t L0)) rfl ?_
           refine WL.cd L0 U0 U0 (fun hg149 => ?_) (fun hg149 => ?_)
           ·
            refine WL.gy rfl L0 (R.mv (.t (D1 L5))) rfl ?_
            refine WL.gy rfl L1 (R.nc (.t L0)) rfl ?_
            refine WL.gy rfl L2 (R.fao fo_127_0 (.t L0) (k := n1 * 5 + 0) rfl) rfl ?_
            refine WL.gy rfl L3 (R.ld sc_57 (.t L0) H1 (w_frame hf (j := 0) rfl)) rfl ?_
            refine WL.gy rfl L4 (R.nei (.t L0) .c) rfl ?_
            refine WL.gy rfl L9 (R.pkt (.t L5) (.t L0)) rfl ?_
            refine WL.st (R.pkf (.t (D1 L0)) (.t L0)) rfl ?_
            refine WL.nil (QS.next (W.del (.kp (.dr (.dr (.dr (.dr (.dr (.dr (.dr (.dr (.dr (.dr (.dr (.dr (.dr (.dr (.dr (.dr .rf))))))))))))))))) ?_))
            refine W.cd (.t L0) (fun h12 => ?_) (fun h12 => ?_)
            ·
             refine W.del (.dr .rf) (W.seq (W.region ?_))
             refine WL.as .c U4 rfl ?_
             refine WL.nil (QS.next (W.ret (QS.thenr (QS.blkr (QS.thenr ?_)))))
             exact QS.fin (.inl rfl) rfl (.tmp L4 .nil) () (by first | (exfalso; omega) | (unfold outerS; (first | rw [top_0] | rw [top_1 hf]); dsimp only [zf]; (repeat (first | rw [if_pos (by omega)] | rw [if_neg (by omega)])); first | done | rfl | (rw [List.set_set]; rfl))) (.dr (.kp (by first | (exfalso; omega) | (unfold outerS; (first | rw [top_0] | rw [top_1 hf]); dsimp only [zf]; (repeat (first | rw [if_pos (by omega)] | rw [if_neg (by omega)])); first | done | rfl | (rw [List.set_set]; rfl))) .nil)) (fun _ _ _ => trivial)
            ·
             refine W.del (.dr .rf) (W.skip (QS.next (W.seq (W.region ?_))))
             refine WL.st (R.fa fo_59_2 (.t L3)) rfl ?_
             refine WL.st (R.ld sc_57 (.t L0) H0 rfl) rfl ?_
             refine WL.st (R.eqi (.t L0) .c) rfl ?_
             refine WL.nil (QS.next (W.del (.kp (.dr (.dr .rf))) ?_))
             refine W.cd (.t L0) (fun h13 => ?_) (fun h13 => ?_)
             ·
              refine W.del (.dr .rf) (W.region ?_)
              refine WL.st (R.mv (.t L0)) rfl ?_
              refine WL.st (R.nc (.t L0)) rfl ?_
              refine WL.st (R.fa fo_130_1 (.t L0)) rfl ?_
              refine WL.st (R.ld sc_3 (.t L0) H1 (w_depth hk)) rfl ?_
              refine WL.st (R.vq (R.sub (.t L0) .c (wi (by omega) (by omega))) (show Value.int .i64 (((n1 + 1 : Nat) : Int) - 1) = Value.int .i64 ((n1 : Nat) : Int) from congrArg (Value.int .i64) (by omega))) rfl ?_
              refine WL.st (R.nc (.t L4)) rfl ?_
              refine WL.st (R.fa fo_130_1 (.t L0)) rfl ?_
              refine WL.sto sz_3 (.t L0) (.t L2) rfl rfl rfl C1 (wp_depth hk) ?_
              refine WL.nil (QS.blkn (QS.next (W.del (.dr (.dr (.dr (.dr (.dr (.dr (.dr .rf))))))) (W.seq (W.region ?_)))))
              refine WL.as .c U4 rfl ?_
              refine WL.nil (QS.next (W.ret ?_))
              exact QS.fin (.inl rfl) rfl (.tmp L4 .nil) () (by first | (exfalso; omega) | (unfold outerS; (first | rw [top_0] | rw [top_1 hf]); dsimp only [zf]; (repeat (first | rw [if_pos (by omega)] | rw [if_neg (by omega)])); first | done | rfl | (rw [List.set_set]; rfl))) (.dr (.kp (by first | (exfalso; omega) | (unfold outerS; (first | rw [top_0] | rw [top_1 hf]); dsimp only [zf]; (repeat (first | rw [if_pos (by omega)] | rw [if_neg (by omega)])); first | done | rfl | (rw [List.set_set]; rfl))) .nil)) (fun _ _ _ => trivial)
             ·
              refine W.del (.dr .rf) (W.region ?_)
              refine WL.st (R.mv (.t L5)) rfl ?_
              refine WL.st (R.mv (.t L6)) rfl ?_
              refine WL.st (R.mv (.t L7)) rfl ?_
              refine WL.st (R.nc (.t L0)) rfl ?_
              refine WL.st (R.fao fo_127_2 (.t L0) (k := n1 * 5 + 2) rfl) rfl ?_
              refine WL.st (R.ld sc_3 (.t L0) H1 (w_frame hf (j := 2) rfl)) rfl ?_
              refine WL.st (R.add (.t L0) .c (wi (by omega) (by omega))) rfl ?_
              refine WL.st (R.nc (.t L6)) rfl ?_
              refine WL.st (R.fao fo_127_2 (.t L0) (k := n1 * 5 + 2) rfl) rfl ?_
              refine WL.sto sz_3 (.t L0) (.t L2) rfl rfl rfl C1 (wp_frame (f' := ⟨f.kind, f.items, f.rows + 1, f.cells, f.wide⟩) hf (j := 2) (by repeat constructor)) ?_
              refine WL.st (R.nc (.t L7)) rfl ?_
              refine WL.st (R.fao fo_127_3 (.t L0) (k := n1 * 5 + 3) rfl) rfl ?_
              refine WL.sto sz_3 (.t L0) .c rfl rfl rfl C1 (wp_frame (f' := ⟨f.kind, f.items, f.rows + 1, 0, f.wide⟩) (set_get hf) (j := 3) (by repeat constructor)) ?_
              refine WL.nil (QS.blkn (QS.next (W.del (.dr (.dr (.dr (.dr (.dr (.dr (.dr (.dr (.dr (.dr (.dr .rf))))))))))) (W.seq (W.region ?_)))))
              refine WL.as .c U4 rfl ?_
              refine WL.nil (QS.next (W.ret ?_))
              exact QS.fin (.inl rfl) rfl (.tmp L4 .nil) () (by first | (exfalso; omega) | (unfold outerS; (first | rw [top_0] | rw [top_1 hf]); dsimp only [zf]; (repeat (first | rw [if_pos (by omega)] | rw [if_neg (by omega)])); first | done | rfl | (rw [List.set_set]; rfl))) (.dr (.kp (by first | (exfalso; omega) | (unfold outerS; (first | rw [top_0] | rw [top_1 hf]); dsimp only [zf]; (repeat (first | rw [if_pos (by omega)] | rw [if_neg (by omega)])); first | done | rfl | (rw [List.set_set]; rfl))) .nil)) (fun _ _ _ => trivial)
           ·
            refine WL.gn rfl L0 rfl ?_
            refine WL.gn rfl L1 rfl ?_
            refine WL.gn rfl L2 rfl ?_
            refine WL.gn rfl L3 rfl ?_
            refine WL.gn rfl L4 rfl ?_
            refine WL.gy rfl L9 (R.pkf (.t L5) .c) rfl ?_
            refine WL.st (R.pkf (.t (D1 L0)) (.t L0)) rfl ?_
            refine WL.nil (QS.next (W.del (.kp (.dr (.dr (.dr (.dr (.dr (.dr (.dr (.dr (.dr (.dr (.dr (.dr (.dr (.dr (.dr (.dr .rf))))))))))))))))) (W.cf (.t L0) (W.del (.dr .rf) (W.skip (QS.next (W.seq (W.region ?_))))))))
            refine WL.st (R.fa fo_59_2 (.t L3)) rfl ?_
            refine WL.st (R.ld sc_57 (.t L0) H0 rfl) rfl ?_
            refine WL.st (R.eqi (.t L0) .c) rfl ?_
            refine WL.nil (QS.next (W.del (.kp (.dr (.dr .rf))) ?_))
            refine W.cd (.t L0) (fun h13 => ?_) (fun h13 => ?_)
            ·
             refine W.del (.dr .rf) (W.region ?_)
             refine WL.st (R.mv (.t L0)) rfl ?_
             refine WL.st (R.nc (.t L0)) rfl ?_
             refine WL.st (R.fa fo_130_1 (.t L0)) rfl ?_
             refine WL.st (R.ld sc_3 (.t L0) H1 (w_depth hk)) rfl ?_
             refine WL.st (R.vq (R.sub (.t L0) .c (wi (by omega) (by omega))) (show Value.int .i64 (((n1 + 1 : Nat) : Int) - 1) = Value.int .i64 ((n1 : Nat) : Int) from congrArg (Value.int .i64) (by omega))) rfl ?_
             refine WL.st (R.nc (.t L4)) rfl ?_
             refine WL.st (R.fa fo_130_1 (.t L0)) rfl ?_
             refine WL.sto sz_3 (.t L0) (.t L2) rfl rfl rfl C1 (wp_depth hk) ?_
             refine WL.nil (QS.blkn (QS.next (W.del (.dr (.dr (.dr (.dr (.dr (.dr (.dr .rf))))))) (W.seq (W.region ?_)))))
             refine WL.as .c U4 rfl ?_
             refine WL.nil (QS.next (W.ret ?_))
             exact QS.fin (.inl rfl) rfl (.tmp L4 .nil) () (by first | (exfalso; omega) | (unfold outerS; (first | rw [top_0] | rw [top_1 hf]); dsimp only [zf]; (repeat (first | rw [if_pos (by omega)] | rw [if_neg (by omega)])); first | done | rfl | (rw [List.set_set]; rfl))) (.dr (.kp (by first | (exfalso; omega) | (unfold outerS; (first | rw [top_0] | rw [top_1 hf]); dsimp only [zf]; (repeat (first | rw [if_pos (by omega)] | rw [if_neg (by omega)])); first | done | rfl | (rw [List.set_set]; rfl))) .nil)) (fun _ _ _ => trivial)
            ·
             refine W.del (.dr .rf) (W.region ?_)
             refine WL.st (R.mv (.t L5)) rfl ?_
             refine WL.st (R.mv (.t L6)) rfl ?_
             refine WL.st (R.mv (.t L7)) rfl ?_
             refine WL.st (R.nc (.t L0)) rfl ?_
             refine WL.st (R.fao fo_127_2 (.t L0) (k := n1 * 5 + 2) rfl) rfl ?_
             refine WL.st (R.ld sc_3 (.t L0) H1 (w_frame hf (j := 2) rfl)) rfl ?_
             refine WL.st (R.add (.t L0) .c (wi (by omega) (by omega))) rfl ?_
             refine WL.st (R.nc (.t L6)) rfl ?_
             refine WL.st (R.fao fo_127_2 (.t L0) (k := n1 * 5 + 2) rfl) rfl ?_
             refine WL.sto sz_3 (.t L0) (.t L2) rfl rfl rfl C1 (wp_frame (f' := ⟨f.kind, f.items, f.rows + 1, f.cells, f.wide⟩) hf (j := 2) (by repeat constructor)) ?_
             refine WL.st (R.nc (.t L7)) rfl ?_
             refine WL.st (R.fao fo_127_3 (.t L0) (k := n1 * 5 + 3) rfl) rfl ?_
             refine WL.sto sz_3 (.t L0) .c rfl rfl rfl C1 (wp_frame (f' := ⟨f.kind, f.items, f.rows + 1, 0, f.wide⟩) (set_get hf) (j := 3) (by repeat constructor)) ?_
             refine WL.nil (QS.blkn (QS.next (W.del (.dr (.dr (.dr (.dr (.dr (.dr (.dr (.dr (.dr (.dr (.dr .rf))))))))))) (W.seq (W.region ?_)))))
             refine WL.as .c U4 rfl ?_
             refine WL.nil (QS.next (W.ret ?_))
             exact QS.fin (.inl rfl) rfl (.tmp L4 .nil) () (by first | (exfalso; omega) | (unfold outerS; (first | rw [top_0] | rw [top_1 hf]); dsimp only [zf]; (repeat (first | rw [if_pos (by omega)] | rw [if_neg (by omega)])); first | done | rfl | (rw [List.set_set]; rfl))) (.dr (.kp (by first | (exfalso; omega) | (unfold outerS; (first | rw [top_0] | rw [top_1 hf]); dsimp only [zf]; (repeat (first | rw [if_pos (by omega)] | rw [if_neg (by omega)])); first | done | rfl | (rw [List.set_set]; rfl))) .nil)) (fun _ _ _ => trivial)
          ·
           refine W.region ?_
           refine WL.st (R.eqi (.t L1) .c) rfl ?_
           refine WL.as (.t L0) U1 rfl ?_
           refine WL.nil (QS.next (W.del (.dr (.kp (.dr .rf))) ?_))
           refine W.cd (.t L0) (fun h11 => ?_) (fun h11 => ?_)
           ·
            refine W.del (.dr .rf) (W.seq (W.seq (W.region ?_)))
            refine WL.st (R.mv (.t L5)) rfl ?_
            refine WL.st (R.eqpn pt_149 (.t L0)) rfl ?_
            refine WL.st (R.mv (.t L0)) rfl ?_
            refine WL.gy rfl L0 (R.mv (.t (D1 L0))) rfl ?_
            refine WL.st (R.pkf (.t L1) (.t L0)) rfl ?_
            refine WL.st (R.mv (.t L0)) rfl ?_
            refine WL.gy rfl L0 (R.fa fo_59_2 (.t L9)) rfl ?_
            refine WL.gy rfl L1 (R.ld sc_57 (.t L0) H0 rfl) rfl ?_
            refine WL.gy rfl L2 (R.eqi (.t L0) .c) rfl ?_
            refine WL.gy rfl L3 (R.mv (.t L0)) rfl ?_
            refine WL.cd L0 U0 U0 (fun hg149 => ?_) (fun hg149 => ?_)
            ·
             refine WL.gy rfl L0 (R.mv (.t (D1 L5))) rfl ?_
             refine WL.gy rfl L1 (R.nc (.t L0)) rfl ?_
             refine WL.gy rfl L2 (R.fao fo_127_0 (.t L0) (k := n1 * 5 + 0) rfl) rfl ?_
             refine WL.gy rfl L3 (R.ld sc_57 (.t L0) H1 (w_frame hf (j := 0) rfl)) rfl ?_
             refine WL.gy rfl L4 (R.nei (.t L0) .c) rfl ?_
             refine WL.gy rfl L9 (R.pkt (.t L5) (.t L0)) rfl ?_
             refine WL.st (R.pkf (.t (D1 L0)) (.t L0)) rfl ?_
             refine WL.nil (QS.next (W.del (.kp (.dr (.dr (.dr (.dr (.dr (.dr (.dr (.dr (.dr (.dr (.dr (.dr (.dr (.dr (.dr (.dr .rf))))))))))))))))) ?_))
             refine W.cd (.t L0) (fun h12 => ?_) (fun h12 => ?_)
             ·
              refine W.del (.dr .rf) (W.seq (W.region ?_))
              refine WL.as .c U4 rfl ?_
              refine WL.nil (QS.next (W.ret (QS.thenr (QS.blkr (QS.thenr ?_)))))
              exact QS.fin (.inl rfl) rfl (.tmp L4 .nil) () (by first | (exfalso; omega) | (unfold outerS; (first | rw [top_0] | rw [top_1 hf]); dsimp only [zf]; (repeat (first | rw [if_pos (by omega)] | rw [if_neg (by omega)])); first | done | rfl | (rw [List.set_set]; rfl))) (.dr (.kp (by first | (exfalso; omega) | (unfold outerS; (first | rw [top_0] | rw [top_1 hf]); dsimp only [zf]; (repeat (first | rw [if_pos (by omega)] | rw [if_neg (by omega)])); first | done | rfl | (rw [List.set_set]; rfl))) .nil)) (fun _ _ _ => trivial)
             ·
              refine W.del (.dr .rf) (W.skip (QS.next (W.seq (W.region ?_))))
              refine WL.st (R.fa fo_59_2 (.t L3)) rfl ?_
              refine WL.st (R.ld sc_57 (.t L0) H0 rfl) rfl ?_
              refine WL.st (R.eqi (.t L0) .c) rfl ?_
              refine WL.nil (QS.next (W.del (.kp (.dr (.dr .rf))) ?_))
              refine W.cd (.t L0) (fun h13 => ?_) (fun h13 => ?_)
              ·
               refine W.del (.dr .rf) (W.region ?_)
               refine WL.st (R.mv (.t L0)) rfl ?_
               refine WL.st (R.nc (.t L0)) rfl ?_
               refine WL.st (R.fa fo_130_1 (.t L0)) rfl ?_
               refine WL.st (R.ld sc_3 (.t L0) H1 (w_depth hk)) rfl ?_
               refine WL.st (R.vq (R.sub (.t L0) .c (wi (by omega) (by omega))) (show Value.int .i64 (((n1 + 1 : Nat) : Int) - 1) = Value.int .i64 ((n1 : Nat) : Int) from congrArg (Value.int .i64) (by omega))) rfl ?_
               refine WL.st (R.nc (.t L4)) rfl ?_
               refine WL.st (R.fa fo_130_1 (.t L0)) rfl ?_
               refine WL.sto sz_3 (.t L0) (.t L2) rfl rfl rfl C1 (wp_depth hk) ?_
               refine WL.nil (QS.blkn (QS.next (W.del (.dr (.dr (.dr (.dr (.dr (.dr (.dr .rf))))))) (W.seq (W.region ?_)))))
               refine WL.as .c U4 rfl ?_
               refine WL.nil (QS.next (W.ret ?_))
               exact QS.fin (.inl rfl) rfl (.tmp L4 .nil) () (by first | (exfalso; omega) | (unfold outerS; (first | rw [top_0] | rw [top_1 hf]); dsimp only [zf]; (repeat (first | rw [if_pos (by omega)] | rw [if_neg (by omega)])); first | done | rfl | (rw [List.set_set]; rfl))) (.dr (.kp (by first | (exfalso; omega) | (unfold outerS; (first | rw [top_0] | rw [top_1 hf]); dsimp only [zf]; (repeat (first | rw [if_pos (by omega)] | rw [if_neg (by omega)])); first | done | rfl | (rw [List.set_set]; rfl))) .nil)) (fun _ _ _ => trivial)
              ·
               refine W.del (.dr .rf) (W.region ?_)
               refine WL.st (R.mv (.t L5)) rfl ?_
               refine WL.st (R.mv (.t L6)) rfl ?_
               refine WL.st (R.mv (.t L7)) rfl ?_
               refine WL.st (R.nc (.t L0)) rfl ?_
               refine WL.st (R.fao fo_127_2 (.t L0) (k := n1 * 5 + 2) rfl) rfl ?_
               refine WL.st (R.ld sc_3 (.t L0) H1 (w_frame hf (j := 2) rfl)) rfl ?_
               refine WL.st (R.add (.t L0) .c (wi (by omega) (by omega))) rfl ?_
               refine WL.st (R.nc (.t L6)) rfl ?_
               refine WL.st (R.fao fo_127_2 (.t L0) (k := n1 * 5 + 2) rfl) rfl ?_
               refine WL.sto sz_3 (.t L0) (.t L2) rfl rfl rfl C1 (wp_frame (f' := ⟨f.kind, f.items, f.rows + 1, f.cells, f.wide⟩) hf (j := 2) (by repeat constructor)) ?_
               refine WL.st (R.nc (.t L7)) rfl ?_
               refine WL.st (R.fao fo_127_3 (.t L0) (k := n1 * 5 + 3) rfl) rfl ?_
               refine WL.sto sz_3 (.t L0) .c rfl rfl rfl C1 (wp_frame (f' := ⟨f.kind, f.items, f.rows + 1, 0, f.wide⟩) (set_get hf) (j := 3) (by repeat constructor)) ?_
               refine WL.nil (QS.blkn (QS.next (W.del (.dr (.dr (.dr (.dr (.dr (.dr (.dr (.dr (.dr (.dr (.dr .rf))))))))))) (W.seq (W.region ?_)))))
               refine WL.as .c U4 rfl ?_
               refine WL.nil (QS.next (W.ret ?_))
               exact QS.fin (.inl rfl) rfl (.tmp L4 .nil) () (by first | (exfalso; omega) | (unfold outerS; (first | rw [top_0] | rw [top_1 hf]); dsimp only [zf]; (repeat (first | rw [if_pos (by omega)] | rw [if_neg (by omega)])); first | done | rfl | (rw [List.set_set]; rfl))) (.dr (.kp (by first | (exfalso; omega) | (unfold outerS; (first | rw [top_0] | rw [top_1 hf]); dsimp only [zf]; (repeat (first | rw [if_pos (by omega)] | rw [if_neg (by omega)])); first | done | rfl | (rw [List.set_set]; rfl))) .nil)) (fun _ _ _ => trivial)
            ·
             refine WL.gn rfl L0 rfl ?_
             refine WL.gn rfl L1 rfl ?_
             refine WL.gn rfl L2 rfl ?_
             refine WL.gn rfl L3 rfl ?_
             refine WL.gn rfl L4 rfl ?_
             refine WL.gy rfl L9 (R.pkf (.t L5) .c) rfl ?_
             refine WL.st (R.pkf (.t (D1 L0)) (.t L0)) rfl ?_
             refine WL.nil (QS.next (W.del (.kp (.dr (.dr (.dr (.dr (.dr (.dr (.dr (.dr (.dr (.dr (.dr (.dr (.dr (.dr (.dr (.dr .rf))))))))))))))))) (W.cf (.t L0) (W.del (.dr .rf) (W.skip (QS.next (W.seq (W.region ?_))))))))
             refine WL.st (R.fa fo_59_2 (.t L3)) rfl ?_
             refine WL.st (R.ld sc_57 (.t L0) H0 rfl) rfl ?_
             refine WL.st (R.eqi (.t L0) .c) rfl ?_
             refine WL.nil (QS.next (W.del (.kp (.dr (.dr .rf))) ?_))
             refine W.cd (.t L0) (fun h13 => ?_) (fun h13 => ?_)
             ·
              refine W.del (.dr .rf) (W.region ?_)
              refine WL.st (R.mv (.t L0)) rfl ?_
              refine WL.st (R.nc (.t L0)) rfl ?_
              refine WL.st (R.fa fo_130_1 (.t L0)) rfl ?_
              refine WL.st (R.ld sc_3 (.t L0) H1 (w_depth hk)) rfl ?_
              refine WL.st (R.vq (R.sub (.t L0) .c (wi (by omega) (by omega))) (show Value.int .i64 (((n1 + 1 : Nat) : Int) - 1) = Value.int .i64 ((n1 : Nat) : Int) from congrArg (Value.int .i64) (by omega))) rfl ?_
              refine WL.st (R.nc (.t L4)) rfl ?_
              refine WL.st (R.fa fo_130_1 (.t L0)) rfl ?_
              refine WL.sto sz_3 (.t L0) (.t L2) rfl rfl rfl C1 (wp_depth hk) ?_
              refine WL.nil (QS.blkn (QS.next (W.del (.dr (.dr (.dr (.dr (.dr (.dr (.dr .rf))))))) (W.seq (W.region ?_)))))
              refine WL.as .c U4 rfl ?_
              refine WL.nil (QS.next (W.ret ?_))
              exact QS.fin (.inl rfl) rfl (.tmp L4 .nil) () (by first | (exfalso; omega) | (unfold outerS; (first | rw [top_0] | rw [top_1 hf]); dsimp only [zf]; (repeat (first | rw [if_pos (by omega)] | rw [if_neg (by omega)])); first | done | rfl | (rw [List.set_set]; rfl))) (.dr (.kp (by first | (exfalso; omega) | (unfold outerS; (first | rw [top_0] | rw [top_1 hf]); dsimp only [zf]; (repeat (first | rw [if_pos (by omega)] | rw [if_neg (by omega)])); first | done | rfl | (rw [List.set_set]; rfl))) .nil)) (fun _ _ _ => trivial)
             ·
              refine W.del (.dr .rf) (W.region ?_)
              refine WL.st (R.mv (.t L5)) rfl ?_
              refine WL.st (R.mv (.t L6)) rfl ?_
              refine WL.st (R.mv (.t L7)) rfl ?_
              refine WL.st (R.nc (.t L0)) rfl ?_
              refine WL.st (R.fao fo_127_2 (.t L0) (k := n1 * 5 + 2) rfl) rfl ?_
              refine WL.st (R.ld sc_3 (.t L0) H1 (w_frame hf (j := 2) rfl)) rfl ?_
              refine WL.st (R.add (.t L0) .c (wi (by omega) (by omega))) rfl ?_
              refine WL.st (R.nc (.t L6)) rfl ?_
              refine WL.st (R.fao fo_127_2 (.t L0) (k := n1 * 5 + 2) rfl) rfl ?_
              refine WL.sto sz_3 (.t L0) (.t L2) rfl rfl rfl C1 (wp_frame (f' := ⟨f.kind, f.items, f.rows + 1, f.cells, f.wide⟩) hf (j := 2) (by repeat constructor)) ?_
              refine WL.st (R.nc (.t L7)) rfl ?_
              refine WL.st (R.fao fo_127_3 (.t L0) (k := n1 * 5 + 3) rfl) rfl ?_
              refine WL.sto sz_3 (.t L0) .c rfl rfl rfl C1 (wp_frame (f' := ⟨f.kind, f.items, f.rows + 1, 0, f.wide⟩) (set_get hf) (j := 3) (by repeat constructor)) ?_
              refine WL.nil (QS.blkn (QS.next (W.del (.dr (.dr (.dr (.dr (.dr (.dr (.dr (.dr (.dr (.dr (.dr .rf))))))))))) (W.seq (W.region ?_)))))
              refine WL.as .c U4 rfl ?_
              refine WL.nil (QS.next (W.ret ?_))
              exact QS.fin (.inl rfl) rfl (.tmp L4 .nil) () (by first | (exfalso; omega) | (unfold outerS; (first | rw [top_0] | rw [top_1 hf]); dsimp only [zf]; (repeat (first | rw [if_pos (by omega)] | rw [if_neg (by omega)])); first | done | rfl | (rw [List.set_set]; rfl))) (.dr (.kp (by first | (exfalso; omega) | (unfold outerS; (first | rw [top_0] | rw [top_1 hf]); dsimp only [zf]; (repeat (first | rw [if_pos (by omega)] | rw [if_neg (by omega)])); first | done | rfl | (rw [List.set_set]; rfl))) .nil)) (fun _ _ _ => trivial)
           ·
            refine W.del (.dr .rf) (W.seq (W.region ?_))
            refine WL.as .c U4 rfl ?_
            refine WL.nil (QS.next (W.ret (QS.blkr (QS.thenr ?_))))
            exact QS.fin (.inl rfl) rfl (.tmp L4 .nil) () (by first | (exfalso; omega) | (unfold outerS; (first | rw [top_0] | rw [top_1 hf]); dsimp only [zf]; (repeat (first | rw [if_pos (by omega)] | rw [if_neg (by omega)])); first | done | rfl | (rw [List.set_set]; rfl))) (.dr (.kp (by first | (exfalso; omega) | (unfold outerS; (first | rw [top_0] | rw [top_1 hf]); dsimp only [zf]; (repeat (first | rw [if_pos (by omega)] | rw [if_neg (by omega)])); first | done | rfl | (rw [List.set_set]; rfl))) .nil)) (fun _ _ _ => trivial)
   ·
    refine HD.gn rfl L0 rfl ?_
    refine HD.gn rfl L1 rfl ?_
    refine HD.gn rfl L2 rfl ?_
    refine HD.gn rfl L3 rfl ?_
    refine HD.gn rfl L4 rfl ?_
    refine HD.st (R.pkf (.t L5) .c) rfl ?_
    refine HD.st (R.mv (.t L0)) rfl ?_
    refine HD.gn rfl L0 rfl ?_
    refine HD.gn rfl L1 rfl ?_
    refine HD.gn rfl L2 rfl ?_
    refine HD.gn rfl L3 rfl ?_
    refine HD.gn rfl L4 rfl ?_
    refine HD.gn rfl L5 rfl ?_
    refine HD.gn rfl L6 rfl ?_
    refine HD.gn rfl L7 rfl ?_
    refine HD.gn rfl L8 rfl ?_
    refine HD.st (R.pkf (.t L9) .c) rfl ?_
    refine HD.up (R.as (.t L0)) (E1 (E1 (E1 U4))) rfl ?_
    refine HD.nil (WL.nil (QS.next (W.del (.dr (.dr (.dr (.dr (.dr (.dr (.dr (.dr (.dr (.dr (.dr (.dr (.dr (.dr (.dr (.dr (.dr (.dr (.dr (.dr (.dr (.dr (.dr (.dr (.dr (.dr (.dr .rf))))))))))))))))))))))))))) (W.seq (W.seq (W.region ?_))))))
    refine WL.st (R.fa fo_59_2 (.t L3)) rfl ?_
    refine WL.st (R.ld sc_57 (.t L0) H0 rfl) rfl ?_
    refine WL.nil (QS.next (W.del (.kp (.dr .rf)) (W.block (W.seq (W.region ?_)))))
    refine WL.st (R.eqi (.t L0) .c) rfl ?_
    refine WL.st (R.as (.t L0)) rfl ?_
    refine WL.nil (QS.next (W.del (.kp (.dr .rf)) ?_))
    refine W.cd (.t L0) (fun h1 => ?_) (fun h1 => ?_)
    ·
     refine W.del (.dr (.dr .rf)) (W.seq (W.region ?_))
     refine WL.st (R.mv (.t L5)) rfl ?_
     refine WL.st (R.eqpn pt_149 (.t L0)) rfl ?_
     refine WL.as (.t L0) U6 rfl ?_
     refine WL.nil (QS.next (W.del (.dr (.dr .rf)) (W.ret (QS.blkr (QS.thenr ?_)))))
     exact QS.fin (.inl rfl) rfl (.tmp L4 .nil) () (by first | (exfalso; omega) | (unfold outerS; (first | rw [top_0] | rw [top_1 hf]); dsimp only [zf]; (repeat (first | rw [if_pos (by omega)] | rw [if_neg (by omega)])); first | done | rfl | (rw [List.set_set]; rfl))) (.dr (.kp (by first | (exfalso; omega) | (unfold outerS; (first | rw [top_0] | rw [top_1 hf]); dsimp only [zf]; (repeat (first | rw [if_pos (by omega)] | rw [if_neg (by omega)])); first | done | rfl | (rw [List.set_set]; rfl))) .nil)) (fun _ _ _ => trivial)
    ·
     refine W.del (.dr .rf) (W.seq (W.region ?_))
     refine WL.st (R.eqi (.t L0) .c) rfl ?_
     refine WL.st (R.as (.t L0)) rfl ?_
     refine WL.nil (QS.next (W.del (.kp (.dr .rf)) ?_))
     refine W.cd (.t L0) (fun h2 => ?_) (fun h2 => ?_)
     ·
      refine W.del (.dr (.dr .rf)) (W.seq (W.seq (W.region ?_)))
      refine WL.st (R.mv (.t L5)) rfl ?_
      refine WL.st (R.nepn pt_149 (.t L0)) rfl ?_
      refine WL.st (R.mv (.t L0)) rfl ?_
      refine WL.gy rfl L0 (R.mv (.t L9)) rfl ?_
      refine WL.gy rfl L1 (R.notb (.t L0)) rfl ?_
      refine WL.st (R.pkt (.t L2) (.t L0)) rfl ?_
      refine WL.st (R.mv (.t L0)) rfl ?_
      refine WL.gy rfl L0 (R.mv (.t (D1 L4))) rfl ?_
      refine WL.gy rfl L1 (R.notb (.t L0)) rfl ?_
      refine WL.st (R.pkt (.t L2) (.t L0)) rfl ?_
      refine WL.nil (QS.next (W.del (.kp (.dr (.dr (.dr (.dr (.dr (.dr (.dr (.dr (.dr .rf)))))))))) (W.ct (.t L0) (W.del (.dr .rf) (W.seq (W.region ?_))))))
      refine WL.as .c U4 rfl ?_
      refine WL.nil (QS.next (W.ret (QS.thenr (QS.blkr (QS.thenr ?_)))))
      exact QS.fin (.inl rfl) rfl (.tmp L4 .nil) () (by first | (exfalso; omega) | (unfold outerS; (first | rw [top_0] | rw [top_1 hf]); dsimp only [zf]; (repeat (first | rw [if_pos (by omega)] | rw [if_neg (by omega)])); first | done | rfl | (rw [List.set_set]; rfl))) (.dr (.kp (by first | (exfalso; omega) | (unfold outerS; (first | rw [top_0] | rw [top_1 hf]); dsimp only [zf]; (repeat (first | rw [if_pos (by omega)] | rw [if_neg (by omega)])); first | done | rfl | (rw [List.set_set]; rfl))) .nil)) (fun _ _ _ => trivial)
     ·
      refine W.del (.dr .rf) (W.seq (W.region ?_))
      refine WL.st (R.eqi (.t L0) .c) rfl ?_
      refine WL.st (R.as (.t L0)) rfl ?_
      refine WL.nil (QS.next (W.del (.kp (.dr .rf)) ?_))
      refine W.cd (.t L0) (fun h4 => ?_) (fun h4 => ?_)
      ·
       refine W.del (.dr (.dr .rf)) (W.seq (W.seq (W.region ?_)))
       refine WL.st (R.mv (.t L5)) rfl ?_
       refine WL.st (R.nepn pt_149 (.t L0)) rfl ?_
       refine WL.st (R.mv (.t L0)) rfl ?_
       refine WL.gy rfl L0 (R.mv (.t L9)) rfl ?_
       refine WL.gy rfl L1 (R.notb (.t L0)) rfl ?_
       refine WL.st (R.pkt (.t L2) (.t L0)) rfl ?_
       refine WL.st (R.mv (.t L0)) rfl ?_
       refine WL.gn rfl L0 rfl ?_
       refine WL.gn rfl L1 rfl ?_
       refine WL.gn rfl L2 rfl ?_
       refine WL.gn rfl L3 rfl ?_
       refine WL.gn rfl L4 rfl ?_
       refine WL.st (R.pkt (.t L5) .c) rfl ?_
       refine WL.nil (QS.next (W.del (.kp (.dr (.dr (.dr (.dr (.dr (.dr (.dr (.dr (.dr (.dr (.dr (.dr .rf))))))))))))) (W.ct (.t L0) (W.del (.dr .rf) (W.seq (W.region ?_))))))
       refine WL.as .c U4 rfl ?_
       refine WL.nil (QS.next (W.ret (QS.thenr (QS.blkr (QS.thenr ?_)))))
       exact QS.fin (.inl rfl) rfl (.tmp L4 .nil) () (by first | (exfalso; omega) | (unfold outerS; (first | rw [top_0] | rw [top_1 hf]); dsimp only [zf]; (repeat (first | rw [if_pos (by omega)] | rw [if_neg (by omega)])); first | done | rfl | (rw [List.set_set]; rfl))) (.dr (.kp (by first | (exfalso; omega) | (unfold outerS; (first | rw [top_0] | rw [top_1 hf]); dsimp only [zf]; (repeat (first | rw [if_pos (by omega)] | rw [if_neg (by omega)])); first | done | rfl | (rw [List.set_set]; rfl))) .nil)) (fun _ _ _ => trivial)
      ·
       refine W.del (.dr .rf) (W.seq (W.region ?_))
       refine WL.st (R.eqi (.t L0) .c) rfl ?_
       refine WL.st (R.as (.t L0)) rfl ?_
       refine WL.nil (QS.next (W.del (.kp (.dr .rf)) ?_))
       refine W.cd (.t L0) (fun h6 => ?_) (fun h6 => ?_)
       ·
        refine W.del (.dr (.dr .rf)) (W.seq (W.seq (W.region ?_)))
        refine WL.st (R.mv (.t L5)) rfl ?_
        refine WL.st (R.eqpn pt_149 (.t L0)) rfl ?_
        refine WL.st (R.mv (.t L0)) rfl ?_
        refine WL.gy rfl L0 (R.mv (.t L8)) rfl ?_
        refine WL.gy rfl L1 (R.nc (.t L0)) rfl ?_
        refine WL.gy rfl L2 (R.fao fo_127_0 (.t L0) (k := n1 * 5 + 0) rfl) rfl ?_
        refine WL.gy rfl L3 (R.ld sc_57 (.t L0) H1 (w_frame hf (j := 0) rfl)) rfl ?_
        refine WL.gy rfl L4 (R.nei (.t L0) .c) rfl ?_
        refine WL.st (R.pkf (.t L5) (.t L0)) rfl ?_
        refine WL.nil (QS.next (W.del (.kp (.dr (.dr (.dr (.dr (.dr (.dr (.dr (.dr .rf))))))))) ?_))
        refine W.cd (.t L0) (fun h7 => ?_) (fun h7 => ?_)
        ·
         refine W.del (.dr .rf) (W.seq (W.region ?_))
         refine WL.as .c U4 rfl ?_
         refine WL.nil (QS.next (W.ret (QS.thenr (QS.blkr (QS.thenr ?_)))))
         exact QS.fin (.inl rfl) rfl (.tmp L4 .nil) () (by first | (exfalso; omega) | (unfold outerS; (first | rw [top_0] | rw [top_1 hf]); dsimp only [zf]; (repeat (first | rw [if_pos (by omega)] | rw [if_neg (by omega)])); first | done | rfl | (rw [List.set_set]; rfl))) (.dr (.kp (by first | (exfalso; omega) | (unfold outerS; (first | rw [top_0] | rw [top_1 hf]); dsimp only [zf]; (repeat (first | rw [if_pos (by omega)] | rw [if_neg (by omega)])); first | done | rfl | (rw [List.set_set]; rfl))) .nil)) (fun _ _ _ => trivial)
        ·
         refine W.del (.dr .rf) (W.skip (QS.next (W.region ?_)))
         refine WL.st (R.mv (.t L5)) rfl ?_
         refine WL.st (R.nc (.t L0)) rfl ?_
         refine WL.st (R.fao fo_127_1 (.t L0) (k := n1 * 5 + 1) rfl) rfl ?_
         refine WL.st (R.ld sc_3 (.t L0) H1 (w_frame hf (j := 1) rfl)) rfl ?_
         refine WL.st (R.add (.t L0) .c (wi (by omega) (by omega))) rfl ?_
         refine WL.st (R.nc (.t L4)) rfl ?_
         refine WL.st (R.fao fo_127_1 (.t L0) (k := n1 * 5 + 1) rfl) rfl ?_
         refine WL.sto sz_3 (.t L0) (.t L2) rfl rfl rfl C1 (wp_frame (f' := ⟨f.kind, f.items + 1, f.rows, f.cells, f.wide⟩) hf (j := 1) (by repeat constructor)) ?_
         refine WL.nil (QS.blkn (QS.next (W.del (.dr (.dr (.dr (.dr (.dr (.dr (.dr .rf))))))) (W.seq (W.region ?_)))))
         refine WL.as .c U4 rfl ?_
         refine WL.nil (QS.next (W.ret ?_))
         exact QS.fin (.inl rfl) rfl (.tmp L4 .nil) () (by first | (exfalso; omega) | (unfold outerS; (first | rw [top_0] | rw [top_1 hf]); dsimp only [zf]; (repeat (first | rw [if_pos (by omega)] | rw [if_neg (by omega)])); first | done | rfl | (rw [List.set_set]; rfl))) (.dr (.kp (by first | (exfalso; omega) | (unfold outerS; (first | rw [top_0] | rw [top_1 hf]); dsimp only [zf]; (repeat (first | rw [if_pos (by omega)] | rw [if_neg (by omega)])); first | done | rfl | (rw [List.set_set]; rfl))) .nil)) (fun _ _ _ => trivial)
       ·
        refine W.del (.dr .rf) (W.seq (W.region ?_))
        refine WL.st (R.eqi (.t L0) .c) rfl ?_
        refine WL.st (R.as (.t L0)) rfl ?_
        refine WL.nil (QS.next (W.del (.kp (.dr .rf)) ?_))
        refine W.cd (.t L0) (fun h8 => ?_) (fun h8 => ?_)
        ·
         refine W.del (.dr (.dr .rf)) (W.seq (W.seq (W.region ?_)))
         refine WL.st (R.mv (.t L5)) rfl ?_
         refine WL.st (R.nepn pt_149 (.t L0)) rfl ?_
         refine WL.nil (QS.next (W.del (.kp (.dr .rf)) (W.ct (.t L0) (W.del (.dr .rf) (W.seq (W.region ?_))))))
         refine WL.as .c U4 rfl ?_
         refine WL.nil (QS.next (W.ret (QS.thenr (QS.blkr (QS.thenr ?_)))))
         exact QS.fin (.inl rfl) rfl (.tmp L4 .nil) () (by first | (exfalso; omega) | (unfold outerS; (first | rw [top_0] | rw [top_1 hf]); dsimp only [zf]; (repeat (first | rw [if_pos (by omega)] | rw [if_neg (by omega)])); first | done | rfl | (rw [List.set_set]; rfl))) (.dr (.kp (by first | (exfalso; omega) | (unfold outerS; (first | rw [top_0] | rw [top_1 hf]); dsimp only [zf]; (repeat (first | rw [if_pos (by omega)] | rw [if_neg (by omega)])); first | done | rfl | (rw [List.set_set]; rfl))) .nil)) (fun _ _ _ => trivial)
        ·
         refine W.del (.dr .rf) (W.seq (W.seq (W.region ?_)))
         refine WL.st (R.eqi (.t L0) .c) rfl ?_
         refine WL.st (R.as (.t L0)) rfl ?_
         refine WL.nil (QS.next (W.del (.kp (.dr .rf)) ?_))
         refine W.cd (.t L0) (fun h10 => ?_) (fun h10 => ?_)
         ·
          refine W.del (.kp (.dr .rf)) (W.skip (QS.next ?_))
          refine W.cdt (.t L0) h10 ?_
          refine W.del (.dr .rf) (W.seq (W.seq (W.region ?_)))
          refine WL.st (R.mv (.t L5)) rfl ?_
          refine WL.st (R.eqpn pt_149 (.t L0)) rfl ?_
          refine WL.st (R.mv (.t L0)) rfl ?_
          refine WL.gy rfl L0 (R.mv (.t (D1 L0))) rfl ?_
          refine WL.st (R.pkf (.t L1) (.t L0)) rfl ?_
          refine WL.st (R.mv (.t L0)) rfl ?_
          refine WL.gy rfl L0 (R.fa fo_59_2 (.t L9)) rfl ?_
          refine WL.gy rfl L1 (R.ld sc_57 (.t L0) H0 rfl) rfl ?_
          refine WL.gy rfl L2 (R.eqi (.t L0) .c) rfl ?_
          refine WL.gy rfl L3 (R.mv (.t L0)) rfl ?_
          refine WL.cd L0 U0 U0 (fun hg149 => ?_) (fun hg149 => ?_)
          ·
           refine WL.gy rfl L0 (R.mv (.t (D1 L5))) rfl ?_
           refine WL.gy rfl L1 (R.nc (.t L0)) rfl ?_
           refine WL.gy rfl L2 (R.fao fo_127_0 (.t L0) (k := n1 * 5 + 0) rfl) rfl ?_
           refine WL.gy rfl L3 (R.ld sc_57 (.t L0) H1 (w_frame hf (j := 0) rfl)) rfl ?_
           refine WL.gy rfl L4 (R.nei (.t L0) .c) rfl ?_
           refine WL.gy rfl L9 (R.pkt (.t L5) (.t L0)) rfl ?_
           refine WL.st (R.pkf (.t (D1 L0)) (.t L0)) rfl ?_
           refine WL.nil (QS.next (W.del (.kp (.dr (.dr (.dr (.dr (.dr (.dr (.dr (.dr (.dr (.dr (.dr (.dr (.dr (.dr (.dr (.dr .rf))))))))))))))))) ?_))
           refine W.cd (.t L0) (fun h12 => ?_) (fun h12 => ?_)
           ·
            refine W.del (.dr .rf) (W.seq (W.region ?_))
            refine WL.as .c U4 rfl ?_
            refine WL.nil (QS.next (W.ret (QS.thenr (QS.blkr (QS.thenr ?_)))))
            exact QS.fin (.inl rfl) rfl (.tmp L4 .nil) () (by first | (exfalso; omega) | (unfold outerS; (first | rw [top_0] | rw [top_1 hf]); dsimp only [zf]; (repeat (first | rw [if_pos (by omega)] | rw [if_neg (by omega)])); first | done | rfl | (rw [List.set_set]; rfl))) (.dr (.kp (by first | (exfalso; omega) | (unfold outerS; (first | rw [top_0] | rw [top_1 hf]); dsimp only [zf]; (repeat (first | rw [if_pos (by omega)] | rw [if_neg (by omega)])); first | done | rfl | (rw [List.set_set]; rfl))) .nil)) (fun _ _ _ => trivial)
           ·
            refine W.del (.dr .rf) (W.skip (QS.next (W.seq (W.region ?_))))
            refine WL.st (R.fa fo_59_2 (.t L3)) rfl ?_
            refine WL.st (R.ld sc_57 (.t L0) H0 rfl) rfl ?_
            refine WL.st (R.eqi (.t L0) .c) rfl ?_
            refine WL.nil (QS.next (W.del (.kp (.dr (.dr .rf))) ?_))
            refine W.cd (.t L0) (fun h13 => ?_) (fun h13 => ?_)
            ·
             refine W.del (.dr .rf) (W.region ?_)
             refine WL.st (R.mv (.t L0)) rfl ?_
             refine WL.st (R.nc (.t L0)) rfl ?_
             refine WL.st (R.fa fo_130_1 (.t L0)) rfl ?_
             refine WL.st (R.ld sc_3 (.t L0) H1 (w_depth hk)) rfl ?_
             refine WL.st (R.vq (R.sub (.t L0) .c (wi (by omega) (by omega))) (show Value.int .i64 (((n1 + 1 : Nat) : Int) - 1) = Value.int .i64 ((n1 : Nat) : Int) from congrArg (Value.int .i64) (by omega))) rfl ?_
             refine WL.st (R.nc (.t L4)) rfl ?_
             refine WL.st (R.fa fo_130_1 (.t L0)) rfl ?_
             refine WL.sto sz_3 (.t L0) (.t L2) rfl rfl rfl C1 (wp_depth hk) ?_
             refine WL.nil (QS.blkn (QS.next (W.del (.dr (.dr (.dr (.dr (.dr (.dr (.dr .rf))))))) (W.seq (W.region ?_)))))
             refine WL.as .c U4 rfl ?_
             refine WL.nil (QS.next (W.ret ?_))
             exact QS.fin (.inl rfl) rfl (.tmp L4 .nil) () (by first | (exfalso; omega) | (unfold outerS; (first | rw [top_0] | rw [top_1 hf]); dsimp only [zf]; (repeat (first | rw [if_pos (by omega)] | rw [if_neg (by omega)])); first | done | rfl | (rw [List.set_set]; rfl))) (.dr (.kp (by first | (exfalso; omega) | (unfold outerS; (first | rw [top_0] | rw [top_1 hf]); dsimp only [zf]; (repeat (first | rw [if_pos (by omega)] | rw [if_neg (by omega)])); first | done | rfl | (rw [List.set_set]; rfl))) .nil)) (fun _ _ _ => trivial)
            ·
             refine W.del (.dr .rf) (W.region ?_)
             refine WL.st (R.mv (.t L5)) rfl ?_
             refine WL.st (R.mv (.t L6)) rfl ?_
             refine WL.st (R.mv (.t L7)) rfl ?_
             refine WL.st (R.nc (.t L0)) rfl ?_
             refine WL.st (R.fao fo_127_2 (.t L0) (k := n1 * 5 + 2) rfl) rfl ?_
             refine WL.st (R.ld sc_3 (.t L0) H1 (w_frame hf (j := 2) rfl)) rfl ?_
             refine WL.st (R.add (.t L0) .c (wi (by omega) (by omega))) rfl ?_
             refine WL.st (R.nc (.t L6)) rfl ?_
             refine WL.st (R.fao fo_127_2 (.t L0) (k := n1 * 5 + 2) rfl) rfl ?_
             refine WL.sto sz_3 (.t L0) (.t L2) rfl rfl rfl C1 (wp_frame (f' := ⟨f.kind, f.items, f.rows + 1, f.cells, f.wide⟩) hf (j := 2) (by repeat constructor)) ?_
             refine WL.st (R.nc (.t L7)) rfl ?_
             refine WL.st (R.fao fo_127_3 (.t L0) (k := n1 * 5 + 3) rfl) rfl ?_
             refine WL.sto sz_3 (.t L0) .c rfl rfl rfl C1 (wp_frame (f' := ⟨f.kind, f.items, f.rows + 1, 0, f.wide⟩) (set_get hf) (j := 3) (by repeat constructor)) ?_
             refine WL.nil (QS.blkn (QS.next (W.del (.dr (.dr (.dr (.dr (.dr (.dr (.dr (.dr (.dr (.dr (.dr .rf))))))))))) (W.seq (W.region ?_)))))
             refine WL.as .c U4 rfl ?_
             refine WL.nil (QS.next (W.ret ?_))
             exact QS.fin (.inl rfl) rfl (.tmp L4 .nil) () (by first | (exfalso; omega) | (unfold outerS; (first | rw [top_0] | rw [top_1 hf]); dsimp only [zf]; (repeat (first | rw [if_pos (by omega)] | rw [if_neg (by omega)])); first | done | rfl | (rw [List.set_set]; rfl))) (.dr (.kp (by first | (exfalso; omega) | (unfold outerS; (first | rw [top_0] | rw [top_1 hf]); dsimp only [zf]; (repeat (first | rw [if_pos (by omega)] | rw [if_neg (by omega)])); first | done | rfl | (rw [List.set_set]; rfl))) .nil)) (fun _ _ _ => trivial)
          ·
           refine WL.gn rfl L0 rfl ?_
           refine WL.gn rfl L1 rfl ?_
           refine WL.gn rfl L2 rfl ?_
           refine WL.gn rfl L3 rfl ?_
           refine WL.gn rfl L4 rfl ?_
           refine WL.gy rfl L9 (R.pkf (.t L5) .c) rfl ?_
           refine WL.st (R.pkf (.t (D1 L0)) (.t L0)) rfl ?_
           refine WL.nil (QS.next (W.del (.kp (.dr (.dr (.dr (.dr (.dr (.dr (.dr (.dr (.dr (.dr (.dr (.dr (.dr (.dr (.dr (.dr .rf))))))))))))))))) (W.cf (.t L0) (W.del (.dr .rf) (W.skip (QS.next (W.seq (W.region ?_))))))))
           refine WL.st (R.fa fo_59_2 (.t L3)) rfl ?_
           refine WL.st (R.ld sc_57 (.t L0) H0 rfl) rfl ?_
           refine WL.st (R.eqi (.t L0) .c) rfl ?_
           refine WL.nil (QS.next (W.del (.kp (.dr (.dr .rf))) ?_))
           refine W.cd (.t L0) (fun h13 => ?_) (fun h13 => ?_)
           ·
            refine W.del (.dr .rf) (W.region ?_)
            refine WL.st (R.mv (.t L0)) rfl ?_
            refine WL.st (R.nc (.t L0)) rfl ?_
            refine WL.st (R.fa fo_130_1 (.t L0)) rfl ?_
            refine WL.st (R.ld sc_3 (.t L0) H1 (w_depth hk)) rfl ?_
            refine WL.st (R.vq (R.sub (.t L0) .c (wi (by omega) (by omega))) (show Value.int .i64 (((n1 + 1 : Nat) : Int) - 1) = Value.int .i64 ((n1 : Nat) : Int) from congrArg (Value.int .i64) (by omega))) rfl ?_
            refine WL.st (R.nc (.t L4)) rfl ?_
            refine WL.st (R.fa fo_130_1 (.t L0)) rfl ?_
            refine WL.sto sz_3 (.t L0) (.t L2) rfl rfl rfl C1 (wp_depth hk) ?_
            refine WL.nil (QS.blkn (QS.next (W.del (.dr (.dr (.dr (.dr (.dr (.dr (.dr .rf))))))) (W.seq (W.region ?_)))))
            refine WL.as .c U4 rfl ?_
            refine WL.nil (QS.next (W.ret ?_))
            exact QS.fin (.inl rfl) rfl (.tmp L4 .nil) () (by first | (exfalso; omega) | (unfold outerS; (first | rw [top_0] | rw [top_1 hf]); dsimp only [zf]; (repeat (first | rw [if_pos (by omega)] | rw [if_neg (by omega)])); first | done | rfl | (rw [List.set_set]; rfl))) (.dr (.kp (by first | (exfalso; omega) | (unfold outerS; (first | rw [top_0] | rw [top_1 hf]); dsimp only [zf]; (repeat (first | rw [if_pos (by omega)] | rw [if_neg (by omega)])); first | done | rfl | (rw [List.set_set]; rfl))) .nil)) (fun _ _ _ => trivial)
           ·
            refine W.del (.dr .rf) (W.region ?_)
            refine WL.st (R.mv (.t L5)) rfl ?_
            refine WL.st (R.mv (.t L6)) rfl ?_
            refine WL.st (R.mv (.t L7)) rfl ?_
            refine WL.st (R.nc (.t L0)) rfl ?_
            refine WL.st (R.fao fo_127_2 (.t L0) (k := n1 * 5 + 2) rfl) rfl ?_
            refine WL.st (R.ld sc_3 (.t L0) H1 (w_frame hf (j := 2) rfl)) rfl ?_
            refine WL.st (R.add (.t L0) .c (wi (by omega) (by omega))) rfl ?_
            refine WL.st (R.nc (.t L6)) rfl ?_
            refine WL.st (R.fao fo_127_2 (.t L0) (k := n1 * 5 + 2) rfl) rfl ?_
            refine WL.sto sz_3 (.t L0) (.t L2) rfl rfl rfl C1 (wp_frame (f' := ⟨f.kind, f.items, f.rows + 1, f.cells, f.wide⟩) hf (j := 2) (by repeat constructor)) ?_
            refine WL.st (R.nc (.t L7)) rfl ?_
            refine WL.st (R.fao fo_127_3 (.t L0) (k := n1 * 5 + 3) rfl) rfl ?_
            refine WL.sto sz_3 (.t L0) .c rfl rfl rfl C1 (wp_frame (f' := ⟨f.kind, f.items, f.rows + 1, 0, f.wide⟩) (set_get hf) (j := 3) (by repeat constructor)) ?_
            refine WL.nil (QS.blkn (QS.next (W.del (.dr (.dr (.dr (.dr (.dr (.dr (.dr (.dr (.dr (.dr (.dr .rf))))))))))) (W.seq (W.region ?_)))))
            refine WL.as .c U4 rfl ?_
            refine WL.nil (QS.next (W.ret ?_))
            exact QS.fin (.inl rfl) rfl (.tmp L4 .nil) () (by first | (exfalso; omega) | (unfold outerS; (first | rw [top_0] | rw [top_1 hf]); dsimp only [zf]; (repeat (first | rw [if_pos (by omega)] | rw [if_neg (by omega)])); first | done | rfl | (rw [List.set_set]; rfl))) (.dr (.kp (by first | (exfalso; omega) | (unfold outerS; (first | rw [top_0] | rw [top_1 hf]); dsimp only [zf]; (repeat (first | rw [if_pos (by omega)] | rw [if_neg (by omega)])); first | done | rfl | (rw [List.set_set]; rfl))) .nil)) (fun _ _ _ => trivial)
         ·
          refine W.region ?_
          refine WL.st (R.eqi (.t L1) .c) rfl ?_
          refine WL.as (.t L0) U1 rfl ?_
          refine WL.nil (QS.next (W.del (.dr (.kp (.dr .rf))) ?_))
          refine W.cd (.t L0) (fun h11 => ?_) (fun h11 => ?_)
          ·
           refine W.del (.dr .rf) (W.seq (W.seq (W.region ?_)))
           refine WL.st (R.mv (.t L5)) rfl ?_
           refine WL.st (R.eqpn pt_149 (.t L0)) rfl ?_
           refine WL.st (R.mv (.t L0)) rfl ?_
           refine WL.gy rfl L0 (R.mv (.t (D1 L0))) rfl ?_
           refine WL.st (R.pkf (.t L1) (.t L0)) rfl ?_
           refine WL.st (R.mv (.t L0)) rfl ?_
           refine WL.gy rfl L0 (R.fa fo_59_2 (.t L9)) rfl ?_
           refine WL.gy rfl L1 (R.ld sc_57 (.t L0) H0 rfl) rfl ?_
           refine WL.gy rfl L2 (R.eqi (.t L0) .c) rfl ?_
           refine WL.gy rfl L3 (R.mv (.t L0)) rfl ?_
           refine WL.cd L0 U0 U0 (fun hg149 => ?_) (fun hg149 => ?_)
           ·
            refine WL.gy rfl L0 (R.mv (.t (D1 L5))) rfl ?_
            refine WL.gy rfl L1 (R.nc (.t L0)) rfl ?_
            refine WL.gy rfl L2 (R.fao fo_127_0 (.t L0) (k := n1 * 5 + 0) rfl) rfl ?_
            refine WL.gy rfl L3 (R.ld sc_57 (.t L0) H1 (w_frame hf (j := 0) rfl)) rfl ?_
            refine WL.gy rfl L4 (R.nei (.t L0) .c) rfl ?_
            refine WL.gy rfl L9 (R.pkt (.t L5) (.t L0)) rfl ?_
            refine WL.st (R.pkf (.t (D1 L0)) (.t L0)) rfl ?_
            refine WL.nil (QS.next (W.del (.kp (.dr (.dr (.dr (.dr (.dr (.dr (.dr (.dr (.dr (.dr (.dr (.dr (.dr (.dr (.dr (.dr .rf))))))))))))))))) ?_))
            refine W.cd (.t L0) (fun h12 => ?_) (fun h12 => ?_)
            ·
             refine W.del (.dr .rf) (W.seq (W.region ?_))
             refine WL.as .c U4 rfl ?_
             refine WL.nil (QS.next (W.ret (QS.thenr (QS.blkr (QS.thenr ?_)))))
             exact QS.fin (.inl rfl) rfl (.tmp L4 .nil) () (by first | (exfalso; omega) | (unfold outerS; (first | rw [top_0] | rw [top_1 hf]); dsimp only [zf]; (repeat (first | rw [if_pos (by omega)] | rw [if_neg (by omega)])); first | done | rfl | (rw [List.set_set]; rfl))) (.dr (.kp (by first | (exfalso; omega) | (unfold outerS; (first | rw [top_0] | rw [top_1 hf]); dsimp only [zf]; (repeat (first | rw [if_pos (by omega)] | rw [if_neg (by omega)])); first | done | rfl | (rw [List.set_set]; rfl))) .nil)) (fun _ _ _ => trivial)
            ·
             refine W.del (.dr .rf) (W.skip (QS.next (W.seq (W.region ?_))))
             refine WL.st (R.fa fo_59_2 (.t L3)) rfl ?_
             refine WL.st (R.ld sc_57 (.t L0) H0 rfl) rfl ?_
             refine WL.st (R.eqi (.t L0) .c) rfl ?_
             refine WL.nil (QS.next (W.del (.kp (.dr (.dr .rf))) ?_))
             refine W.cd (.t L0) (fun h13 => ?_) (fun h13 => ?_)
             ·
              refine W.del (.dr .rf) (W.region ?_)
              refine WL.st (R.mv (.t L0)) rfl ?_
              refine WL.st (R.nc (.t L0)) rfl ?_
              refine WL.st (R.fa fo_130_1 (.t L0)) rfl ?_
              refine WL.st (R.ld sc_3 (.t L0) H1 (w_depth hk)) rfl ?_
              refine WL.st (R.vq (R.sub (.t L0) .c (wi (by omega) (by omega))) (show Value.int .i64 (((n1 + 1 : Nat) : Int) - 1) = Value.int .i64 ((n1 : Nat) : Int) from congrArg (Value.int .i64) (by omega))) rfl ?_
              refine WL.st (R.nc (.t L4)) rfl ?_
              refine WL.st (R.fa fo_130_1 (.t L0)) rfl ?_
              refine WL.sto sz_3 (.t L0) (.t L2) rfl rfl rfl C1 (wp_depth hk) ?_
              refine WL.nil (QS.blkn (QS.next (W.del (.dr (.dr (.dr (.dr (.dr (.dr (.dr .rf))))))) (W.seq (W.region ?_)))))
              refine WL.as .c U4 rfl ?_
              refine WL.nil (QS.next (W.ret ?_))
              exact QS.fin (.inl rfl) rfl (.tmp L4 .nil) () (by first | (exfalso; omega) | (unfold outerS; (first | rw [top_0] | rw [top_1 hf]); dsimp only [zf]; (repeat (first | rw [if_pos (by omega)] | rw [if_neg (by omega)])); first | done | rfl | (rw [List.set_set]; rfl))) (.dr (.kp (by first | (exfalso; omega) | (unfold outerS; (first | rw [top_0] | rw [top_1 hf]); dsimp only [zf]; (repeat (first | rw [if_pos (by omega)] | rw [if_neg (by omega)])); first | done | rfl | (rw [List.set_set]; rfl))) .nil)) (fun _ _ _ => trivial)
             ·
              refine W.del (.dr .rf) (W.region ?_)
              refine WL.st (R.mv (.t L5)) rfl ?_
              refine WL.st (R.mv (.t L6)) rfl ?_
              refine WL.st (R.mv (.t L7)) rfl ?_
              refine WL.st (R.nc (.t L0)) rfl ?_
              refine WL.st (R.fao fo_127_2 (.t L0) (k := n1 * 5 + 2) rfl) rfl ?_
              refine WL.st (R.ld sc_3 (.t L0) H1 (w_frame hf (j := 2) rfl)) rfl ?_
              refine WL.st (R.add (.t L0) .c (wi (by omega) (by omega))) rfl ?_
              refine WL.st (R.nc (.t L6)) rfl ?_
              refine WL.st (R.fao fo_127_2 (.t L0) (k := n1 * 5 + 2) rfl) rfl ?_
              refine WL.sto sz_3 (.t L0) (.t L2) rfl rfl rfl C1 (wp_frame (f' := ⟨f.kind, f.items, f.rows + 1, f.cells, f.wide⟩) hf (j := 2) (by repeat constructor)) ?_
              refine WL.st (R.nc (.t L7)) rfl ?_
              refine WL.st (R.fao fo_127_3 (.t L0) (k := n1 * 5 + 3) rfl) rfl ?_
              refine WL.sto sz_3 (.t L0) .c rfl rfl rfl C1 (wp_frame (f' := ⟨f.kind, f.items, f.rows + 1, 0, f.wide⟩) (set_get hf) (j := 3) (by repeat constructor)) ?_
              refine WL.nil (QS.blkn (QS.next (W.del (.dr (.dr (.dr (.dr (.dr (.dr (.dr (.dr (.dr (.dr (.dr .rf))))))))))) (W.seq (W.region ?_)))))
              refine WL.as .c U4 rfl ?_
              refine WL.nil (QS.next (W.ret ?_))
              exact QS.fin (.inl rfl) rfl (.tmp L4 .nil) () (by first | (exfalso; omega) | (unfold outerS; (first | rw [top_0] | rw [top_1 hf]); dsimp only [zf]; (repeat (first | rw [if_pos (by omega)] | rw [if_neg (by omega)])); first | done | rfl | (rw [List.set_set]; rfl))) (.dr (.kp (by first | (exfalso; omega) | (unfold outerS; (first | rw [top_0] | rw [top_1 hf]); dsimp only [zf]; (repeat (first | rw [if_pos (by omega)] | rw [if_neg (by omega)])); first | done | rfl | (rw [List.set_set]; rfl))) .nil)) (fun _ _ _ => trivial)
           ·
            refine WL.gn rfl L0 rfl ?_
            refine WL.gn rfl L1 rfl ?_
            refine WL.gn rfl L2 rfl ?_
            refine WL.gn rfl L3 rfl ?_
            refine WL.gn rfl L4 rfl ?_
            refine WL.gy rfl L9 (R.pkf (.t L5) .c) rfl ?_
            refine WL.st (R.pkf (.t (D1 L0)) (.t L0)) rfl ?_
            refine WL.nil (QS.next (W.del (.kp (.dr (.dr (.dr (.dr (.dr (.dr (.dr (.dr (.dr (.dr (.dr (.dr (.dr (.dr (.dr (.dr .rf))))))))))))))))) (W.cf (.t L0) (W.del (.dr .rf) (W.skip (QS.next (W.seq (W.region ?_))))))))
            refine WL.st (R.fa fo_59_2 (.t L3)) rfl ?_
            refine WL.st (R.ld sc_57 (.t L0) H0 rfl) rfl ?_
            refine WL.st (R.eqi (.t L0) .c) rfl ?_
            refine WL.nil (QS.next (W.del (.kp (.dr (.dr .rf))) ?_))
            refine W.cd (.t L0) (fun h13 => ?_) (fun h13 => ?_)
            ·
             refine W.del (.dr .rf) (W.region ?_)
             refine WL.st (R.mv (.t L0)) rfl ?_
             refine WL.st (R.nc (.t L0)) rfl ?_
             refine WL.st (R.fa fo_130_1 (.t L0)) rfl ?_
             refine WL.st (R.ld sc_3 (.t L0) H1 (w_depth hk)) rfl ?_
             refine WL.st (R.vq (R.sub (.t L0) .c (wi (by omega) (by omega))) (show Value.int .i64 (((n1 + 1 : Nat) : Int) - 1) = Value.int .i64 ((n1 : Nat) : Int) from congrArg (Value.int .i64) (by omega))) rfl ?_
             refine WL.st (R.nc (.t L4)) rfl ?_
             refine WL.st (R.fa fo_130_1 (.t L0)) rfl ?_
             refine WL.sto sz_3 (.t L0) (.t L2) rfl rfl rfl C1 (wp_depth hk) ?_
             refine WL.nil (QS.blkn (QS.next (W.del (.dr (.dr (.dr (.dr (.dr (.dr (.dr .rf))))))) (W.seq (W.region ?_)))))
             refine WL.as .c U4 rfl ?_
             refine WL.nil (QS.next (W.ret ?_))
             exact QS.fin (.inl rfl) rfl (.tmp L4 .nil) () (by first | (exfalso; omega) | (unfold outerS; (first | rw [top_0] | rw [top_1 hf]); dsimp only [zf]; (repeat (first | rw [if_pos (by omega)] | rw [if_neg (by omega)])); first | done | rfl | (rw [List.set_set]; rfl))) (.dr (.kp (by first | (exfalso; omega) | (unfold outerS; (first | rw [top_0] | rw [top_1 hf]); dsimp only [zf]; (repeat (first | rw [if_pos (by omega)] | rw [if_neg (by omega)])); first | done | rfl | (rw [List.set_set]; rfl))) .nil)) (fun _ _ _ => trivial)
            ·
             refine W.del (.dr .rf) (W.region ?_)
             refine WL.st (R.mv (.t L5)) rfl ?_
             refine WL.st (R.mv (.t L6)) rfl ?_
             refine WL.st (R.mv (.t L7)) rfl ?_
             refine WL.st (R.nc (.t L0)) rfl ?_
             refine WL.st (R.fao fo_127_2 (.t L0) (k := n1 * 5 + 2) rfl) rfl ?_
             refine WL.st (R.ld sc_3 (.t L0) H1 (w_frame hf (j := 2) rfl)) rfl ?_
             refine WL.st (R.add (.t L0) .c (wi (by omega) (by omega))) rfl ?_
             refine WL.st (R.nc (.t L6)) rfl ?_
             refine WL.st (R.fao fo_127_2 (.t L0) (k := n1 * 5 + 2) rfl) rfl ?_
             refine WL.sto sz_3 (.t L0) (.t L2) rfl rfl rfl C1 (wp_frame (f' := ⟨f.kind, f.items, f.rows + 1, f.cells, f.wide⟩) hf (j := 2) (by repeat constructor)) ?_
             refine WL.st (R.nc (.t L7)) rfl ?_
             refine WL.st (R.fao fo_127_3 (.t L0) (k := n1 * 5 + 3) rfl) rfl ?_
             refine WL.sto sz_3 (.t L0) .c rfl rfl rfl C1 (wp_frame (f' := ⟨f.kind, f.items, f.rows + 1, 0, f.wide⟩) (set_get hf) (j := 3) (by repeat constructor)) ?_
             refine WL.nil (QS.blkn (QS.next (W.del (.dr (.dr (.dr (.dr (.dr (.dr (.dr (.dr (.dr (.dr (.dr .rf))))))))))) (W.seq (W.region ?_)))))
             refine WL.as .c U4 rfl ?_
             refine WL.nil (QS.next (W.ret ?_))
             exact QS.fin (.inl rfl) rfl (.tmp L4 .nil) () (by first | (exfalso; omega) | (unfold outerS; (first | rw [top_0] | rw [top_1 hf]); dsimp only [zf]; (repeat (first | rw [if_pos (by omega)] | rw [if_neg (by omega)])); first | done | rfl | (rw [List.set_set]; rfl))) (.dr (.kp (by first | (exfalso; omega) | (unfold outerS; (first | rw [top_0] | rw [top_1 hf]); dsimp only [zf]; (repeat (first | rw [if_pos (by omega)] | rw [if_neg (by omega)])); first | done | rfl | (rw [List.set_set]; rfl))) .nil)) (fun _ _ _ => trivial)
          ·
           refine W.del (.dr .rf) (W.seq (W.region ?_))
           refine WL.as .c U4 rfl ?_
           refine WL.nil (QS.next (W.ret (QS.blkr (QS.thenr ?_))))
           exact QS.fin (.inl rfl) rfl (.tmp L4 .nil) () (by first | (exfalso; omega) | (unfold outerS; (first | rw [top_0] | rw [top_1 hf]); dsimp only [zf]; (repeat (first | rw [if_pos (by omega)] | rw [if_neg (by omega)])); first | done | rfl | (rw [List.set_set]; rfl))) (.dr (.kp (by first | (exfalso; omega) | (unfold outerS; (first | rw [top_0] | rw [top_1 hf]); dsimp only [zf]; (repeat (first | rw [if_pos (by omega)] | rw [if_neg (by omega)])); first | done | rfl | (rw [List.set_set]; rfl))) .nil)) (fun _ _ _ => trivial)

theorem walk_place_in {g : Nat} {st : List FrameS} {d : Nat} {p m li la : Int} {s : List UInt8} {sy tp : Int} {A : Option Addr} {c : Nat} {at_ long kind n : Int} {wd : List Int} {k : Nat} (ok : WOk ⟨st, d, p, m, li, la, s, sy, tp⟩ k) (hm : k ≤ 2097152) (hp : p = 1) {C : Cx} (hb : Hb C C.w0 [blk g 130 (wcells ⟨st, d, p, m, li, la, s, sy, tp⟩)] (fun _ => True)) :
    Ret1 Tryd.prog 67 [.pointer (some ⟨g, 0, none⟩), instrV ⟨at_, long, kind, n, wd⟩ A c] C (.bool (innerS ⟨st, d, p, m, li, la, s, sy, tp⟩ kind).1) (blk g 130 (wcells (innerS ⟨st, d, p, m, li, la, s, sy, tp⟩ kind).2)) := by
 have hk := ok.len
 dsimp only at hk
 refine Sp.enter (N := 178) (e := entryEnv [.pointer (some ⟨g, 0, none⟩), .agg #[.int .i64 at_, .int .i64 long, .int .i64 kind, .int .i64 n, .slice A wd.length c]] 0 8) Tryd.func67 rfl rfl (Nat.le_of_ble_eq_true rfl) (entry_ok (Nat.le_of_ble_eq_true rfl) (Nat.le_of_ble_eq_true rfl)) (entry_nd _ _) hb ?_
 show W _ _ _ _ _ [(0, .pointer (some ⟨g, 0, none⟩)), (1, .agg #[.int .i64 at_, .int .i64 long, .int .i64 kind, .int .i64 n, .slice A wd.length c]), (2, undef), (3, undef), (4, undef), (5, undef), (6, undef), (7, undef)] _ _
 refine W.seq (W.region ?_)
 refine WL.boxu (.t L1) rfl (fun _ => U3) rfl (fun g3 => ?_)
 refine WL.as .c U4 rfl ?_
 refine WL.nil (QS.next (W.seq (W.seq (W.region ?_))))
 refine WL.st (R.mv (.t L0)) rfl ?_
 refine WL.st (R.nc (.t L0)) rfl ?_
 refine WL.st (R.fa fo_130_2 (.t L0)) rfl ?_
 refine WL.st (R.ld sc_3 (.t L0) H1 (w_para hk)) rfl ?_
 refine WL.st (R.eqi (.t L0) .c) rfl ?_
 refine WL.nil (QS.next (W.del (.kp (.dr (.dr (.dr (.dr .rf))))) ?_))
 refine W.cdt (.t L0) (by omega) ?_
 refine W.del (.dr .rf) (W.seq (W.region ?_))
 refine WL.st (R.mv (.t L0)) rfl ?_
 refine WL.st (R.lda ag_59 (.t L4) H0 (by repeat constructor)) rfl ?_
 refine WL.call1r gf_89 .f (.cons (.t L1) (.cons (.t L0) .nil)) I1 (fun w ds hb => (walk_inner ok hm hp (hb.imp fun _ _ => trivial))) rfl ?_
 refine WL.as (.t L0) U7 rfl ?_
 refine WL.nil (QS.next (W.del (.dr (.dr (.dr .rf))) (W.ret (QS.thenr ?_))))
 exact QS.fin (.inl rfl) rfl (.tmp L4 .nil) () rfl (.dr (.kp rfl .nil)) (fun _ _ _ => trivial)

set_option maxHeartbeats 1000000 in
theorem walk_operand {g : Nat} {st : List FrameS} {d : Nat} {p m li la : Int} {s : List UInt8} {sy tp : Int} {A : Option Addr} {c : Nat} {at_ long kind n : Int} {wd : List Int} {k : Nat} (ok : WOk ⟨st, d, p, m, li, la, s, sy, tp⟩ k) (hw : wd.length ≤ 1048576) {C : Cx} (hb : Hb C C.w0 [blk g 130 (wcells ⟨st, d, p, m, li, la, s, sy, tp⟩)] (fun w => RdI w A wd)) :
    Ret1 Tryd.prog 66 [.pointer (some ⟨g, 0, none⟩), instrV ⟨at_, long, kind, n, wd⟩ A c] C (.bool (operandS kind n wd sy tp)) (blk g 130 (wcells ⟨st, d, p, m, li, la, s, sy, tp⟩)) := by
 obtain ⟨hk, ho, hi, hl, hfr⟩ := ok
 dsimp only at hk ho hi hl hfr
 refine Sp.enter (N := 50) (e := entryEnv [.pointer (some ⟨g, 0, none⟩), .agg #[.int .i64 at_, .int .i64 long, .int .i64 kind, .int .i64 n, .slice A wd.length c]] 0 7) Tryd.func66 rfl rfl (Nat.le_of_ble_eq_true rfl) (entry_ok (Nat.le_of_ble_eq_true rfl) (Nat.le_of_ble_eq_true rfl)) (entry_nd _ _) hb ?_
 show W _ _ _ _ _ [(0, .pointer (some ⟨g, 0, none⟩)), (1, .agg #[.int .i64 at_, .int .i64 long, .int .i64 kind, .int .i64 n, .slice A wd.length c]), (2, undef), (3, undef), (4, undef), (5, undef), (6, undef)] _ _
 refine W.seq (W.region ?_)
 refine WL.boxu (.t L1) rfl (fun _ => U3) rfl (fun g3 => ?_)
 refine WL.as .c U4 rfl ?_
 refine WL.nil (QS.next (W.seq (W.seq (W.region ?_))))
 refine WL.st (R.fa fo_59_2 (.t L3)) rfl ?_
 refine WL.st (R.ld sc_57 (.t L0) H0 rfl) rfl ?_
 refine WL.nil (QS.next (W.del (.kp (.dr .rf)) (W.block (W.seq (W.seq (W.region ?_))))))
 refine WL.st (R.eqi (.t L0) .c) rfl ?_
 refine WL.st (R.as (.t L0)) rfl ?_
 refine WL.nil (QS.next (W.del (.kp (.dr .rf)) ?_))
 refine W.cd (.t L0) (fun h0 => ?_) (fun h0 => ?_)
 ·
  refine W.skip (QS.next ?_)
  refine W.cdt (.t L0) h0 ?_
  refine W.del (.dr (.dr .rf)) (W.seq ?_)
  refine W.draw 8 mixed (by kernel_rfl) ?_
  refine HD.st (R.fa fo_59_3 (.t L3)) rfl ?_
  refine HD.st (R.ld sc_3 (.t L0) H0 rfl) rfl ?_
  refine HD.st (R.mv (.t L2)) rfl ?_
  refine HD.st (R.nc (.t L0)) rfl ?_
  refine HD.st (R.fa fo_130_7 (.t L0)) rfl ?_
  refine HD.st (R.ld sc_3 (.t L0) H1 (w_styles hk)) rfl ?_
  refine HD.st (R.lss (.t L4) (.t L0)) rfl ?_
  refine HD.up (R.as (.t L0)) (E1 U1) rfl ?_
  refine HD.nil (WL.nil (QS.next (W.del (.dr (.dr (.dr (.dr (.dr (.dr (.dr .rf))))))) (W.ret (QS.blkr (QS.thenr ?_))))))
  exact QS.fin (.inl rfl) rfl (.tmp L4 .nil) () (by unfold operandS; (repeat (first | rw [if_pos (by omega)] | rw [if_neg (by omega)])); first | done | rfl) (.dr (.kp rfl .nil)) (fun _ _ _ => trivial)
 ·
  refine W.region ?_
  refine WL.st (R.eqi (.t L1) .c) rfl ?_
  refine WL.as (.t L0) U1 rfl ?_
  refine WL.nil (QS.next (W.del (.dr .rf) ?_))
  refine W.cd (.t L0) (fun h1 => ?_) (fun h1 => ?_)
  ·
   refine W.del (.dr (.dr .rf)) (W.seq ?_)
   refine W.draw 8 mixed (by kernel_rfl) ?_
   refine HD.st (R.fa fo_59_3 (.t L3)) rfl ?_
   refine HD.st (R.ld sc_3 (.t L0) H0 rfl) rfl ?_
   refine HD.st (R.mv (.t L2)) rfl ?_
   refine HD.st (R.nc (.t L0)) rfl ?_
   refine HD.st (R.fa fo_130_7 (.t L0)) rfl ?_
   refine HD.st (R.ld sc_3 (.t L0) H1 (w_styles hk)) rfl ?_
   refine HD.st (R.lss (.t L4) (.t L0)) rfl ?_
   refine HD.up (R.as (.t L0)) (E1 U1) rfl ?_
   refine HD.nil (WL.nil (QS.next (W.del (.dr (.dr (.dr (.dr (.dr (.dr (.dr .rf))))))) (W.ret (QS.blkr (QS.thenr ?_))))))
   exact QS.fin (.inl rfl) rfl (.tmp L4 .nil) () (by unfold operandS; (repeat (first | rw [if_pos (by omega)] | rw [if_neg (by omega)])); first | done | rfl) (.dr (.kp rfl .nil)) (fun _ _ _ => trivial)
  ·
   refine W.del (.dr .rf) (W.seq (W.seq (W.region ?_)))
   refine WL.st (R.eqi (.t L0) .c) rfl ?_
   refine WL.st (R.as (.t L0)) rfl ?_
   refine WL.nil (QS.next (W.del (.kp (.dr .rf)) ?_))
   refine W.cd (.t L0) (fun h2 => ?_) (fun h2 => ?_)
   ·
    refine W.skip (QS.next ?_)
    refine W.cdt (.t L0) h2 ?_
    refine W.del (.dr (.dr .rf)) (W.seq ?_)
    refine W.draw 8 mixed (by kernel_rfl) ?_
    refine HD.st (R.fa fo_59_3 (.t L3)) rfl ?_
    refine HD.st (R.ld sc_3 (.t L0) H0 rfl) rfl ?_
    refine HD.st (R.mv (.t L2)) rfl ?_
    refine HD.st (R.nc (.t L0)) rfl ?_
    refine HD.st (R.fa fo_130_8 (.t L0)) rfl ?_
    refine HD.st (R.ld sc_3 (.t L0) H1 (w_topics hk)) rfl ?_
    refine HD.st (R.lss (.t L4) (.t L0)) rfl ?_
    refine HD.up (R.as (.t L0)) (E1 U1) rfl ?_
    refine HD.nil (WL.nil (QS.next (W.del (.dr (.dr (.dr (.dr (.dr (.dr (.dr .rf))))))) (W.ret (QS.blkr (QS.thenr ?_))))))
    exact QS.fin (.inl rfl) rfl (.tmp L4 .nil) () (by unfold operandS; (repeat (first | rw [if_pos (by omega)] | rw [if_neg (by omega)])); first | done | rfl) (.dr (.kp rfl .nil)) (fun _ _ _ => trivial)
   ·
    refine W.region ?_
    refine WL.st (R.eqi (.t L1) .c) rfl ?_
    refine WL.as (.t L0) U1 rfl ?_
    refine WL.nil (QS.next (W.del (.dr .rf) ?_))
    refine W.cd (.t L0) (fun h3 => ?_) (fun h3 => ?_)
    ·
     refine W.del (.dr (.dr .rf)) (W.seq ?_)
     refine W.draw 8 mixed (by kernel_rfl) ?_
     refine HD.st (R.fa fo_59_3 (.t L3)) rfl ?_
     refine HD.st (R.ld sc_3 (.t L0) H0 rfl) rfl ?_
     refine HD.st (R.mv (.t L2)) rfl ?_
     refine HD.st (R.nc (.t L0)) rfl ?_
     refine HD.st (R.fa fo_130_8 (.t L0)) rfl ?_
     refine HD.st (R.ld sc_3 (.t L0) H1 (w_topics hk)) rfl ?_
     refine HD.st (R.lss (.t L4) (.t L0)) rfl ?_
     refine HD.up (R.as (.t L0)) (E1 U1) rfl ?_
     refine HD.nil (WL.nil (QS.next (W.del (.dr (.dr (.dr (.dr (.dr (.dr (.dr .rf))))))) (W.ret (QS.blkr (QS.thenr ?_))))))
     exact QS.fin (.inl rfl) rfl (.tmp L4 .nil) () (by unfold operandS; (repeat (first | rw [if_pos (by omega)] | rw [if_neg (by omega)])); first | done | rfl) (.dr (.kp rfl .nil)) (fun _ _ _ => trivial)
    ·
     refine W.del (.dr .rf) (W.seq (W.region ?_))
     refine WL.st (R.eqi (.t L0) .c) rfl ?_
     refine WL.st (R.as (.t L0)) rfl ?_
     refine WL.nil (QS.next (W.del (.kp (.dr .rf)) ?_))
     refine W.cd (.t L0) (fun h4 => ?_) (fun h4 => ?_)
     ·
      refine W.del (.dr (.dr .rf)) (W.seq (W.region ?_))
      refine WL.st (R.fa fo_59_3 (.t L3)) rfl ?_
      refine WL.st (R.ld sc_3 (.t L0) H0 rfl) rfl ?_
      refine WL.st (R.leq (.t L0) .c) rfl ?_
      refine WL.as (.t L0) U7 rfl ?_
      refine WL.nil (QS.next (W.del (.dr (.dr (.dr .rf))) (W.ret (QS.blkr (QS.thenr ?_)))))
      exact QS.fin (.inl rfl) rfl (.tmp L4 .nil) () (by unfold operandS; (repeat (first | rw [if_pos (by omega)] | rw [if_neg (by omega)])); first | done | rfl) (.dr (.kp rfl .nil)) (fun _ _ _ => trivial)
     ·
      refine W.del (.dr .rf) (W.seq (W.region ?_))
      refine WL.st (R.eqi (.t L0) .c) rfl ?_
      refine WL.st (R.as (.t L0)) rfl ?_
      refine WL.nil (QS.next (W.del (.kp (.dr (.dr .rf))) ?_))
      refine W.cd (.t L0) (fun h5 => ?_) (fun h5 => ?_)
      ·
       refine W.del (.dr .rf) (W.seq (W.seq (W.region ?_)))
       refine WL.st (R.fa fo_59_4 (.t L3)) rfl ?_
       refine WL.st (R.ld sc_37 (.t L0) H0 rfl) rfl ?_
       refine WL.st (R.lenl sl_37 (.t L0)) rfl ?_
       refine WL.st (R.mv .c) rfl ?_
       refine WL.nil (QS.next (W.del (.kp (.kp (.kp (.dr .rf)))) (W.block ?_)))
       refine W.loop (ι := {j : Nat // j ≤ wd.length ∧ ∀ i y, i < j → wd[i]? = some y → y ≤ 100}) (fun x => [(39, .int .i64 x.1), (38, .int .i64 wd.length), (37, .slice A wd.length c), (0, .pointer (some ⟨g, 0, none⟩)), (3, .pointer (some ⟨g3, 0, none⟩))]) (fun x => [blk g3 59 [.int .i64 at_, .int .i64 long, .int .i64 kind, .int .i64 n, .slice A wd.length c], blk g 130 (wcells ⟨st, d, p, m, li, la, s, sy, tp⟩)]) (fun x w => RdI w A wd) (fun x => wd.length - x.1) ⟨0, by omega, fun i y h => absurd h (by omega)⟩ (.kp rfl (.kp rfl (.kp rfl (.kp rfl (.dr (.dr (.kp rfl (.dr (.dr (.dr .nil)))))))))) (.kp rfl (.kp rfl .nil)) (fun _ h _ => h) ?_
       intro x
       obtain ⟨j, hj1, hj2⟩ := x
       show W _ _ _ _ _ [(39, .int .i64 j), (38, .int .i64 wd.length), (37, .slice A wd.length c), (0, .pointer (some ⟨g, 0, none⟩)), (3, .pointer (some ⟨g3, 0, none⟩))] [blk g3 59 [.int .i64 at_, .int .i64 long, .int .i64 kind, .int .i64 n, .slice A wd.length c], blk g 130 (wcells ⟨st, d, p, m, li, la, s, sy, tp⟩)] (fun w => RdI w A wd)
       refine W.seq (W.region ?_)
       refine WL.st (R.lss (.t L0) (.t L1)) rfl ?_
       refine WL.nil (QS.next (W.seq ?_))
       refine W.cd (.t L0) (fun h6 => ?_) (fun h6 => ?_)
       ·
        refine W.del (.dr .rf) (W.skip (QS.next (W.seq (W.block (W.seq ?_)))))
        obtain ⟨x, hx⟩ : ∃ x, wd[j]? = some x := ⟨_, List.getElem?_eq_getElem (by omega)⟩
        refine W.region ?_
        refine WL.st (R.ixI sl_37 (.t L2) rfl (.t L0) (j := j) rfl (by omega) (fun w hb => hb.get)) rfl ?_
        refine WL.st (R.ldp sc_3 (.t L0) (fun w hb => hb.get.cell hx)) rfl ?_
        refine WL.st (R.as (.t L0)) rfl ?_
        refine WL.nil (QS.next (W.del (.kp (.dr (.dr .rf))) (W.seq (W.region ?_))))
        refine WL.st (R.mv (.t L0)) rfl ?_
        refine WL.st (R.gtr (.t L0) .c) rfl ?_
        refine WL.nil (QS.next (W.del (.kp (.dr .rf)) ?_))
        refine W.cd (.t L0) (fun h7 => ?_) (fun h7 => ?_)
        ·
         refine W.del (.dr .rf) (W.seq (W.region ?_))
         refine WL.st (R.as .c) rfl ?_
         refine WL.nil (QS.next (W.ret (QS.blkr (QS.thenr (QS.thenr (QS.blkr (QS.thenr (QS.blkr (QS.thenr ?_)))))))))
         have hr : operandS kind n wd sy tp = false := operand_bad (by omega) hx (by omega)
         exact QS.fin (.inl rfl) rfl (.tmp L0 .nil) () (by rw [hr]; rfl) (.dr (.kp rfl .nil)) (fun _ _ _ => trivial)
        ·
         refine W.del (.dr .rf) (W.skip (QS.blkn (QS.next (W.region ?_))))
         refine WL.st (R.add (.t L1) .c (wi (by omega) (by omega))) rfl ?_
         refine WL.up (R.mv (.t L0)) U2 rfl ?_
         refine WL.nil ?_
         exact QS.at ⟨j + 1, by omega, below_snoc hj2 hx (by omega)⟩ (by dsimp only; omega) (.dr (.dr (.kp rfl (.kp rfl (.kp rfl (.kp rfl (.kp rfl .nil))))))) (.kp rfl (.kp rfl .nil)) (fun _ h _ => h)
       ·
        refine W.del (.dr .rf) (W.exit (QS.thenx (QS.thenx (QS.blkx (QS.next (W.del (.dr (.dr (.dr .rf))) (W.seq (W.region ?_))))))))
        refine WL.st (R.fa fo_59_4 (.t L1)) rfl ?_
        refine WL.st (R.ld sc_37 (.t L0) H0 rfl) rfl ?_
        refine WL.st (R.lenl sl_37 (.t L0)) rfl ?_
        refine WL.st (R.leq (.t L0) .c) rfl ?_
        refine WL.st (R.as (.t L0)) rfl ?_
        refine WL.nil (QS.next (W.del (.kp (.dr (.dr (.dr (.dr .rf))))) (W.ret (QS.blkr (QS.thenr ?_)))))
        have hr := operand_tab (n := n) (sy := sy) (tp := tp) (kind := kind) (by omega) (fun i y h => hj2 i y (by omega))
        exact QS.fin (.inl rfl) rfl (.tmp L0 .nil) () (by rw [hr]; rfl) (.dr (.kp rfl .nil)) (fun _ _ _ => trivial)
      ·
       refine W.del (.dr .rf) (W.skip (QS.blkn (QS.next (W.seq (W.region ?_)))))
       refine WL.as .c U4 rfl ?_
       refine WL.nil (QS.next (W.ret ?_))
       exact QS.fin (.inl rfl) rfl (.tmp L4 .nil) () (by unfold operandS; (repeat (first | rw [if_pos (by omega)] | rw [if_neg (by omega)])); first | done | rfl) (.dr (.kp rfl .nil)) (fun _ _ _ => trivial)

set_option maxHeartbeats 1000000 in
theorem walk_texts {g : Nat} {st : List FrameS} {d : Nat} {p m li la : Int} {s : List UInt8} {sy tp : Int} {A : Option Addr} {c : Nat} {at_ long kind n : Int} {wd : List Int}  (hk : st.length = 32) (hn : kind = 1 → 0 ≤ n) (hs : s.length ≤ 16384) {C : Cx} (hb : Hb C C.w0 [blk g 130 (wcells ⟨st, d, p, m, li, la, s, sy, tp⟩)] (fun w => Lib.Utf8Tabs 4 5 w)) :
    Ret1 Tryd.prog 68 [.pointer (some ⟨g, 0, none⟩), instrV ⟨at_, long, kind, n, wd⟩ A c] C (.bool (textsS ⟨st, d, p, m, li, la, s, sy, tp⟩ kind n).1) (blk g 130 (wcells (textsS ⟨st, d, p, m, li, la, s, sy, tp⟩ kind n).2)) := by
 refine Sp.enter (N := 48) (e := entryEnv [.pointer (some ⟨g, 0, none⟩), .agg #[.int .i64 at_, .int .i64 long, .int .i64 kind, .int .i64 n, .slice A wd.length c]] 0 7) Tryd.func68 rfl rfl (Nat.le_of_ble_eq_true rfl) (entry_ok (Nat.le_of_ble_eq_true rfl) (Nat.le_of_ble_eq_true rfl)) (entry_nd _ _) hb ?_
 show W _ _ _ _ _ [(0, .pointer (some ⟨g, 0, none⟩)), (1, .agg #[.int .i64 at_, .int .i64 long, .int .i64 kind, .int .i64 n, .slice A wd.length c]), (2, undef), (3, undef), (4, undef), (5, undef), (6, undef)] _ _
 refine W.seq (W.region ?_)
 refine WL.boxu (.t L1) rfl (fun _ => U3) rfl (fun g3 => ?_)
 refine WL.as .c U4 rfl ?_
 refine WL.nil (QS.next (W.seq (W.seq (W.region ?_))))
 refine WL.st (R.fa fo_59_2 (.t L3)) rfl ?_
 refine WL.st (R.ld sc_57 (.t L0) H0 rfl) rfl ?_
 refine WL.nil (QS.next (W.del (.kp (.dr .rf)) (W.block (W.seq (W.region ?_)))))
 refine WL.st (R.eqi (.t L0) .c) rfl ?_
 refine WL.st (R.as (.t L0)) rfl ?_
 refine WL.nil (QS.next (W.del (.kp (.dr .rf)) ?_))
 refine W.cd (.t L0) (fun h0 => ?_) (fun h0 => ?_)
 ·
  refine W.del (.dr (.dr .rf)) (W.seq (W.region ?_))
  refine WL.st (R.mv (.t L0)) rfl ?_
  refine WL.st (R.nc (.t L0)) rfl ?_
  refine WL.st (R.fa fo_130_6 (.t L0)) rfl ?_
  refine WL.st (R.ld sc_9 (.t L0) H1 (w_s hk)) rfl ?_
  refine WL.st (R.eqs (.t L0) .c) rfl ?_
  refine WL.as (.t L0) U9 rfl ?_
  refine WL.nil (QS.next (W.del (.dr (.dr (.dr (.dr (.dr .rf))))) (W.ret (QS.blkr (QS.thenr ?_)))))
  exact QS.fin (.inl rfl) rfl (.tmp L4 .nil) () (by unfold textsS; dsimp only; (repeat (first | rw [if_pos (by omega)] | rw [if_neg (by omega)])); first | done | rfl) (.dr (.kp (by unfold textsS; dsimp only; (repeat (first | rw [if_pos (by omega)] | rw [if_neg (by omega)])); first | done | rfl) .nil)) (fun _ _ _ => trivial)
 ·
  refine W.del (.dr .rf) (W.seq (W.region ?_))
  refine WL.st (R.eqi (.t L0) .c) rfl ?_
  refine WL.st (R.as (.t L0)) rfl ?_
  refine WL.nil (QS.next (W.del (.kp (.dr (.dr .rf))) ?_))
  refine W.cd (.t L0) (fun h1 => ?_) (fun h1 => ?_)
  ·
   refine W.del (.dr .rf) (W.seq (W.seq ?_))
   refine W.draw 8 mixed (by kernel_rfl) ?_
   refine HD.st (R.fa fo_59_3 (.t L3)) rfl ?_
   refine HD.st (R.ld sc_3 (.t L0) H0 rfl) rfl ?_
   refine HD.st (R.mv (.t L2)) rfl ?_
   refine HD.st (R.nc (.t L0)) rfl ?_
   refine HD.st (R.fa fo_130_6 (.t L0)) rfl ?_
   refine HD.st (R.ld sc_9 (.t L0) H1 (w_s hk)) rfl ?_
   refine HD.st (R.lens st_9 (.t L0)) rfl ?_
   refine HD.st (R.gtr (.t L5) (.t L0)) rfl ?_
   refine HD.nil (WL.nil (QS.next (W.del (.kp (.dr (.dr (.dr (.dr (.dr (.dr (.dr .rf)))))))) ?_)))
   refine W.cd (.t L0) (fun h2 => ?_) (fun h2 => ?_)
   ·
    refine W.del (.dr .rf) (W.seq (W.region ?_))
    refine WL.as .c U4 rfl ?_
    refine WL.nil (QS.next (W.ret (QS.thenr (QS.blkr (QS.thenr ?_)))))
    exact QS.fin (.inl rfl) rfl (.tmp L4 .nil) () (by unfold textsS; dsimp only; (repeat (first | rw [if_pos (by omega)] | rw [if_neg (by omega)])); first | done | rfl) (.dr (.kp (by unfold textsS; dsimp only; (repeat (first | rw [if_pos (by omega)] | rw [if_neg (by omega)])); first | done | rfl) .nil)) (fun _ _ _ => trivial)
   ·
    refine W.del (.dr .rf) (W.skip (QS.next (W.seq ?_)))
    refine W.draw 13 mixed (by kernel_rfl) ?_
    refine HD.st (R.mv (.t L0)) rfl ?_
    refine HD.st (R.nc (.t L0)) rfl ?_
    refine HD.st (R.fa fo_130_6 (.t L0)) rfl ?_
    refine HD.st (R.ld sc_9 (.t L0) H1 (w_s hk)) rfl ?_
    refine HD.st (R.fa fo_59_3 (.t L7)) rfl ?_
    refine HD.st (R.ld sc_3 (.t L0) H0 rfl) rfl ?_
    refine HD.st (R.sls st_9 (.t L2) .no (.yes (.t L0) (n := n.toNat) (by omega)) (by omega) (by omega) (show _ = s.take n.toNat by simp)) rfl ?_
    refine HD.callr gf_92 .f (.cons (.t L0) .nil) (fun w hb => (text_Plain (l := s.take n.toNat) (by rw [List.length_take]; omega) (hb.imp fun _ h => h))) rfl ?_
    refine HD.st (R.mv (.t L0)) rfl ?_
    refine HD.st (R.ex (.t L0) .here) rfl ?_
    refine HD.st (R.ex (.t L1) (.skip .here)) rfl ?_
    refine HD.up (R.as (.t L1)) (E1 U6) rfl ?_
    refine HD.up (R.as (.t L0)) (E1 U7) rfl ?_
    refine HD.nil (WL.nil (QS.next (W.del (.dr (.dr (.dr (.dr (.dr (.dr (.dr (.dr (.dr (.dr (.dr .rf))))))))))) (W.seq ?_))))
    refine W.draw 10 mixed (by kernel_rfl) ?_
    refine HD.st (R.mv (.t L0)) rfl ?_
    refine HD.st (R.mv (.t L1)) rfl ?_
    refine HD.st (R.nc (.t L0)) rfl ?_
    refine HD.st (R.fa fo_130_6 (.t L0)) rfl ?_
    refine HD.st (R.ld sc_9 (.t L0) H1 (w_s hk)) rfl ?_
    refine HD.st (R.fa fo_59_3 (.t L8)) rfl ?_
    refine HD.st (R.ld sc_3 (.t L0) H0 rfl) rfl ?_
    refine HD.st (R.sls st_9 (.t L2) (.yes (.t L0) (n := n.toNat) (by omega)) .no (by omega) (by omega) (List.take_of_length_le (by rw [List.length_drop]; exact Nat.le_refl _))) rfl ?_
    refine HD.st (R.nc (.t L7)) rfl ?_
    refine HD.st (R.fa fo_130_6 (.t L0)) rfl ?_
    refine HD.nil ?_
    refine WL.sto sz_9 (.t L0) (.t L2) rfl rfl rfl C1 (wp_s hk) ?_
    refine WL.nil (QS.next (W.del (.dr (.dr (.dr (.dr (.dr (.dr (.dr (.dr (.dr (.dr .rf)))))))))) (W.seq (W.region ?_))))
    refine WL.st (R.mv (.t L6)) rfl ?_
    refine WL.as (.t L0) U5 rfl ?_
    refine WL.nil (QS.next (W.del (.dr .rf) (W.ret (QS.blkr (QS.thenr ?_)))))
    exact QS.fin (.inl rfl) rfl (.tmp L4 .nil) () (by unfold textsS; dsimp only; (repeat (first | rw [if_pos (by omega)] | rw [if_neg (by omega)])); first | done | rfl) (.dr (.kp (by unfold textsS; dsimp only; (repeat (first | rw [if_pos (by omega)] | rw [if_neg (by omega)])); first | done | rfl) .nil)) (fun _ _ _ => trivial)
  ·
   refine W.del (.dr .rf) (W.skip (QS.blkn (QS.next (W.seq (W.region ?_)))))
   refine WL.as .c U4 rfl ?_
   refine WL.nil (QS.next (W.ret ?_))
   exact QS.fin (.inl rfl) rfl (.tmp L4 .nil) () (by unfold textsS; dsimp only; (repeat (first | rw [if_pos (by omega)] | rw [if_neg (by omega)])); first | done | rfl) (.dr (.kp (by unfold textsS; dsimp only; (repeat (first | rw [if_pos (by omega)] | rw [if_neg (by omega)])); first | done | rfl) .nil)) (fun _ _ _ => trivial)

end Go.Proofs.YtpaecijilnfkhaaDoor
