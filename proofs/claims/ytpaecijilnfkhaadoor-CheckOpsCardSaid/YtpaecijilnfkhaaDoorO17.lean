/- The law CheckOps. -/
import Derived.Test.YtpaecijilnfkhaaDoorC17
import Derived.Test.YtpaecijilnfkhaaDoorPo
import Derived.Test.YtpaecijilnfkhaaDoorU16
import Derived.Test.YtpaecijilnfkhaaDoorA9

namespace Go.Proofs.YtpaecijilnfkhaaDoor
open Go Go.Eng Go.RowKit
theorem all_bad {wd : List Int} {j : Nat} {x : Int} (h : wd[j]? = some x) (hx : ¬ (0 ≤ x ∧ x ≤ 100)) : (wd.all fun x => decide (0 ≤ x ∧ x ≤ 100)) = false := by
  rw [Bool.eq_false_iff]
  intro hh
  have := List.all_eq_true.1 hh x (List.mem_of_getElem? h)
  simp at this; omega
theorem all_good {wd : List Int} (h : ∀ (i : Nat) y, i < wd.length → wd[i]? = some y → 0 ≤ y ∧ y ≤ 100) : (wd.all fun x => decide (0 ≤ x ∧ x ≤ 100)) = true := by
  rw [List.all_eq_true]
  intro x hx
  obtain ⟨i, hi⟩ := List.getElem?_of_mem hx
  exact decide_eq_true (h i x (List.getElem?_eq_some_iff.1 hi).1 hi)
theorem good_snoc {wd : List Int} {j : Nat} {x : Int} (h : ∀ (i : Nat) y, i < j → wd[i]? = some y → 0 ≤ y ∧ y ≤ 100) (hx : wd[j]? = some x) (hl : 0 ≤ x ∧ x ≤ 100) : ∀ (i : Nat) y, i < j + 1 → wd[i]? = some y → 0 ≤ y ∧ y ≤ 100 := by
  intro i y hi hy
  by_cases e : i = j
  · subst e; rw [hx] at hy; injection hy with hy; omega
  · exact h i y (by omega) hy

theorem ref11_fields {k n sty tp : Int} {tt : List UInt8} {wd : List Int} {Aw : Option Addr} {cw : Nat} (ht : tt.length ≤ 4000000000000) (hw : wd.length ≤ 140737488355328) {C : Cx} (hb : Hb C C.w0 [] (fun w => RdI w Aw wd)) :
    Ret Tryd.prog 47 [.agg #[.int .i64 k, .int .i64 n, str tt, .slice Aw wd.length cw], .int .i64 sty, .int .i64 tp] C (.bool (fieldsS ⟨k, n, tt, wd⟩ sty tp)) := by
 refine Sp.enter (N := 137) (e := entryEnv [.agg #[.int .i64 k, .int .i64 n, str tt, .slice Aw wd.length cw], .int .i64 sty, .int .i64 tp] 0 12) Tryd.func47 rfl rfl (Nat.le_of_ble_eq_true rfl) (entry_ok (Nat.le_of_ble_eq_true rfl) (Nat.le_of_ble_eq_true rfl)) (entry_nd _ _) hb ?_
 show W _ _ _ _ _ [(0, .agg #[.int .i64 k, .int .i64 n, str tt, .slice Aw wd.length cw]), (1, .int .i64 sty), (2, .int .i64 tp), (3, undef), (4, undef), (5, undef), (6, undef), (7, undef), (8, undef), (9, undef), (10, undef), (11, undef)] _ _
 refine W.seq (W.region ?_)
 refine WL.boxu (.t L0) rfl (fun _ => U3) rfl (fun g3 => ?_)
 refine WL.as .c U6 rfl ?_
 refine WL.nil (QS.next (W.seq (W.region ?_)))
 refine WL.st (R.fa fo_95_0 (.t L3)) rfl ?_
 refine WL.st (R.ld sc_57 (.t L0) H0 rfl) rfl ?_
 refine WL.as (.t L0) U9 rfl ?_
 refine WL.nil (QS.next (W.del (.dr (.dr .rf)) (W.seq (W.seq (W.region ?_)))))
 refine WL.st (R.mv (.t L7)) rfl ?_
 refine WL.st (R.nei (.t L0) .c) rfl ?_
 refine WL.st (R.mv (.t L0)) rfl ?_
 refine WL.cd L0 U0 U0 (fun hg16 => ?_) (fun hg16 => ?_)
 ·
  refine WL.gy rfl L0 (R.fa fo_95_2 (.t L6)) rfl ?_
  refine WL.gy rfl L1 (R.ld sc_9 (.t L0) H0 rfl) rfl ?_
  refine WL.gy rfl L2 (R.nes (.t L0) .c) rfl ?_
  refine WL.st (R.pkt (.t L3) (.t L0)) rfl ?_
  refine WL.st (R.mv (.t L0)) rfl ?_
  refine WL.cd L0 U0 U0 (fun hg21 => ?_) (fun hg21 => ?_)
  ·
   refine WL.gn rfl L0 rfl ?_
   refine WL.gn rfl L1 rfl ?_
   refine WL.gn rfl L2 rfl ?_
   refine WL.gu rfl L0 rfl ?_
   refine WL.gu rfl L1 rfl ?_
   refine WL.gu rfl L2 rfl ?_
   refine WL.gu rfl L3 rfl ?_
   refine WL.gn rfl L7 rfl ?_
   refine WL.st (R.pkt (.t L8) .c) rfl ?_
   refine WL.nil (QS.next (W.del (.kp (.dr (.dr (.dr (.dr (.dr (.dr (.dr (.dr (.dr (.dr (.dr (.dr (.dr (.dr (.dr (.dr .rf))))))))))))))))) (W.ct (.t L0) (W.del (.dr .rf) (W.seq (W.region ?_))))))
   refine WL.as .c U6 rfl ?_
   refine WL.nil (QS.next (W.ret (QS.thenr ?_)))
   exact QS.fin (.inl rfl) rfl (.tmp L6 .nil) () (congrArg Value.bool (by unfold fieldsS; dsimp only; rw [if_pos (by first | exact .inl ⟨hg16, hg21⟩ | exact .inr ⟨hg24, by omega⟩)])) (.dr .nil) (fun _ _ _ => trivial)
  ·
   refine WL.gy rfl L0 (R.mv (.t (D1 L5))) rfl ?_
   refine WL.gy rfl L1 (R.nei (.t L0) .c) rfl ?_
   refine WL.gy rfl L2 (R.mv (.t L0)) rfl ?_
   refine WL.cd L0 U0 U0 (fun hg24 => ?_) (fun hg24 => ?_)
   ·
    refine WL.gy rfl L0 (R.fa fo_95_3 (.t (D1 L4))) rfl ?_
    refine WL.gy rfl L1 (R.ld sc_37 (.t L0) H0 rfl) rfl ?_
    refine WL.gy rfl L2 (R.lenl sl_37 (.t L0)) rfl ?_
    refine WL.gy rfl L3 (R.gtr (.t L0) .c) rfl ?_
    refine WL.gy rfl L7 (R.pkt (.t L4) (.t L0)) rfl ?_
    refine WL.st (R.pkf (.t L8) (.t L0)) rfl ?_
    refine WL.nil (QS.next (W.del (.kp (.dr (.dr (.dr (.dr (.dr (.dr (.dr (.dr (.dr (.dr (.dr (.dr (.dr (.dr (.dr (.dr .rf))))))))))))))))) ?_))
    refine W.cd (.t L0) (fun h0 => ?_) (fun h0 => ?_)
    ·
     refine W.del (.dr .rf) (W.seq (W.region ?_))
     refine WL.as .c U6 rfl ?_
     refine WL.nil (QS.next (W.ret (QS.thenr ?_)))
     exact QS.fin (.inl rfl) rfl (.tmp L6 .nil) () (congrArg Value.bool (by unfold fieldsS; dsimp only; rw [if_pos (by first | exact .inl ⟨hg16, hg21⟩ | exact .inr ⟨hg24, by omega⟩)])) (.dr .nil) (fun _ _ _ => trivial)
    ·
     refine W.del (.dr .rf) (W.skip (QS.next (W.seq (W.seq ?_))))
     have hno : ¬ ((k ≠ 1 ∧ tt ≠ []) ∨ (k ≠ 12 ∧ 0 < wd.length)) := by
       rintro (⟨a, b⟩ | ⟨a, b⟩)
       · first | omega | exact hg21 b
       · omega
     refine W.region ?_
     refine WL.st (R.mv (.t L7)) rfl ?_
     refine WL.nil (QS.next (W.block (W.seq (W.region ?_))))
     refine WL.st (R.eqi (.t L0) .c) rfl ?_
     refine WL.st (R.as (.t L0)) rfl ?_
     refine WL.nil (QS.next (W.del (.kp (.dr .rf)) ?_))
     refine W.cd (.t L0) (fun h1 => ?_) (fun h1 => ?_)
     ·
      refine W.del (.dr (.dr .rf)) (W.seq (W.region ?_))
      refine WL.st (R.fa fo_95_2 (.t L3)) rfl ?_
      refine WL.st (R.ld sc_9 (.t L0) H0 rfl) rfl ?_
      refine WL.callr gf_71 .f (.cons (.t L0) .nil) (fun w hb => (ref02_Plain ht (hb.imp fun _ _ => trivial))) rfl ?_
      refine WL.st (R.mv (.t L0)) rfl ?_
      refine WL.st (R.ex (.t L0) .here) rfl ?_
      refine WL.st (R.ex (.t L1) (.skip .here)) rfl ?_
      refine WL.as (.t L1) (E1 U4) rfl ?_
      refine WL.as (.t L0) (E1 U5) rfl ?_
      refine WL.nil (QS.next (W.del (.dr (.dr (.dr (.dr (.dr (.dr .rf)))))) (W.seq (W.region ?_))))
      refine WL.st (R.mv (.t L9)) rfl ?_
      refine WL.st (R.mv (.t L0)) rfl ?_
      refine WL.cb L0 U0 U0 (fun hg41 => ?_) (fun hg41 => ?_)
      ·
       refine WL.gy rfl L0 (R.fa fo_95_2 (.t L5)) rfl ?_
       refine WL.gy rfl L1 (R.ld sc_9 (.t L0) H0 rfl) rfl ?_
       refine WL.gy rfl L2 (R.nes (.t L0) .c) rfl ?_
       refine WL.st (R.pkt (.t L3) (.t L0)) rfl ?_
       refine WL.st (R.mv (.t L0)) rfl ?_
       refine WL.cd L0 U0 U0 (fun hg46 => ?_) (fun hg46 => ?_)
       ·
        refine WL.gy rfl L0 (R.fa fo_95_1 (.t (D1 L0))) rfl ?_
        refine WL.gy rfl L1 (R.ld sc_3 (.t L0) H0 rfl) rfl ?_
        refine WL.gy rfl L2 (R.eqi (.t L0) .c) rfl ?_
        refine WL.st (R.pkt (.t L3) (.t L0)) rfl ?_
        refine WL.as (.t L0) (E1 U7) rfl ?_
        refine WL.nil (QS.next (W.del (.dr (.dr (.dr (.dr (.dr (.dr (.dr (.dr (.dr (.dr (.dr .rf))))))))))) (W.ret (QS.blkr (QS.thenr ?_)))))
        exact QS.fin (.inl rfl) rfl (.tmp L6 .nil) () (congrArg Value.bool (by unfold fieldsS; dsimp only; rw [if_neg hno, if_pos (by omega)]; simp_all)) (.dr .nil) (fun _ _ _ => trivial)
       ·
        refine WL.gn rfl L0 rfl ?_
        refine WL.gn rfl L1 rfl ?_
        refine WL.gn rfl L2 rfl ?_
        refine WL.st (R.pkf (.t L3) .c) rfl ?_
        refine WL.as (.t L0) (E1 U7) rfl ?_
        refine WL.nil (QS.next (W.del (.dr (.dr (.dr (.dr (.dr (.dr (.dr (.dr (.dr (.dr (.dr .rf))))))))))) (W.ret (QS.blkr (QS.thenr ?_)))))
        exact QS.fin (.inl rfl) rfl (.tmp L6 .nil) () (congrArg Value.bool (by unfold fieldsS; dsimp only; rw [if_neg hno, if_pos (by omega)]; simp_all)) (.dr .nil) (fun _ _ _ => trivial)
      ·
       refine WL.gn rfl L0 rfl ?_
       refine WL.gn rfl L1 rfl ?_
       refine WL.gn rfl L2 rfl ?_
       refine WL.st (R.pkf (.t L3) .c) rfl ?_
       refine WL.st (R.mv (.t L0)) rfl ?_
       refine WL.gn rfl L0 rfl ?_
       refine WL.gn rfl L1 rfl ?_
       refine WL.gn rfl L2 rfl ?_
       refine WL.st (R.pkf (.t L3) .c) rfl ?_
       refine WL.as (.t L0) (E1 U7) rfl ?_
       refine WL.nil (QS.next (W.del (.dr (.dr (.dr (.dr (.dr (.dr (.dr (.dr (.dr (.dr (.dr .rf))))))))))) (W.ret (QS.blkr (QS.thenr ?_)))))
       exact QS.fin (.inl rfl) rfl (.tmp L6 .nil) () (congrArg Value.bool (by unfold fieldsS; dsimp only; rw [if_neg hno, if_pos (by omega)]; simp_all)) (.dr .nil) (fun _ _ _ => trivial)
     ·
      refine W.del (.dr .rf) (W.seq (W.region ?_))
      refine WL.st (R.eqi (.t L0) .c) rfl ?_
      refine WL.st (R.as (.t L0)) rfl ?_
      refine WL.nil (QS.next (W.del (.kp (.dr .rf)) ?_))
      refine W.cd (.t L0) (fun h2 => ?_) (fun h2 => ?_)
      ·
       refine W.del (.dr (.dr .rf)) (W.seq (W.region ?_))
       refine WL.st (R.fa fo_95_1 (.t L3)) rfl ?_
       refine WL.st (R.ld sc_3 (.t L0) H0 rfl) rfl ?_
       refine WL.st (R.geq (.t L0) .c) rfl ?_
       refine WL.st (R.mv (.t L0)) rfl ?_
       refine WL.cd L0 U0 U0 (fun hg56 => ?_) (fun hg56 => ?_)
       ·
        refine WL.gy rfl L0 (R.fa fo_95_1 (.t L7)) rfl ?_
        refine WL.gy rfl L1 (R.ld sc_3 (.t L0) H0 rfl) rfl ?_
        refine WL.gy rfl L2 (R.mv (.t L7)) rfl ?_
        refine WL.gy rfl L3 (R.lss (.t L1) (.t L0)) rfl ?_
        refine WL.st (R.pkt (.t L4) (.t L0)) rfl ?_
        refine WL.as (.t L0) (E1 U5) rfl ?_
        refine WL.nil (QS.next (W.del (.dr (.dr (.dr (.dr (.dr (.dr (.dr (.dr (.dr .rf))))))))) (W.ret (QS.blkr (QS.thenr ?_)))))
        exact QS.fin (.inl rfl) rfl (.tmp L6 .nil) () (congrArg Value.bool (by unfold fieldsS; dsimp only; rw [if_neg hno, if_neg (by omega), if_pos (by omega)]; first | exact (decide_eq_false (by omega)).symm | exact (decide_eq_true (by omega)).symm | exact decide_eq_decide.2 (by omega))) (.dr .nil) (fun _ _ _ => trivial)
       ·
        refine WL.gn rfl L0 rfl ?_
        refine WL.gn rfl L1 rfl ?_
        refine WL.gn rfl L2 rfl ?_
        refine WL.gn rfl L3 rfl ?_
        refine WL.st (R.pkf (.t L4) .c) rfl ?_
        refine WL.as (.t L0) (E1 U5) rfl ?_
        refine WL.nil (QS.next (W.del (.dr (.dr (.dr (.dr (.dr (.dr (.dr (.dr (.dr .rf))))))))) (W.ret (QS.blkr (QS.thenr ?_)))))
        exact QS.fin (.inl rfl) rfl (.tmp L6 .nil) () (congrArg Value.bool (by unfold fieldsS; dsimp only; rw [if_neg hno, if_neg (by omega), if_pos (by omega)]; first | exact (decide_eq_false (by omega)).symm | exact (decide_eq_true (by omega)).symm | exact decide_eq_decide.2 (by omega))) (.dr .nil) (fun _ _ _ => trivial)
      ·
       refine W.del (.dr .rf) (W.seq (W.seq (W.region ?_)))
       refine WL.st (R.eqi (.t L0) .c) rfl ?_
       refine WL.st (R.as (.t L0)) rfl ?_
       refine WL.nil (QS.next (W.del (.kp (.dr .rf)) ?_))
       refine W.cd (.t L0) (fun h3 => ?_) (fun h3 => ?_)
       ·
        refine W.skip (QS.next ?_)
        refine W.cdt (.t L0) h3 ?_
        refine W.del (.dr (.dr .rf)) (W.seq (W.region ?_))
        refine WL.st (R.fa fo_95_1 (.t L3)) rfl ?_
        refine WL.st (R.ld sc_3 (.t L0) H0 rfl) rfl ?_
        refine WL.st (R.geq (.t L0) .c) rfl ?_
        refine WL.st (R.mv (.t L0)) rfl ?_
        refine WL.cd L0 U0 U0 (fun hg68 => ?_) (fun hg68 => ?_)
        ·
         refine WL.gy rfl L0 (R.fa fo_95_1 (.t L7)) rfl ?_
         refine WL.gy rfl L1 (R.ld sc_3 (.t L0) H0 rfl) rfl ?_
         refine WL.gy rfl L2 (R.mv (.t L8)) rfl ?_
         refine WL.gy rfl L3 (R.lss (.t L1) (.t L0)) rfl ?_
         refine WL.st (R.pkt (.t L4) (.t L0)) rfl ?_
         refine WL.as (.t L0) (E1 U5) rfl ?_
         refine WL.nil (QS.next (W.del (.dr (.dr (.dr (.dr (.dr (.dr (.dr (.dr (.dr .rf))))))))) (W.ret (QS.blkr (QS.thenr ?_)))))
         exact QS.fin (.inl rfl) rfl (.tmp L6 .nil) () (congrArg Value.bool (by unfold fieldsS; dsimp only; rw [if_neg hno, if_neg (by omega), if_neg (by omega), if_pos (by omega)]; first | exact (decide_eq_false (by omega)).symm | exact (decide_eq_true (by omega)).symm | exact decide_eq_decide.2 (by omega))) (.dr .nil) (fun _ _ _ => trivial)
        ·
         refine WL.gn rfl L0 rfl ?_
         refine WL.gn rfl L1 rfl ?_
         refine WL.gn rfl L2 rfl ?_
         refine WL.gn rfl L3 rfl ?_
         refine WL.st (R.pkf (.t L4) .c) rfl ?_
         refine WL.as (.t L0) (E1 U5) rfl ?_
         refine WL.nil (QS.next (W.del (.dr (.dr (.dr (.dr (.dr (.dr (.dr (.dr (.dr .rf))))))))) (W.ret (QS.blkr (QS.thenr ?_)))))
         exact QS.fin (.inl rfl) rfl (.tmp L6 .nil) () (congrArg Value.bool (by unfold fieldsS; dsimp only; rw [if_neg hno, if_neg (by omega), if_neg (by omega), if_pos (by omega)]; first | exact (decide_eq_false (by omega)).symm | exact (decide_eq_true (by omega)).symm | exact decide_eq_decide.2 (by omega))) (.dr .nil) (fun _ _ _ => trivial)
       ·
        refine W.region ?_
        refine WL.st (R.eqi (.t L1) .c) rfl ?_
        refine WL.as (.t L0) U1 rfl ?_
        refine WL.nil (QS.next (W.del (.dr .rf) ?_))
        refine W.cd (.t L0) (fun h4 => ?_) (fun h4 => ?_)
        ·
         refine W.del (.dr (.dr .rf)) (W.seq (W.region ?_))
         refine WL.st (R.fa fo_95_1 (.t L3)) rfl ?_
         refine WL.st (R.ld sc_3 (.t L0) H0 rfl) rfl ?_
         refine WL.st (R.geq (.t L0) .c) rfl ?_
         refine WL.st (R.mv (.t L0)) rfl ?_
         refine WL.cd L0 U0 U0 (fun hg68 => ?_) (fun hg68 => ?_)
         ·
          refine WL.gy rfl L0 (R.fa fo_95_1 (.t L7)) rfl ?_
          refine WL.gy rfl L1 (R.ld sc_3 (.t L0) H0 rfl) rfl ?_
          refine WL.gy rfl L2 (R.mv (.t L8)) rfl ?_
          refine WL.gy rfl L3 (R.lss (.t L1) (.t L0)) rfl ?_
          refine WL.st (R.pkt (.t L4) (.t L0)) rfl ?_
          refine WL.as (.t L0) (E1 U5) rfl ?_
          refine WL.nil (QS.next (W.del (.dr (.dr (.dr (.dr (.dr (.dr (.dr (.dr (.dr .rf))))))))) (W.ret (QS.blkr (QS.thenr ?_)))))
          exact QS.fin (.inl rfl) rfl (.tmp L6 .nil) () (congrArg Value.bool (by unfold fieldsS; dsimp only; rw [if_neg hno, if_neg (by omega), if_neg (by omega), if_pos (by omega)]; first | exact (decide_eq_false (by omega)).symm | exact (decide_eq_true (by omega)).symm | exact decide_eq_decide.2 (by omega))) (.dr .nil) (fun _ _ _ => trivial)
         ·
          refine WL.gn rfl L0 rfl ?_
          refine WL.gn rfl L1 rfl ?_
          refine WL.gn rfl L2 rfl ?_
          refine WL.gn rfl L3 rfl ?_
          refine WL.st (R.pkf (.t L4) .c) rfl ?_
          refine WL.as (.t L0) (E1 U5) rfl ?_
          refine WL.nil (QS.next (W.del (.dr (.dr (.dr (.dr (.dr (.dr (.dr (.dr (.dr .rf))))))))) (W.ret (QS.blkr (QS.thenr ?_)))))
          exact QS.fin (.inl rfl) rfl (.tmp L6 .nil) () (congrArg Value.bool (by unfold fieldsS; dsimp only; rw [if_neg hno, if_neg (by omega), if_neg (by omega), if_pos (by omega)]; first | exact (decide_eq_false (by omega)).symm | exact (decide_eq_true (by omega)).symm | exact decide_eq_decide.2 (by omega))) (.dr .nil) (fun _ _ _ => trivial)
        ·
         refine W.del (.dr .rf) (W.seq (W.region ?_))
         refine WL.st (R.eqi (.t L0) .c) rfl ?_
         refine WL.st (R.as (.t L0)) rfl ?_
         refine WL.nil (QS.next (W.del (.kp (.dr .rf)) ?_))
         refine W.cd (.t L0) (fun h5 => ?_) (fun h5 => ?_)
         ·
          refine W.del (.dr (.dr .rf)) (W.seq (W.region ?_))
          refine WL.st (R.fa fo_95_1 (.t L3)) rfl ?_
          refine WL.st (R.ld sc_3 (.t L0) H0 rfl) rfl ?_
          refine WL.st (R.geq (.t L0) .c) rfl ?_
          refine WL.st (R.mv (.t L0)) rfl ?_
          refine WL.cd L0 U0 U0 (fun hg79 => ?_) (fun hg79 => ?_)
          ·
           refine WL.gy rfl L0 (R.fa fo_95_1 (.t L7)) rfl ?_
           refine WL.gy rfl L1 (R.ld sc_3 (.t L0) H0 rfl) rfl ?_
           refine WL.gy rfl L2 (R.mv (.t L7)) rfl ?_
           refine WL.gy rfl L3 (R.lss (.t L1) (.t L0)) rfl ?_
           refine WL.st (R.pkt (.t L4) (.t L0)) rfl ?_
           refine WL.as (.t L0) (E1 U5) rfl ?_
           refine WL.nil (QS.next (W.del (.dr (.dr (.dr (.dr (.dr (.dr (.dr (.dr (.dr .rf))))))))) (W.ret (QS.blkr (QS.thenr ?_)))))
           exact QS.fin (.inl rfl) rfl (.tmp L6 .nil) () (congrArg Value.bool (by unfold fieldsS; dsimp only; rw [if_neg hno, if_neg (by omega), if_neg (by omega), if_neg (by omega), if_pos (by omega)]; first | exact (decide_eq_false (by omega)).symm | exact (decide_eq_true (by omega)).symm | exact decide_eq_decide.2 (by omega))) (.dr .nil) (fun _ _ _ => trivial)
          ·
           refine WL.gn rfl L0 rfl ?_
           refine WL.gn rfl L1 rfl ?_
           refine WL.gn rfl L2 rfl ?_
           refine WL.gn rfl L3 rfl ?_
           refine WL.st (R.pkf (.t L4) .c) rfl ?_
           refine WL.as (.t L0) (E1 U5) rfl ?_
           refine WL.nil (QS.next (W.del (.dr (.dr (.dr (.dr (.dr (.dr (.dr (.dr (.dr .rf))))))))) (W.ret (QS.blkr (QS.thenr ?_)))))
           exact QS.fin (.inl rfl) rfl (.tmp L6 .nil) () (congrArg Value.bool (by unfold fieldsS; dsimp only; rw [if_neg hno, if_neg (by omega), if_neg (by omega), if_neg (by omega), if_pos (by omega)]; first | exact (decide_eq_false (by omega)).symm | exact (decide_eq_true (by omega)).symm | exact decide_eq_decide.2 (by omega))) (.dr .nil) (fun _ _ _ => trivial)
         ·
          refine W.del (.dr .rf) (W.seq (W.region ?_))
          refine WL.st (R.eqi (.t L0) .c) rfl ?_
          refine WL.st (R.as (.t L0)) rfl ?_
          refine WL.nil (QS.next (W.del (.kp (.dr .rf)) ?_))
          refine W.cd (.t L0) (fun h6 => ?_) (fun h6 => ?_)
          ·
           refine W.del (.dr (.dr .rf)) (W.seq (W.region ?_))
           refine WL.st (R.fa fo_95_1 (.t L3)) rfl ?_
           refine WL.st (R.ld sc_3 (.t L0) H0 rfl) rfl ?_
           refine WL.st (R.eqi (.t L0) .c) rfl ?_
           refine WL.st (R.mv (.t L0)) rfl ?_
           refine WL.cd L0 U0 U0 (fun hg90 => ?_) (fun hg90 => ?_)
           ·
            refine WL.gn rfl L0 rfl ?_
            refine WL.gn rfl L1 rfl ?_
            refine WL.gn rfl L2 rfl ?_
            refine WL.st (R.pkt (.t L3) .c) rfl ?_
            refine WL.as (.t L0) (E1 U4) rfl ?_
            refine WL.nil (QS.next (W.del (.dr (.dr (.dr (.dr (.dr (.dr (.dr (.dr .rf)))))))) (W.ret (QS.blkr (QS.thenr ?_)))))
            exact QS.fin (.inl rfl) rfl (.tmp L6 .nil) () (congrArg Value.bool (by unfold fieldsS; dsimp only; rw [if_neg hno, if_neg (by omega), if_neg (by omega), if_neg (by omega), if_neg (by omega), if_pos (by omega)]; first | exact (decide_eq_false (by omega)).symm | exact (decide_eq_true (by omega)).symm | exact decide_eq_decide.2 (by omega))) (.dr .nil) (fun _ _ _ => trivial)
           ·
            refine WL.gy rfl L0 (R.fa fo_95_1 (.t L7)) rfl ?_
            refine WL.gy rfl L1 (R.ld sc_3 (.t L0) H0 rfl) rfl ?_
            refine WL.gy rfl L2 (R.eqi (.t L0) .c) rfl ?_
            refine WL.st (R.pkf (.t L3) (.t L0)) rfl ?_
            refine WL.as (.t L0) (E1 U4) rfl ?_
            refine WL.nil (QS.next (W.del (.dr (.dr (.dr (.dr (.dr (.dr (.dr (.dr .rf)))))))) (W.ret (QS.blkr (QS.thenr ?_)))))
            exact QS.fin (.inl rfl) rfl (.tmp L6 .nil) () (congrArg Value.bool (by unfold fieldsS; dsimp only; rw [if_neg hno, if_neg (by omega), if_neg (by omega), if_neg (by omega), if_neg (by omega), if_pos (by omega)]; first | exact (decide_eq_false (by omega)).symm | exact (decide_eq_true (by omega)).symm | exact decide_eq_decide.2 (by omega))) (.dr .nil) (fun _ _ _ => trivial)
          ·
           refine W.del (.dr .rf) (W.seq (W.region ?_))
           refine WL.st (R.eqi (.t L0) .c) rfl ?_
           refine WL.st (R.as (.t L0)) rfl ?_
           refine WL.nil (QS.next (W.del (.kp (.dr (.dr .rf))) ?_))
           refine W.cd (.t L0) (fun h7 => ?_) (fun h7 => ?_)
           ·
            refine W.del (.dr .rf) (W.seq (W.seq (W.region ?_)))
            refine WL.st (R.fa fo_95_1 (.t L3)) rfl ?_
            refine WL.st (R.ld sc_3 (.t L0) H0 rfl) rfl ?_
            refine WL.st (R.nei (.t L0) .c) rfl ?_
            refine WL.st (R.mv (.t L0)) rfl ?_
            refine WL.cd L0 U0 U0 (fun hg100 => ?_) (fun hg100 => ?_)
            ·
             refine WL.gn rfl L0 rfl ?_
             refine WL.gn rfl L1 rfl ?_
             refine WL.gn rfl L2 rfl ?_
             refine WL.gn rfl L3 rfl ?_
             refine WL.st (R.pkt (.t L4) .c) rfl ?_
             refine WL.st (R.mv (.t L0)) rfl ?_
             refine WL.gn rfl L0 rfl ?_
             refine WL.gn rfl L1 rfl ?_
             refine WL.gn rfl L2 rfl ?_
             refine WL.gn rfl L3 rfl ?_
             refine WL.st (R.pkt (.t L4) .c) rfl ?_
             refine WL.nil (QS.next (W.del (.kp (.dr (.dr (.dr (.dr (.dr (.dr (.dr (.dr (.dr (.dr (.dr (.dr (.dr (.dr .rf))))))))))))))) (W.ct (.t L0) (W.del (.dr .rf) (W.seq (W.region ?_))))))
             refine WL.as .c U6 rfl ?_
             refine WL.nil (QS.next (W.ret (QS.thenr (QS.blkr (QS.thenr ?_)))))
             exact QS.fin (.inl rfl) rfl (.tmp L6 .nil) () (congrArg Value.bool (by unfold fieldsS; dsimp only; rw [if_neg hno, if_neg (by omega), if_neg (by omega), if_neg (by omega), if_neg (by omega), if_neg (by omega), if_pos (by omega), decide_eq_false (by omega), Bool.false_and])) (.dr .nil) (fun _ _ _ => trivial)
            ·
             refine WL.gy rfl L0 (R.fa fo_95_3 (.t L7)) rfl ?_
             refine WL.gy rfl L1 (R.ld sc_37 (.t L0) H0 rfl) rfl ?_
             refine WL.gy rfl L2 (R.lenl sl_37 (.t L0)) rfl ?_
             refine WL.gy rfl L3 (R.lss (.t L0) .c) rfl ?_
             refine WL.st (R.pkf (.t L4) (.t L0)) rfl ?_
             refine WL.st (R.mv (.t L0)) rfl ?_
             refine WL.cd L0 U0 U0 (fun hg106 => ?_) (fun hg106 => ?_)
             ·
              refine WL.gn rfl L0 rfl ?_
              refine WL.gn rfl L1 rfl ?_
              refine WL.gn rfl L2 rfl ?_
              refine WL.gn rfl L3 rfl ?_
              refine WL.st (R.pkt (.t L4) .c) rfl ?_
              refine WL.nil (QS.next (W.del (.kp (.dr (.dr (.dr (.dr (.dr (.dr (.dr (.dr (.dr (.dr (.dr (.dr (.dr (.dr .rf))))))))))))))) (W.ct (.t L0) (W.del (.dr .rf) (W.seq (W.region ?_))))))
              refine WL.as .c U6 rfl ?_
              refine WL.nil (QS.next (W.ret (QS.thenr (QS.blkr (QS.thenr ?_)))))
              exact QS.fin (.inl rfl) rfl (.tmp L6 .nil) () (congrArg Value.bool (by unfold fieldsS; dsimp only; rw [if_neg hno, if_neg (by omega), if_neg (by omega), if_neg (by omega), if_neg (by omega), if_neg (by omega), if_pos (by omega), decide_eq_false (by omega), Bool.false_and])) (.dr .nil) (fun _ _ _ => trivial)
             ·
              refine WL.gy rfl L0 (R.fa fo_95_3 (.t (D1 L3))) rfl ?_
              refine WL.gy rfl L1 (R.ld sc_37 (.t L0) H0 rfl) rfl ?_
              refine WL.gy rfl L2 (R.lenl sl_37 (.t L0)) rfl ?_
              refine WL.gy rfl L3 (R.gtr (.t L0) .c) rfl ?_
              refine WL.st (R.pkf (.t L4) (.t L0)) rfl ?_
              refine WL.nil (QS.next (W.del (.kp (.dr (.dr (.dr (.dr (.dr (.dr (.dr (.dr (.dr (.dr (.dr (.dr (.dr (.dr .rf))))))))))))))) ?_))
              refine W.cd (.t L0) (fun h8 => ?_) (fun h8 => ?_)
              ·
               refine W.del (.dr .rf) (W.seq (W.region ?_))
               refine WL.as .c U6 rfl ?_
               refine WL.nil (QS.next (W.ret (QS.thenr (QS.blkr (QS.thenr ?_)))))
               exact QS.fin (.inl rfl) rfl (.tmp L6 .nil) () (congrArg Value.bool (by unfold fieldsS; dsimp only; rw [if_neg hno, if_neg (by omega), if_neg (by omega), if_neg (by omega), if_neg (by omega), if_neg (by omega), if_pos (by omega), decide_eq_false (by omega), Bool.false_and])) (.dr .nil) (fun _ _ _ => trivial)
              ·
               refine W.del (.dr .rf) (W.skip (QS.next (W.seq (W.seq (W.region ?_)))))
               refine WL.st (R.fa fo_95_3 (.t L3)) rfl ?_
               refine WL.st (R.ld sc_37 (.t L0) H0 rfl) rfl ?_
               refine WL.st (R.lenl sl_37 (.t L0)) rfl ?_
               refine WL.st (R.mv .c) rfl ?_
               refine WL.nil (QS.next (W.del (.kp (.kp (.kp (.dr .rf)))) (W.block ?_)))
               refine W.loop (ι := {j : Nat // j ≤ wd.length ∧ ∀ (i : Nat) y, i < j → wd[i]? = some y → 0 ≤ y ∧ y ≤ 100}) (fun x => [(115, .int .i64 x.1), (114, .int .i64 wd.length), (113, .slice Aw wd.length cw), (6, .bool false)]) (fun x => []) (fun x w => RdI w Aw wd) (fun x => wd.length - x.1) ⟨0, Nat.zero_le _, fun i y h => absurd h (by omega)⟩ (.kp rfl (.kp rfl (.kp rfl (.dr (.dr (.dr (.dr (.dr (.dr (.kp rfl (.dr (.dr (.dr (.dr (.dr .nil))))))))))))))) (.dr .nil) (fun w h hd => h) ?_
               intro x
               obtain ⟨j, hj1, hj2⟩ := x
               show W _ _ _ _ _ [(115, .int .i64 j), (114, .int .i64 wd.length), (113, .slice Aw wd.length cw), (6, .bool false)] [] (fun w => RdI w Aw wd)
               refine W.seq (W.region ?_)
               refine WL.st (R.lss (.t L0) (.t L1)) rfl ?_
               refine WL.nil (QS.next (W.seq ?_))
               refine W.cd (.t L0) (fun h9 => ?_) (fun h9 => ?_)
               ·
                refine W.del (.dr .rf) (W.skip (QS.next (W.seq (W.block (W.seq (W.region ?_))))))
                obtain ⟨x117, hx117⟩ : ∃ x, (wd)[j]? = some x := ⟨_, List.getElem?_eq_getElem (by omega)⟩
                refine WL.st (R.ixI sl_37 (.t L2) rfl (.t L0) (l := wd) (j := j) rfl (List.getElem?_eq_some_iff.1 hx117).1 (fun w hb => hb.get)) rfl ?_
                refine WL.st (R.ldp sc_3 (.t L0) (fun w hb => RdI.cell (hb.get) hx117)) rfl ?_
                refine WL.st (R.as (.t L0)) rfl ?_
                refine WL.nil (QS.next (W.del (.kp (.dr (.dr .rf))) (W.seq (W.region ?_))))
                refine WL.st (R.mv (.t L0)) rfl ?_
                refine WL.st (R.lss (.t L0) .c) rfl ?_
                refine WL.st (R.mv (.t L0)) rfl ?_
                refine WL.cd L0 U0 U0 (fun hg121 => ?_) (fun hg121 => ?_)
                ·
                 refine WL.gn rfl L0 rfl ?_
                 refine WL.gn rfl L1 rfl ?_
                 refine WL.st (R.pkt (.t L2) .c) rfl ?_
                 refine WL.nil (QS.next (W.del (.kp (.dr (.dr (.dr (.dr (.dr .rf)))))) (W.ct (.t L0) (W.del (.dr .rf) (W.seq (W.region ?_))))))
                 refine WL.as .c U4 rfl ?_
                 refine WL.nil (QS.next (W.ret (QS.blkr (QS.thenr (QS.thenr (QS.blkr (QS.thenr (QS.blkr (QS.thenr ?_)))))))))
                 exact QS.fin (.inl rfl) rfl (.tmp L4 .nil) () (congrArg Value.bool (by unfold fieldsS; dsimp only; rw [if_neg hno, if_neg (by omega), if_neg (by omega), if_neg (by omega), if_neg (by omega), if_neg (by omega), if_pos (by omega), all_bad hx117 (by omega), Bool.and_false])) .nil (fun _ _ _ => trivial)
                ·
                 refine WL.gy rfl L0 (R.mv (.t L3)) rfl ?_
                 refine WL.gy rfl L1 (R.gtr (.t L0) .c) rfl ?_
                 refine WL.st (R.pkf (.t L2) (.t L0)) rfl ?_
                 refine WL.nil (QS.next (W.del (.kp (.dr (.dr (.dr (.dr (.dr .rf)))))) ?_))
                 refine W.cd (.t L0) (fun h10 => ?_) (fun h10 => ?_)
                 ·
                  refine W.del (.dr .rf) (W.seq (W.region ?_))
                  refine WL.as .c U4 rfl ?_
                  refine WL.nil (QS.next (W.ret (QS.blkr (QS.thenr (QS.thenr (QS.blkr (QS.thenr (QS.blkr (QS.thenr ?_)))))))))
                  exact QS.fin (.inl rfl) rfl (.tmp L4 .nil) () (congrArg Value.bool (by unfold fieldsS; dsimp only; rw [if_neg hno, if_neg (by omega), if_neg (by omega), if_neg (by omega), if_neg (by omega), if_neg (by omega), if_pos (by omega), all_bad hx117 (by omega), Bool.and_false])) .nil (fun _ _ _ => trivial)
                 ·
                  refine W.del (.dr .rf) (W.skip (QS.blkn (QS.next (W.region ?_))))
                  refine WL.st (R.add (.t L1) .c (wi (by omega) (by omega))) rfl ?_
                  refine WL.up (R.mv (.t L0)) U2 rfl ?_
                  refine WL.nil ?_
                  exact QS.at ⟨j + 1, by omega, good_snoc hj2 hx117 (by omega)⟩ (by dsimp only; omega) (.dr (.dr (.kp rfl (.kp rfl (.kp rfl (.kp rfl .nil)))))) .nil (fun w h hd => h)
               ·
                refine W.del (.dr .rf) (W.exit (QS.thenx (QS.thenx (QS.blkx (QS.next (W.del (.dr (.dr (.dr .rf))) (W.seq (W.region ?_))))))))
                refine WL.as .c U0 rfl ?_
                refine WL.nil (QS.next (W.ret (QS.blkr (QS.thenr ?_))))
                exact QS.fin (.inl rfl) rfl (.tmp L0 .nil) () (congrArg Value.bool (by unfold fieldsS; dsimp only; rw [if_neg hno, if_neg (by omega), if_neg (by omega), if_neg (by omega), if_neg (by omega), if_neg (by omega), if_pos (by omega), all_good (fun i y hi => hj2 i y (by omega)), decide_eq_true (by omega)]; rfl)) .nil (fun _ _ _ => trivial)
           ·
            refine W.del (.dr .rf) (W.skip (QS.blkn (QS.next (W.seq (W.region ?_)))))
            refine WL.st (R.mv (.t L7)) rfl ?_
            refine WL.st (R.geq (.t L0) .c) rfl ?_
            refine WL.st (R.mv (.t L0)) rfl ?_
            refine WL.cd L0 U0 U0 (fun hg128 => ?_) (fun hg128 => ?_)
            ·
             refine WL.gy rfl L0 (R.mv (.t (D1 L0))) rfl ?_
             refine WL.gy rfl L1 (R.leq (.t L0) .c) rfl ?_
             refine WL.st (R.pkt (.t L2) (.t L0)) rfl ?_
             refine WL.st (R.mv (.t L0)) rfl ?_
             refine WL.cd L0 U0 U0 (fun hg132 => ?_) (fun hg132 => ?_)
             ·
              refine WL.gy rfl L0 (R.fa fo_95_1 (.t (D1 L0))) rfl ?_
              refine WL.gy rfl L1 (R.ld sc_3 (.t L0) H0 rfl) rfl ?_
              refine WL.gy rfl L2 (R.eqi (.t L0) .c) rfl ?_
              refine WL.st (R.pkt (.t L3) (.t L0)) rfl ?_
              refine WL.as (.t L0) (E1 U7) rfl ?_
              refine WL.nil (QS.next (W.del (.dr (.dr (.dr (.dr (.dr (.dr (.dr (.dr (.dr (.dr (.dr .rf))))))))))) (W.ret ?_)))
              exact QS.fin (.inl rfl) rfl (.tmp L6 .nil) () (congrArg Value.bool (by unfold fieldsS; dsimp only; rw [if_neg hno, if_neg (by omega), if_neg (by omega), if_neg (by omega), if_neg (by omega), if_neg (by omega), if_neg (by omega)]; first | exact (decide_eq_false (by omega)).symm | exact (decide_eq_true (by omega)).symm | exact decide_eq_decide.2 (by omega))) (.dr .nil) (fun _ _ _ => trivial)
             ·
              refine WL.gn rfl L0 rfl ?_
              refine WL.gn rfl L1 rfl ?_
              refine WL.gn rfl L2 rfl ?_
              refine WL.st (R.pkf (.t L3) .c) rfl ?_
              refine WL.as (.t L0) (E1 U7) rfl ?_
              refine WL.nil (QS.next (W.del (.dr (.dr (.dr (.dr (.dr (.dr (.dr (.dr (.dr (.dr (.dr .rf))))))))))) (W.ret ?_)))
              exact QS.fin (.inl rfl) rfl (.tmp L6 .nil) () (congrArg Value.bool (by unfold fieldsS; dsimp only; rw [if_neg hno, if_neg (by omega), if_neg (by omega), if_neg (by omega), if_neg (by omega), if_neg (by omega), if_neg (by omega)]; first | exact (decide_eq_false (by omega)).symm | exact (decide_eq_true (by omega)).symm | exact decide_eq_decide.2 (by omega))) (.dr .nil) (fun _ _ _ => trivial)
            ·
             refine WL.gn rfl L0 rfl ?_
             refine WL.gn rfl L1 rfl ?_
             refine WL.st (R.pkf (.t L2) .c) rfl ?_
             refine WL.st (R.mv (.t L0)) rfl ?_
             refine WL.gn rfl L0 rfl ?_
             refine WL.gn rfl L1 rfl ?_
             refine WL.gn rfl L2 rfl ?_
             refine WL.st (R.pkf (.t L3) .c) rfl ?_
             refine WL.as (.t L0) (E1 U7) rfl ?_
             refine WL.nil (QS.next (W.del (.dr (.dr (.dr (.dr (.dr (.dr (.dr (.dr (.dr (.dr (.dr .rf))))))))))) (W.ret ?_)))
             exact QS.fin (.inl rfl) rfl (.tmp L6 .nil) () (congrArg Value.bool (by unfold fieldsS; dsimp only; rw [if_neg hno, if_neg (by omega), if_neg (by omega), if_neg (by omega), if_neg (by omega), if_neg (by omega), if_neg (by omega)]; first | exact (decide_eq_false (by omega)).symm | exact (decide_eq_true (by omega)).symm | exact decide_eq_decide.2 (by omega))) (.dr .nil) (fun _ _ _ => trivial)
   ·
    refine WL.gn rfl L0 rfl ?_
    refine WL.gn rfl L1 rfl ?_
    refine WL.gn rfl L2 rfl ?_
    refine WL.gn rfl L3 rfl ?_
    refine WL.gy rfl L7 (R.pkf (.t L4) .c) rfl ?_
    refine WL.st (R.pkf (.t L8) (.t L0)) rfl ?_
    refine WL.nil (QS.next (W.del (.kp (.dr (.dr (.dr (.dr (.dr (.dr (.dr (.dr (.dr (.dr (.dr (.dr (.dr (.dr (.dr (.dr .rf))))))))))))))))) (W.cf (.t L0) (W.del (.dr .rf) (W.skip (QS.next (W.seq (W.seq ?_))))))))
    have hno : ¬ ((k ≠ 1 ∧ tt ≠ []) ∨ (k ≠ 12 ∧ 0 < wd.length)) := by
      rintro (⟨a, b⟩ | ⟨a, b⟩)
      · first | omega | exact hg21 b
      · omega
    refine W.region ?_
    refine WL.st (R.mv (.t L7)) rfl ?_
    refine WL.nil (QS.next (W.block (W.seq (W.region ?_))))
    refine WL.st (R.eqi (.t L0) .c) rfl ?_
    refine WL.st (R.as (.t L0)) rfl ?_
    refine WL.nil (QS.next (W.del (.kp (.dr .rf)) ?_))
    refine W.cd (.t L0) (fun h1 => ?_) (fun h1 => ?_)
    ·
     refine W.del (.dr (.dr .rf)) (W.seq (W.region ?_))
     refine WL.st (R.fa fo_95_2 (.t L3)) rfl ?_
     refine WL.st (R.ld sc_9 (.t L0) H0 rfl) rfl ?_
     refine WL.callr gf_71 .f (.cons (.t L0) .nil) (fun w hb => (ref02_Plain ht (hb.imp fun _ _ => trivial))) rfl ?_
     refine WL.st (R.mv (.t L0)) rfl ?_
     refine WL.st (R.ex (.t L0) .here) rfl ?_
     refine WL.st (R.ex (.t L1) (.skip .here)) rfl ?_
     refine WL.as (.t L1) (E1 U4) rfl ?_
     refine WL.as (.t L0) (E1 U5) rfl ?_
     refine WL.nil (QS.next (W.del (.dr (.dr (.dr (.dr (.dr (.dr .rf)))))) (W.seq (W.region ?_))))
     refine WL.st (R.mv (.t L9)) rfl ?_
     refine WL.st (R.mv (.t L0)) rfl ?_
     refine WL.cb L0 U0 U0 (fun hg41 => ?_) (fun hg41 => ?_)
     ·
      refine WL.gy rfl L0 (R.fa fo_95_2 (.t L5)) rfl ?_
      refine WL.gy rfl L1 (R.ld sc_9 (.t L0) H0 rfl) rfl ?_
      refine WL.gy rfl L2 (R.nes (.t L0) .c) rfl ?_
      refine WL.st (R.pkt (.t L3) (.t L0)) rfl ?_
      refine WL.st (R.mv (.t L0)) rfl ?_
      refine WL.cd L0 U0 U0 (fun hg46 => ?_) (fun hg46 => ?_)
      ·
       refine WL.gy rfl L0 (R.fa fo_95_1 (.t (D1 L0))) rfl ?_
       refine WL.gy rfl L1 (R.ld sc_3 (.t L0) H0 rfl) rfl ?_
       refine WL.gy rfl L2 (R.eqi (.t L0) .c) rfl ?_
       refine WL.st (R.pkt (.t L3) (.t L0)) rfl ?_
       refine WL.as (.t L0) (E1 U7) rfl ?_
       refine WL.nil (QS.next (W.del (.dr (.dr (.dr (.dr (.dr (.dr (.dr (.dr (.dr (.dr (.dr .rf))))))))))) (W.ret (QS.blkr (QS.thenr ?_)))))
       exact QS.fin (.inl rfl) rfl (.tmp L6 .nil) () (congrArg Value.bool (by unfold fieldsS; dsimp only; rw [if_neg hno, if_pos (by omega)]; simp_all)) (.dr .nil) (fun _ _ _ => trivial)
      ·
       refine WL.gn rfl L0 rfl ?_
       refine WL.gn rfl L1 rfl ?_
       refine WL.gn rfl L2 rfl ?_
       refine WL.st (R.pkf (.t L3) .c) rfl ?_
       refine WL.as (.t L0) (E1 U7) rfl ?_
       refine WL.nil (QS.next (W.del (.dr (.dr (.dr (.dr (.dr (.dr (.dr (.dr (.dr (.dr (.dr .rf))))))))))) (W.ret (QS.blkr (QS.thenr ?_)))))
       exact QS.fin (.inl rfl) rfl (.tmp L6 .nil) () (congrArg Value.bool (by unfold fieldsS; dsimp only; rw [if_neg hno, if_pos (by omega)]; simp_all)) (.dr .nil) (fun _ _ _ => trivial)
     ·
      refine WL.gn rfl L0 rfl ?_
      refine WL.gn rfl L1 rfl ?_
      refine WL.gn rfl L2 rfl ?_
      refine WL.st (R.pkf (.t L3) .c) rfl ?_
      refine WL.st (R.mv (.t L0)) rfl ?_
      refine WL.gn rfl L0 rfl ?_
      refine WL.gn rfl L1 rfl ?_
      refine WL.gn rfl L2 rfl ?_
      refine WL.st (R.pkf (.t L3) .c) rfl ?_
      refine WL.as (.t L0) (E1 U7) rfl ?_
      refine WL.nil (QS.next (W.del (.dr (.dr (.dr (.dr (.dr (.dr (.dr (.dr (.dr (.dr (.dr .rf))))))))))) (W.ret (QS.blkr (QS.thenr ?_)))))
      exact QS.fin (.inl rfl) rfl (.tmp L6 .nil) () (congrArg Value.bool (by unfold fieldsS; dsimp only; rw [if_neg hno, if_pos (by omega)]; simp_all)) (.dr .nil) (fun _ _ _ => trivial)
    ·
     refine W.del (.dr .rf) (W.seq (W.region ?_))
     refine WL.st (R.eqi (.t L0) .c) rfl ?_
     refine WL.st (R.as (.t L0)) rfl ?_
     refine WL.nil (QS.next (W.del (.kp (.dr .rf)) ?_))
     refine W.cd (.t L0) (fun h2 => ?_) (fun h2 => ?_)
     ·
      refine W.del (.dr (.dr .rf)) (W.seq (W.region ?_))
      refine WL.st (R.fa fo_95_1 (.t L3)) rfl ?_
      refine WL.st (R.ld sc_3 (.t L0) H0 rfl) rfl ?_
      refine WL.st (R.geq (.t L0) .c) rfl ?_
      refine WL.st (R.mv (.t L0)) rfl ?_
      refine WL.cd L0 U0 U0 (fun hg56 => ?_) (fun hg56 => ?_)
      ·
       refine WL.gy rfl L0 (R.fa fo_95_1 (.t L7)) rfl ?_
       refine WL.gy rfl L1 (R.ld sc_3 (.t L0) H0 rfl) rfl ?_
       refine WL.gy rfl L2 (R.mv (.t L7)) rfl ?_
       refine WL.gy rfl L3 (R.lss (.t L1) (.t L0)) rfl ?_
       refine WL.st (R.pkt (.t L4) (.t L0)) rfl ?_
       refine WL.as (.t L0) (E1 U5) rfl ?_
       refine WL.nil (QS.next (W.del (.dr (.dr (.dr (.dr (.dr (.dr (.dr (.dr (.dr .rf))))))))) (W.ret (QS.blkr (QS.thenr ?_)))))
       exact QS.fin (.inl rfl) rfl (.tmp L6 .nil) () (congrArg Value.bool (by unfold fieldsS; dsimp only; rw [if_neg hno, if_neg (by omega), if_pos (by omega)]; first | exact (decide_eq_false (by omega)).symm | exact (decide_eq_true (by omega)).symm | exact decide_eq_decide.2 (by omega))) (.dr .nil) (fun _ _ _ => trivial)
      ·
       refine WL.gn rfl L0 rfl ?_
       refine WL.gn rfl L1 rfl ?_
       refine WL.gn rfl L2 rfl ?_
       refine WL.gn rfl L3 rfl ?_
       refine WL.st (R.pkf (.t L4) .c) rfl ?_
       refine WL.as (.t L0) (E1 U5) rfl ?_
       refine WL.nil (QS.next (W.del (.dr (.dr (.dr (.dr (.dr (.dr (.dr (.dr (.dr .rf))))))))) (W.ret (QS.blkr (QS.thenr ?_)))))
       exact QS.fin (.inl rfl) rfl (.tmp L6 .nil) () (congrArg Value.bool (by unfold fieldsS; dsimp only; rw [if_neg hno, if_neg (by omega), if_pos (by omega)]; first | exact (decide_eq_false (by omega)).symm | exact (decide_eq_true (by omega)).symm | exact decide_eq_decide.2 (by omega))) (.dr .nil) (fun _ _ _ => trivial)
     ·
      refine W.del (.dr .rf) (W.seq (W.seq (W.region ?_)))
      refine WL.st (R.eqi (.t L0) .c) rfl ?_
      refine WL.st (R.as (.t L0)) rfl ?_
      refine WL.nil (QS.next (W.del (.kp (.dr .rf)) ?_))
      refine W.cd (.t L0) (fun h3 => ?_) (fun h3 => ?_)
      ·
       refine W.skip (QS.next ?_)
       refine W.cdt (.t L0) h3 ?_
       refine W.del (.dr (.dr .rf)) (W.seq (W.region ?_))
       refine WL.st (R.fa fo_95_1 (.t L3)) rfl ?_
       refine WL.st (R.ld sc_3 (.t L0) H0 rfl) rfl ?_
       refine WL.st (R.geq (.t L0) .c) rfl ?_
       refine WL.st (R.mv (.t L0)) rfl ?_
       refine WL.cd L0 U0 U0 (fun hg68 => ?_) (fun hg68 => ?_)
       ·
        refine WL.gy rfl L0 (R.fa fo_95_1 (.t L7)) rfl ?_
        refine WL.gy rfl L1 (R.ld sc_3 (.t L0) H0 rfl) rfl ?_
        refine WL.gy rfl L2 (R.mv (.t L8)) rfl ?_
        refine WL.gy rfl L3 (R.lss (.t L1) (.t L0)) rfl ?_
        refine WL.st (R.pkt (.t L4) (.t L0)) rfl ?_
        refine WL.as (.t L0) (E1 U5) rfl ?_
        refine WL.nil (QS.next (W.del (.dr (.dr (.dr (.dr (.dr (.dr (.dr (.dr (.dr .rf))))))))) (W.ret (QS.blkr (QS.thenr ?_)))))
        exact QS.fin (.inl rfl) rfl (.tmp L6 .nil) () (congrArg Value.bool (by unfold fieldsS; dsimp only; rw [if_neg hno, if_neg (by omega), if_neg (by omega), if_pos (by omega)]; first | exact (decide_eq_false (by omega)).symm | exact (decide_eq_true (by omega)).symm | exact decide_eq_decide.2 (by omega))) (.dr .nil) (fun _ _ _ => trivial)
       ·
        refine WL.gn rfl L0 rfl ?_
        refine WL.gn rfl L1 rfl ?_
        refine WL.gn rfl L2 rfl ?_
        refine WL.gn rfl L3 rfl ?_
        refine WL.st (R.pkf (.t L4) .c) rfl ?_
        refine WL.as (.t L0) (E1 U5) rfl ?_
        refine WL.nil (QS.next (W.del (.dr (.dr (.dr (.dr (.dr (.dr (.dr (.dr (.dr .rf))))))))) (W.ret (QS.blkr (QS.thenr ?_)))))
        exact QS.fin (.inl rfl) rfl (.tmp L6 .nil) () (congrArg Value.bool (by unfold fieldsS; dsimp only; rw [if_neg hno, if_neg (by omega), if_neg (by omega), if_pos (by omega)]; first | exact (decide_eq_false (by omega)).symm | exact (decide_eq_true (by omega)).symm | exact decide_eq_decide.2 (by omega))) (.dr .nil) (fun _ _ _ => trivial)
      ·
       refine W.region ?_
       refine WL.st (R.eqi (.t L1) .c) rfl ?_
       refine WL.as (.t L0) U1 rfl ?_
       refine WL.nil (QS.next (W.del (.dr .rf) ?_))
       refine W.cd (.t L0) (fun h4 => ?_) (fun h4 => ?_)
       ·
        refine W.del (.dr (.dr .rf)) (W.seq (W.region ?_))
        refine WL.st (R.fa fo_95_1 (.t L3)) rfl ?_
        refine WL.st (R.ld sc_3 (.t L0) H0 rfl) rfl ?_
        refine WL.st (R.geq (.t L0) .c) rfl ?_
        refine WL.st (R.mv (.t L0)) rfl ?_
        refine WL.cd L0 U0 U0 (fun hg68 => ?_) (fun hg68 => ?_)
        ·
         refine WL.gy rfl L0 (R.fa fo_95_1 (.t L7)) rfl ?_
         refine WL.gy rfl L1 (R.ld sc_3 (.t L0) H0 rfl) rfl ?_
         refine WL.gy rfl L2 (R.mv (.t L8)) rfl ?_
         refine WL.gy rfl L3 (R.lss (.t L1) (.t L0)) rfl ?_
         refine WL.st (R.pkt (.t L4) (.t L0)) rfl ?_
         refine WL.as (.t L0) (E1 U5) rfl ?_
         refine WL.nil (QS.next (W.del (.dr (.dr (.dr (.dr (.dr (.dr (.dr (.dr (.dr .rf))))))))) (W.ret (QS.blkr (QS.thenr ?_)))))
         exact QS.fin (.inl rfl) rfl (.tmp L6 .nil) () (congrArg Value.bool (by unfold fieldsS; dsimp only; rw [if_neg hno, if_neg (by omega), if_neg (by omega), if_pos (by omega)]; first | exact (decide_eq_false (by omega)).symm | exact (decide_eq_true (by omega)).symm | exact decide_eq_decide.2 (by omega))) (.dr .nil) (fun _ _ _ => trivial)
        ·
         refine WL.gn rfl L0 rfl ?_
         refine WL.gn rfl L1 rfl ?_
         refine WL.gn rfl L2 rfl ?_
         refine WL.gn rfl L3 rfl ?_
         refine WL.st (R.pkf (.t L4) .c) rfl ?_
         refine WL.as (.t L0) (E1 U5) rfl ?_
         refine WL.nil (QS.next (W.del (.dr (.dr (.dr (.dr (.dr (.dr (.dr (.dr (.dr .rf))))))))) (W.ret (QS.blkr (QS.thenr ?_)))))
         exact QS.fin (.inl rfl) rfl (.tmp L6 .nil) () (congrArg Value.bool (by unfold fieldsS; dsimp only; rw [if_neg hno, if_neg (by omega), if_neg (by omega), if_pos (by omega)]; first | exact (decide_eq_false (by omega)).symm | exact (decide_eq_true (by omega)).symm | exact decide_eq_decide.2 (by omega))) (.dr .nil) (fun _ _ _ => trivial)
       ·
        refine W.del (.dr .rf) (W.seq (W.region ?_))
        refine WL.st (R.eqi (.t L0) .c) rfl ?_
        refine WL.st (R.as (.t L0)) rfl ?_
        refine WL.nil (QS.next (W.del (.kp (.dr .rf)) ?_))
        refine W.cd (.t L0) (fun h5 => ?_) (fun h5 => ?_)
        ·
         refine W.del (.dr (.dr .rf)) (W.seq (W.region ?_))
         refine WL.st (R.fa fo_95_1 (.t L3)) rfl ?_
         refine WL.st (R.ld sc_3 (.t L0) H0 rfl) rfl ?_
         refine WL.st (R.geq (.t L0) .c) rfl ?_
         refine WL.st (R.mv (.t L0)) rfl ?_
         refine WL.cd L0 U0 U0 (fun hg79 => ?_) (fun hg79 => ?_)
         ·
          refine WL.gy rfl L0 (R.fa fo_95_1 (.t L7)) rfl ?_
          refine WL.gy rfl L1 (R.ld sc_3 (.t L0) H0 rfl) rfl ?_
          refine WL.gy rfl L2 (R.mv (.t L7)) rfl ?_
          refine WL.gy rfl L3 (R.lss (.t L1) (.t L0)) rfl ?_
          refine WL.st (R.pkt (.t L4) (.t L0)) rfl ?_
          refine WL.as (.t L0) (E1 U5) rfl ?_
          refine WL.nil (QS.next (W.del (.dr (.dr (.dr (.dr (.dr (.dr (.dr (.dr (.dr .rf))))))))) (W.ret (QS.blkr (QS.thenr ?_)))))
          exact QS.fin (.inl rfl) rfl (.tmp L6 .nil) () (congrArg Value.bool (by unfold fieldsS; dsimp only; rw [if_neg hno, if_neg (by omega), if_neg (by omega), if_neg (by omega), if_pos (by omega)]; first | exact (decide_eq_false (by omega)).symm | exact (decide_eq_true (by omega)).symm | exact decide_eq_decide.2 (by omega))) (.dr .nil) (fun _ _ _ => trivial)
         ·
          refine WL.gn rfl L0 rfl ?_
          refine WL.gn rfl L1 rfl ?_
          refine WL.gn rfl L2 rfl ?_
          refine WL.gn rfl L3 rfl ?_
          refine WL.st (R.pkf (.t L4) .c) rfl ?_
          refine WL.as (.t L0) (E1 U5) rfl ?_
          refine WL.nil (QS.next (W.del (.dr (.dr (.dr (.dr (.dr (.dr (.dr (.dr (.dr .rf))))))))) (W.ret (QS.blkr (QS.thenr ?_)))))
          exact QS.fin (.inl rfl) rfl (.tmp L6 .nil) () (congrArg Value.bool (by unfold fieldsS; dsimp only; rw [if_neg hno, if_neg (by omega), if_neg (by omega), if_neg (by omega), if_pos (by omega)]; first | exact (decide_eq_false (by omega)).symm | exact (decide_eq_true (by omega)).symm | exact decide_eq_decide.2 (by omega))) (.dr .nil) (fun _ _ _ => trivial)
        ·
         refine W.del (.dr .rf) (W.seq (W.region ?_))
         refine WL.st (R.eqi (.t L0) .c) rfl ?_
         refine WL.st (R.as (.t L0)) rfl ?_
         refine WL.nil (QS.next (W.del (.kp (.dr .rf)) ?_))
         refine W.cd (.t L0) (fun h6 => ?_) (fun h6 => ?_)
         ·
          refine W.del (.dr (.dr .rf)) (W.seq (W.region ?_))
          refine WL.st (R.fa fo_95_1 (.t L3)) rfl ?_
          refine WL.st (R.ld sc_3 (.t L0) H0 rfl) rfl ?_
          refine WL.st (R.eqi (.t L0) .c) rfl ?_
          refine WL.st (R.mv (.t L0)) rfl ?_
          refine WL.cd L0 U0 U0 (fun hg90 => ?_) (fun hg90 => ?_)
          ·
           refine WL.gn rfl L0 rfl ?_
           refine WL.gn rfl L1 rfl ?_
           refine WL.gn rfl L2 rfl ?_
           refine WL.st (R.pkt (.t L3) .c) rfl ?_
           refine WL.as (.t L0) (E1 U4) rfl ?_
           refine WL.nil (QS.next (W.del (.dr (.dr (.dr (.dr (.dr (.dr (.dr (.dr .rf)))))))) (W.ret (QS.blkr (QS.thenr ?_)))))
           exact QS.fin (.inl rfl) rfl (.tmp L6 .nil) () (congrArg Value.bool (by unfold fieldsS; dsimp only; rw [if_neg hno, if_neg (by omega), if_neg (by omega), if_neg (by omega), if_neg (by omega), if_pos (by omega)]; first | exact (decide_eq_false (by omega)).symm | exact (decide_eq_true (by omega)).symm | exact decide_eq_decide.2 (by omega))) (.dr .nil) (fun _ _ _ => trivial)
          ·
           refine WL.gy rfl L0 (R.fa fo_95_1 (.t L7)) rfl ?_
           refine WL.gy rfl L1 (R.ld sc_3 (.t L0) H0 rfl) rfl ?_
           refine WL.gy rfl L2 (R.eqi (.t L0) .c) rfl ?_
           refine WL.st (R.pkf (.t L3) (.t L0)) rfl ?_
           refine WL.as (.t L0) (E1 U4) rfl ?_
           refine WL.nil (QS.next (W.del (.dr (.dr (.dr (.dr (.dr (.dr (.dr (.dr .rf)))))))) (W.ret (QS.blkr (QS.thenr ?_)))))
           exact QS.fin (.inl rfl) rfl (.tmp L6 .nil) () (congrArg Value.bool (by unfold fieldsS; dsimp only; rw [if_neg hno, if_neg (by omega), if_neg (by omega), if_neg (by omega), if_neg (by omega), if_pos (by omega)]; first | exact (decide_eq_false (by omega)).symm | exact (decide_eq_true (by omega)).symm | exact decide_eq_decide.2 (by omega))) (.dr .nil) (fun _ _ _ => trivial)
         ·
          refine W.del (.dr .rf) (W.seq (W.region ?_))
          refine WL.st (R.eqi (.t L0) .c) rfl ?_
          refine WL.st (R.as (.t L0)) rfl ?_
          refine WL.nil (QS.next (W.del (.kp (.dr (.dr .rf))) ?_))
          refine W.cd (.t L0) (fun h7 => ?_) (fun h7 => ?_)
          ·
           refine W.del (.dr .rf) (W.seq (W.seq (W.region ?_)))
           refine WL.st (R.fa fo_95_1 (.t L3)) rfl ?_
           refine WL.st (R.ld sc_3 (.t L0) H0 rfl) rfl ?_
           refine WL.st (R.nei (.t L0) .c) rfl ?_
           refine WL.st (R.mv (.t L0)) rfl ?_
           refine WL.cd L0 U0 U0 (fun hg100 => ?_) (fun hg100 => ?_)
           ·
            refine WL.gn rfl L0 rfl ?_
            refine WL.gn rfl L1 rfl ?_
            refine WL.gn rfl L2 rfl ?_
            refine WL.gn rfl L3 rfl ?_
            refine WL.st (R.pkt (.t L4) .c) rfl ?_
            refine WL.st (R.mv (.t L0)) rfl ?_
            refine WL.gn rfl L0 rfl ?_
            refine WL.gn rfl L1 rfl ?_
            refine WL.gn rfl L2 rfl ?_
            refine WL.gn rfl L3 rfl ?_
            refine WL.st (R.pkt (.t L4) .c) rfl ?_
            refine WL.nil (QS.next (W.del (.kp (.dr (.dr (.dr (.dr (.dr (.dr (.dr (.dr (.dr (.dr (.dr (.dr (.dr (.dr .rf))))))))))))))) (W.ct (.t L0) (W.del (.dr .rf) (W.seq (W.region ?_))))))
            refine WL.as .c U6 rfl ?_
            refine WL.nil (QS.next (W.ret (QS.thenr (QS.blkr (QS.thenr ?_)))))
            exact QS.fin (.inl rfl) rfl (.tmp L6 .nil) () (congrArg Value.bool (by unfold fieldsS; dsimp only; rw [if_neg hno, if_neg (by omega), if_neg (by omega), if_neg (by omega), if_neg (by omega), if_neg (by omega), if_pos (by omega), decide_eq_false (by omega), Bool.false_and])) (.dr .nil) (fun _ _ _ => trivial)
           ·
            refine WL.gy rfl L0 (R.fa fo_95_3 (.t L7)) rfl ?_
            refine WL.gy rfl L1 (R.ld sc_37 (.t L0) H0 rfl) rfl ?_
            refine WL.gy rfl L2 (R.lenl sl_37 (.t L0)) rfl ?_
            refine WL.gy rfl L3 (R.lss (.t L0) .c) rfl ?_
            refine WL.st (R.pkf (.t L4) (.t L0)) rfl ?_
            refine WL.st (R.mv (.t L0)) rfl ?_
            refine WL.cd L0 U0 U0 (fun hg106 => ?_) (fun hg106 => ?_)
            ·
             refine WL.gn rfl L0 rfl ?_
             refine WL.gn rfl L1 rfl ?_
             refine WL.gn rfl L2 rfl ?_
             refine WL.gn rfl L3 rfl ?_
             refine WL.st (R.pkt (.t L4) .c) rfl ?_
             refine WL.nil (QS.next (W.del (.kp (.dr (.dr (.dr (.dr (.dr (.dr (.dr (.dr (.dr (.dr (.dr (.dr (.dr (.dr .rf))))))))))))))) (W.ct (.t L0) (W.del (.dr .rf) (W.seq (W.region ?_))))))
             refine WL.as .c U6 rfl ?_
             refine WL.nil (QS.next (W.ret (QS.thenr (QS.blkr (QS.thenr ?_)))))
             exact QS.fin (.inl rfl) rfl (.tmp L6 .nil) () (congrArg Value.bool (by unfold fieldsS; dsimp only; rw [if_neg hno, if_neg (by omega), if_neg (by omega), if_neg (by omega), if_neg (by omega), if_neg (by omega), if_pos (by omega), decide_eq_false (by omega), Bool.false_and])) (.dr .nil) (fun _ _ _ => trivial)
            ·
             refine WL.gy rfl L0 (R.fa fo_95_3 (.t (D1 L3))) rfl ?_
             refine WL.gy rfl L1 (R.ld sc_37 (.t L0) H0 rfl) rfl ?_
             refine WL.gy rfl L2 (R.lenl sl_37 (.t L0)) rfl ?_
             refine WL.gy rfl L3 (R.gtr (.t L0) .c) rfl ?_
             refine WL.st (R.pkf (.t L4) (.t L0)) rfl ?_
             refine WL.nil (QS.next (W.del (.kp (.dr (.dr (.dr (.dr (.dr (.dr (.dr (.dr (.dr (.dr (.dr (.dr (.dr (.dr .rf))))))))))))))) ?_))
             refine W.cd (.t L0) (fun h8 => ?_) (fun h8 => ?_)
             ·
              refine W.del (.dr .rf) (W.seq (W.region ?_))
              refine WL.as .c U6 rfl ?_
              refine WL.nil (QS.next (W.ret (QS.thenr (QS.blkr (QS.thenr ?_)))))
              exact QS.fin (.inl rfl) rfl (.tmp L6 .nil) () (congrArg Value.bool (by unfold fieldsS; dsimp only; rw [if_neg hno, if_neg (by omega), if_neg (by omega), if_neg (by omega), if_neg (by omega), if_neg (by omega), if_pos (by omega), decide_eq_false (by omega), Bool.false_and])) (.dr .nil) (fun _ _ _ => trivial)
             ·
              refine W.del (.dr .rf) (W.skip (QS.next (W.seq (W.seq (W.region ?_)))))
              refine WL.st (R.fa fo_95_3 (.t L3)) rfl ?_
              refine WL.st (R.ld sc_37 (.t L0) H0 rfl) rfl ?_
              refine WL.st (R.lenl sl_37 (.t L0)) rfl ?_
              refine WL.st (R.mv .c) rfl ?_
              refine WL.nil (QS.next (W.del (.kp (.kp (.kp (.dr .rf)))) (W.block ?_)))
              refine W.loop (ι := {j : Nat // j ≤ wd.length ∧ ∀ (i : Nat) y, i < j → wd[i]? = some y → 0 ≤ y ∧ y ≤ 100}) (fun x => [(115, .int .i64 x.1), (114, .int .i64 wd.length), (113, .slice Aw wd.length cw), (6, .bool false)]) (fun x => []) (fun x w => RdI w Aw wd) (fun x => wd.length - x.1) ⟨0, Nat.zero_le _, fun i y h => absurd h (by omega)⟩ (.kp rfl (.kp rfl (.kp rfl (.dr (.dr (.dr (.dr (.dr (.dr (.kp rfl (.dr (.dr (.dr (.dr (.dr .nil))))))))))))))) (.dr .nil) (fun w h hd => h) ?_
              intro x
              obtain ⟨j, hj1, hj2⟩ := x
              show W _ _ _ _ _ [(115, .int .i64 j), (114, .int .i64 wd.length), (113, .slice Aw wd.length cw), (6, .bool false)] [] (fun w => RdI w Aw wd)
              refine W.seq (W.region ?_)
              refine WL.st (R.lss (.t L0) (.t L1)) rfl ?_
              refine WL.nil (QS.next (W.seq ?_))
              refine W.cd (.t L0) (fun h9 => ?_) (fun h9 => ?_)
              ·
               refine W.del (.dr .rf) (W.skip (QS.next (W.seq (W.block (W.seq (W.region ?_))))))
               obtain ⟨x117, hx117⟩ : ∃ x, (wd)[j]? = some x := ⟨_, List.getElem?_eq_getElem (by omega)⟩
               refine WL.st (R.ixI sl_37 (.t L2) rfl (.t L0) (l := wd) (j := j) rfl (List.getElem?_eq_some_iff.1 hx117).1 (fun w hb => hb.get)) rfl ?_
               refine WL.st (R.ldp sc_3 (.t L0) (fun w hb => RdI.cell (hb.get) hx117)) rfl ?_
               refine WL.st (R.as (.t L0)) rfl ?_
               refine WL.nil (QS.next (W.del (.kp (.dr (.dr .rf))) (W.seq (W.region ?_))))
               refine WL.st (R.mv (.t L0)) rfl ?_
               refine WL.st (R.lss (.t L0) .c) rfl ?_
               refine WL.st (R.mv (.t L0)) rfl ?_
               refine WL.cd L0 U0 U0 (fun hg121 => ?_) (fun hg121 => ?_)
               ·
                refine WL.gn rfl L0 rfl ?_
                refine WL.gn rfl L1 rfl ?_
                refine WL.st (R.pkt (.t L2) .c) rfl ?_
                refine WL.nil (QS.next (W.del (.kp (.dr (.dr (.dr (.dr (.dr .rf)))))) (W.ct (.t L0) (W.del (.dr .rf) (W.seq (W.region ?_))))))
                refine WL.as .c U4 rfl ?_
                refine WL.nil (QS.next (W.ret (QS.blkr (QS.thenr (QS.thenr (QS.blkr (QS.thenr (QS.blkr (QS.thenr ?_)))))))))
                exact QS.fin (.inl rfl) rfl (.tmp L4 .nil) () (congrArg Value.bool (by unfold fieldsS; dsimp only; rw [if_neg hno, if_neg (by omega), if_neg (by omega), if_neg (by omega), if_neg (by omega), if_neg (by omega), if_pos (by omega), all_bad hx117 (by omega), Bool.and_false])) .nil (fun _ _ _ => trivial)
               ·
                refine WL.gy rfl L0 (R.mv (.t L3)) rfl ?_
                refine WL.gy rfl L1 (R.gtr (.t L0) .c) rfl ?_
                refine WL.st (R.pkf (.t L2) (.t L0)) rfl ?_
                refine WL.nil (QS.next (W.del (.kp (.dr (.dr (.dr (.dr (.dr .rf)))))) ?_))
                refine W.cd (.t L0) (fun h10 => ?_) (fun h10 => ?_)
                ·
                 refine W.del (.dr .rf) (W.seq (W.region ?_))
                 refine WL.as .c U4 rfl ?_
                 refine WL.nil (QS.next (W.ret (QS.blkr (QS.thenr (QS.thenr (QS.blkr (QS.thenr (QS.blkr (QS.thenr ?_)))))))))
                 exact QS.fin (.inl rfl) rfl (.tmp L4 .nil) () (congrArg Value.bool (by unfold fieldsS; dsimp only; rw [if_neg hno, if_neg (by omega), if_neg (by omega), if_neg (by omega), if_neg (by omega), if_neg (by omega), if_pos (by omega), all_bad hx117 (by omega), Bool.and_false])) .nil (fun _ _ _ => trivial)
                ·
                 refine W.del (.dr .rf) (W.skip (QS.blkn (QS.next (W.region ?_))))
                 refine WL.st (R.add (.t L1) .c (wi (by omega) (by omega))) rfl ?_
                 refine WL.up (R.mv (.t L0)) U2 rfl ?_
                 refine WL.nil ?_
                 exact QS.at ⟨j + 1, by omega, good_snoc hj2 hx117 (by omega)⟩ (by dsimp only; omega) (.dr (.dr (.kp rfl (.kp rfl (.kp rfl (.kp rfl .nil)))))) .nil (fun w h hd => h)
              ·
               refine W.del (.dr .rf) (W.exit (QS.thenx (QS.thenx (QS.blkx (QS.next (W.del (.dr (.dr (.dr .rf))) (W.seq (W.region ?_))))))))
               refine WL.as .c U0 rfl ?_
               refine WL.nil (QS.next (W.ret (QS.blkr (QS.thenr ?_))))
               exact QS.fin (.inl rfl) rfl (.tmp L0 .nil) () (congrArg Value.bool (by unfold fieldsS; dsimp only; rw [if_neg hno, if_neg (by omega), if_neg (by omega), if_neg (by omega), if_neg (by omega), if_neg (by omega), if_pos (by omega), all_good (fun i y hi => hj2 i y (by omega)), decide_eq_true (by omega)]; rfl)) .nil (fun _ _ _ => trivial)
          ·
           refine W.del (.dr .rf) (W.skip (QS.blkn (QS.next (W.seq (W.region ?_)))))
           refine WL.st (R.mv (.t L7)) rfl ?_
           refine WL.st (R.geq (.t L0) .c) rfl ?_
           refine WL.st (R.mv (.t L0)) rfl ?_
           refine WL.cd L0 U0 U0 (fun hg128 => ?_) (fun hg128 => ?_)
           ·
            refine WL.gy rfl L0 (R.mv (.t (D1 L0))) rfl ?_
            refine WL.gy rfl L1 (R.leq (.t L0) .c) rfl ?_
            refine WL.st (R.pkt (.t L2) (.t L0)) rfl ?_
            refine WL.st (R.mv (.t L0)) rfl ?_
            refine WL.cd L0 U0 U0 (fun hg132 => ?_) (fun hg132 => ?_)
            ·
             refine WL.gy rfl L0 (R.fa fo_95_1 (.t (D1 L0))) rfl ?_
             refine WL.gy rfl L1 (R.ld sc_3 (.t L0) H0 rfl) rfl ?_
             refine WL.gy rfl L2 (R.eqi (.t L0) .c) rfl ?_
             refine WL.st (R.pkt (.t L3) (.t L0)) rfl ?_
             refine WL.as (.t L0) (E1 U7) rfl ?_
             refine WL.nil (QS.next (W.del (.dr (.dr (.dr (.dr (.dr (.dr (.dr (.dr (.dr (.dr (.dr .rf))))))))))) (W.ret ?_)))
             exact QS.fin (.inl rfl) rfl (.tmp L6 .nil) () (congrArg Value.bool (by unfold fieldsS; dsimp only; rw [if_neg hno, if_neg (by omega), if_neg (by omega), if_neg (by omega), if_neg (by omega), if_neg (by omega), if_neg (by omega)]; first | exact (decide_eq_false (by omega)).symm | exact (decide_eq_true (by omega)).symm | exact decide_eq_decide.2 (by omega))) (.dr .nil) (fun _ _ _ => trivial)
            ·
             refine WL.gn rfl L0 rfl ?_
             refine WL.gn rfl L1 rfl ?_
             refine WL.gn rfl L2 rfl ?_
             refine WL.st (R.pkf (.t L3) .c) rfl ?_
             refine WL.as (.t L0) (E1 U7) rfl ?_
             refine WL.nil (QS.next (W.del (.dr (.dr (.dr (.dr (.dr (.dr (.dr (.dr (.dr (.dr (.dr .rf))))))))))) (W.ret ?_)))
             exact QS.fin (.inl rfl) rfl (.tmp L6 .nil) () (congrArg Value.bool (by unfold fieldsS; dsimp only; rw [if_neg hno, if_neg (by omega), if_neg (by omega), if_neg (by omega), if_neg (by omega), if_neg (by omega), if_neg (by omega)]; first | exact (decide_eq_false (by omega)).symm | exact (decide_eq_true (by omega)).symm | exact decide_eq_decide.2 (by omega))) (.dr .nil) (fun _ _ _ => trivial)
           ·
            refine WL.gn rfl L0 rfl ?_
            refine WL.gn rfl L1 rfl ?_
            refine WL.st (R.pkf (.t L2) .c) rfl ?_
            refine WL.st (R.mv (.t L0)) rfl ?_
            refine WL.gn rfl L0 rfl ?_
            refine WL.gn rfl L1 rfl ?_
            refine WL.gn rfl L2 rfl ?_
            refine WL.st (R.pkf (.t L3) .c) rfl ?_
            refine WL.as (.t L0) (E1 U7) rfl ?_
            refine WL.nil (QS.next (W.del (.dr (.dr (.dr (.dr (.dr (.dr (.dr (.dr (.dr (.dr (.dr .rf))))))))))) (W.ret ?_)))
            exact QS.fin (.inl rfl) rfl (.tmp L6 .nil) () (congrArg Value.bool (by unfold fieldsS; dsimp only; rw [if_neg hno, if_neg (by omega), if_neg (by omega), if_neg (by omega), if_neg (by omega), if_neg (by omega), if_neg (by omega)]; first | exact (decide_eq_false (by omega)).symm | exact (decide_eq_true (by omega)).symm | exact decide_eq_decide.2 (by omega))) (.dr .nil) (fun _ _ _ => trivial)
 ·
  refine WL.gn rfl L0 rfl ?_
  refine WL.gn rfl L1 rfl ?_
  refine WL.gn rfl L2 rfl ?_
  refine WL.st (R.pkf (.t L3) .c) rfl ?_
  refine WL.st (R.mv (.t L0)) rfl ?_
  refine WL.gy rfl L0 (R.mv (.t (D1 L5))) rfl ?_
  refine WL.gy rfl L1 (R.nei (.t L0) .c) rfl ?_
  refine WL.gy rfl L2 (R.mv (.t L0)) rfl ?_
  refine WL.cd L0 U0 U0 (fun hg24 => ?_) (fun hg24 => ?_)
  ·
   refine WL.gy rfl L0 (R.fa fo_95_3 (.t (D1 L4))) rfl ?_
   refine WL.gy rfl L1 (R.ld sc_37 (.t L0) H0 rfl) rfl ?_
   refine WL.gy rfl L2 (R.lenl sl_37 (.t L0)) rfl ?_
   refine WL.gy rfl L3 (R.gtr (.t L0) .c) rfl ?_
   refine WL.gy rfl L7 (R.pkt (.t L4) (.t L0)) rfl ?_
   refine WL.st (R.pkf (.t L8) (.t L0)) rfl ?_
   refine WL.nil (QS.next (W.del (.kp (.dr (.dr (.dr (.dr (.dr (.dr (.dr (.dr (.dr (.dr (.dr (.dr (.dr (.dr (.dr (.dr .rf))))))))))))))))) ?_))
   refine W.cd (.t L0) (fun h0 => ?_) (fun h0 => ?_)
   ·
    refine W.del (.dr .rf) (W.seq (W.region ?_))
    refine WL.as .c U6 rfl ?_
    refine WL.nil (QS.next (W.ret (QS.thenr ?_)))
    exact QS.fin (.inl rfl) rfl (.tmp L6 .nil) () (congrArg Value.bool (by unfold fieldsS; dsimp only; rw [if_pos (by first | exact .inl ⟨hg16, hg21⟩ | exact .inr ⟨hg24, by omega⟩)])) (.dr .nil) (fun _ _ _ => trivial)
   ·
    refine W.del (.dr .rf) (W.skip (QS.next (W.seq (W.seq ?_))))
    have hno : ¬ ((k ≠ 1 ∧ tt ≠ []) ∨ (k ≠ 12 ∧ 0 < wd.length)) := by
      rintro (⟨a, b⟩ | ⟨a, b⟩)
      · first | omega | exact hg21 b
      · omega
    refine W.region ?_
    refine WL.st (R.mv (.t L7)) rfl ?_
    refine WL.nil (QS.next (W.block (W.seq (W.region ?_))))
    refine WL.st (R.eqi (.t L0) .c) rfl ?_
    refine WL.st (R.as (.t L0)) rfl ?_
    refine WL.nil (QS.next (W.del (.kp (.dr .rf)) ?_))
    refine W.cd (.t L0) (fun h1 => ?_) (fun h1 => ?_)
    ·
     refine W.del (.dr (.dr .rf)) (W.seq (W.region ?_))
     refine WL.st (R.fa fo_95_2 (.t L3)) rfl ?_
     refine WL.st (R.ld sc_9 (.t L0) H0 rfl) rfl ?_
     refine WL.callr gf_71 .f (.cons (.t L0) .nil) (fun w hb => (ref02_Plain ht (hb.imp fun _ _ => trivial))) rfl ?_
     refine WL.st (R.mv (.t L0)) rfl ?_
     refine WL.st (R.ex (.t L0) .here) rfl ?_
     refine WL.st (R.ex (.t L1) (.skip .here)) rfl ?_
     refine WL.as (.t L1) (E1 U4) rfl ?_
     refine WL.as (.t L0) (E1 U5) rfl ?_
     refine WL.nil (QS.next (W.del (.dr (.dr (.dr (.dr (.dr (.dr .rf)))))) (W.seq (W.region ?_))))
     refine WL.st (R.mv (.t L9)) rfl ?_
     refine WL.st (R.mv (.t L0)) rfl ?_
     refine WL.cb L0 U0 U0 (fun hg41 => ?_) (fun hg41 => ?_)
     ·
      refine WL.gy rfl L0 (R.fa fo_95_2 (.t L5)) rfl ?_
      refine WL.gy rfl L1 (R.ld sc_9 (.t L0) H0 rfl) rfl ?_
      refine WL.gy rfl L2 (R.nes (.t L0) .c) rfl ?_
      refine WL.st (R.pkt (.t L3) (.t L0)) rfl ?_
      refine WL.st (R.mv (.t L0)) rfl ?_
      refine WL.cd L0 U0 U0 (fun hg46 => ?_) (fun hg46 => ?_)
      ·
       refine WL.gy rfl L0 (R.fa fo_95_1 (.t (D1 L0))) rfl ?_
       refine WL.gy rfl L1 (R.ld sc_3 (.t L0) H0 rfl) rfl ?_
       refine WL.gy rfl L2 (R.eqi (.t L0) .c) rfl ?_
       refine WL.st (R.pkt (.t L3) (.t L0)) rfl ?_
       refine WL.as (.t L0) (E1 U7) rfl ?_
       refine WL.nil (QS.next (W.del (.dr (.dr (.dr (.dr (.dr (.dr (.dr (.dr (.dr (.dr (.dr .rf))))))))))) (W.ret (QS.blkr (QS.thenr ?_)))))
       exact QS.fin (.inl rfl) rfl (.tmp L6 .nil) () (congrArg Value.bool (by unfold fieldsS; dsimp only; rw [if_neg hno, if_pos (by omega)]; simp_all)) (.dr .nil) (fun _ _ _ => trivial)
      ·
       refine WL.gn rfl L0 rfl ?_
       refine WL.gn rfl L1 rfl ?_
       refine WL.gn rfl L2 rfl ?_
       refine WL.st (R.pkf (.t L3) .c) rfl ?_
       refine WL.as (.t L0) (E1 U7) rfl ?_
       refine WL.nil (QS.next (W.del (.dr (.dr (.dr (.dr (.dr (.dr (.dr (.dr (.dr (.dr (.dr .rf))))))))))) (W.ret (QS.blkr (QS.thenr ?_)))))
       exact QS.fin (.inl rfl) rfl (.tmp L6 .nil) () (congrArg Value.bool (by unfold fieldsS; dsimp only; rw [if_neg hno, if_pos (by omega)]; simp_all)) (.dr .nil) (fun _ _ _ => trivial)
     ·
      refine WL.gn rfl L0 rfl ?_
      refine WL.gn rfl L1 rfl ?_
      refine WL.gn rfl L2 rfl ?_
      refine WL.st (R.pkf (.t L3) .c) rfl ?_
      refine WL.st (R.mv (.t L0)) rfl ?_
      refine WL.gn rfl L0 rfl ?_
      refine WL.gn rfl L1 rfl ?_
      refine WL.gn rfl L2 rfl ?_
      refine WL.st (R.pkf (.t L3) .c) rfl ?_
      refine WL.as (.t L0) (E1 U7) rfl ?_
      refine WL.nil (QS.next (W.del (.dr (.dr (.dr (.dr (.dr (.dr (.dr (.dr (.dr (.dr (.dr .rf))))))))))) (W.ret (QS.blkr (QS.thenr ?_)))))
      exact QS.fin (.inl rfl) rfl (.tmp L6 .nil) () (congrArg Value.bool (by unfold fieldsS; dsimp only; rw [if_neg hno, if_pos (by omega)]; simp_all)) (.dr .nil) (fun _ _ _ => trivial)
    ·
     refine W.del (.dr .rf) (W.seq (W.region ?_))
     refine WL.st (R.eqi (.t L0) .c) rfl ?_
     refine WL.st (R.as (.t L0)) rfl ?_
     refine WL.nil (QS.next (W.del (.kp (.dr .rf)) ?_))
     refine W.cd (.t L0) (fun h2 => ?_) (fun h2 => ?_)
     ·
      refine W.del (.dr (.dr .rf)) (W.seq (W.region ?_))
      refine WL.st (R.fa fo_95_1 (.t L3)) rfl ?_
      refine WL.st (R.ld sc_3 (.t L0) H0 rfl) rfl ?_
      refine WL.st (R.geq (.t L0) .c) rfl ?_
      refine WL.st (R.mv (.t L0)) rfl ?_
      refine WL.cd L0 U0 U0 (fun hg56 => ?_) (fun hg56 => ?_)
      ·
       refine WL.gy rfl L0 (R.fa fo_95_1 (.t L7)) rfl ?_
       refine WL.gy rfl L1 (R.ld sc_3 (.t L0) H0 rfl) rfl ?_
       refine WL.gy rfl L2 (R.mv (.t L7)) rfl ?_
       refine WL.gy rfl L3 (R.lss (.t L1) (.t L0)) rfl ?_
       refine WL.st (R.pkt (.t L4) (.t L0)) rfl ?_
       refine WL.as (.t L0) (E1 U5) rfl ?_
       refine WL.nil (QS.next (W.del (.dr (.dr (.dr (.dr (.dr (.dr (.dr (.dr (.dr .rf))))))))) (W.ret (QS.blkr (QS.thenr ?_)))))
       exact QS.fin (.inl rfl) rfl (.tmp L6 .nil) () (congrArg Value.bool (by unfold fieldsS; dsimp only; rw [if_neg hno, if_neg (by omega), if_pos (by omega)]; first | exact (decide_eq_false (by omega)).symm | exact (decide_eq_true (by omega)).symm | exact decide_eq_decide.2 (by omega))) (.dr .nil) (fun _ _ _ => trivial)
      ·
       refine WL.gn rfl L0 rfl ?_
       refine WL.gn rfl L1 rfl ?_
       refine WL.gn rfl L2 rfl ?_
       refine WL.gn rfl L3 rfl ?_
       refine WL.st (R.pkf (.t L4) .c) rfl ?_
       refine WL.as (.t L0) (E1 U5) rfl ?_
       refine WL.nil (QS.next (W.del (.dr (.dr (.dr (.dr (.dr (.dr (.dr (.dr (.dr .rf))))))))) (W.ret (QS.blkr (QS.thenr ?_)))))
       exact QS.fin (.inl rfl) rfl (.tmp L6 .nil) () (congrArg Value.bool (by unfold fieldsS; dsimp only; rw [if_neg hno, if_neg (by omega), if_pos (by omega)]; first | exact (decide_eq_false (by omega)).symm | exact (decide_eq_true (by omega)).symm | exact decide_eq_decide.2 (by omega))) (.dr .nil) (fun _ _ _ => trivial)
     ·
      refine W.del (.dr .rf) (W.seq (W.seq (W.region ?_)))
      refine WL.st (R.eqi (.t L0) .c) rfl ?_
      refine WL.st (R.as (.t L0)) rfl ?_
      refine WL.nil (QS.next (W.del (.kp (.dr .rf)) ?_))
      refine W.cd (.t L0) (fun h3 => ?_) (fun h3 => ?_)
      ·
       refine W.skip (QS.next ?_)
       refine W.cdt (.t L0) h3 ?_
       refine W.del (.dr (.dr .rf)) (W.seq (W.region ?_))
       refine WL.st (R.fa fo_95_1 (.t L3)) rfl ?_
       refine WL.st (R.ld sc_3 (.t L0) H0 rfl) rfl ?_
       refine WL.st (R.geq (.t L0) .c) rfl ?_
       refine WL.st (R.mv (.t L0)) rfl ?_
       refine WL.cd L0 U0 U0 (fun hg68 => ?_) (fun hg68 => ?_)
       ·
        refine WL.gy rfl L0 (R.fa fo_95_1 (.t L7)) rfl ?_
        refine WL.gy rfl L1 (R.ld sc_3 (.t L0) H0 rfl) rfl ?_
        refine WL.gy rfl L2 (R.mv (.t L8)) rfl ?_
        refine WL.gy rfl L3 (R.lss (.t L1) (.t L0)) rfl ?_
        refine WL.st (R.pkt (.t L4) (.t L0)) rfl ?_
        refine WL.as (.t L0) (E1 U5) rfl ?_
        refine WL.nil (QS.next (W.del (.dr (.dr (.dr (.dr (.dr (.dr (.dr (.dr (.dr .rf))))))))) (W.ret (QS.blkr (QS.thenr ?_)))))
        exact QS.fin (.inl rfl) rfl (.tmp L6 .nil) () (congrArg Value.bool (by unfold fieldsS; dsimp only; rw [if_neg hno, if_neg (by omega), if_neg (by omega), if_pos (by omega)]; first | exact (decide_eq_false (by omega)).symm | exact (decide_eq_true (by omega)).symm | exact decide_eq_decide.2 (by omega))) (.dr .nil) (fun _ _ _ => trivial)
       ·
        refine WL.gn rfl L0 rfl ?_
        refine WL.gn rfl L1 rfl ?_
        refine WL.gn rfl L2 rfl ?_
        refine WL.gn rfl L3 rfl ?_
        refine WL.st (R.pkf (.t L4) .c) rfl ?_
        refine WL.as (.t L0) (E1 U5) rfl ?_
        refine WL.nil (QS.next (W.del (.dr (.dr (.dr (.dr (.dr (.dr (.dr (.dr (.dr .rf))))))))) (W.ret (QS.blkr (QS.thenr ?_)))))
        exact QS.fin (.inl rfl) rfl (.tmp L6 .nil) () (congrArg Value.bool (by unfold fieldsS; dsimp only; rw [if_neg hno, if_neg (by omega), if_neg (by omega), if_pos (by omega)]; first | exact (decide_eq_false (by omega)).symm | exact (decide_eq_true (by omega)).symm | exact decide_eq_decide.2 (by omega))) (.dr .nil) (fun _ _ _ => trivial)
      ·
       refine W.region ?_
       refine WL.st (R.eqi (.t L1) .c) rfl ?_
       refine WL.as (.t L0) U1 rfl ?_
       refine WL.nil (QS.next (W.del (.dr .rf) ?_))
       refine W.cd (.t L0) (fun h4 => ?_) (fun h4 => ?_)
       ·
        refine W.del (.dr (.dr .rf)) (W.seq (W.region ?_))
        refine WL.st (R.fa fo_95_1 (.t L3)) rfl ?_
        refine WL.st (R.ld sc_3 (.t L0) H0 rfl) rfl ?_
        refine WL.st (R.geq (.t L0) .c) rfl ?_
        refine WL.st (R.mv (.t L0)) rfl ?_
        refine WL.cd L0 U0 U0 (fun hg68 => ?_) (fun hg68 => ?_)
        ·
         refine WL.gy rfl L0 (R.fa fo_95_1 (.t L7)) rfl ?_
         refine WL.gy rfl L1 (R.ld sc_3 (.t L0) H0 rfl) rfl ?_
         refine WL.gy rfl L2 (R.mv (.t L8)) rfl ?_
         refine WL.gy rfl L3 (R.lss (.t L1) (.t L0)) rfl ?_
         refine WL.st (R.pkt (.t L4) (.t L0)) rfl ?_
         refine WL.as (.t L0) (E1 U5) rfl ?_
         refine WL.nil (QS.next (W.del (.dr (.dr (.dr (.dr (.dr (.dr (.dr (.dr (.dr .rf))))))))) (W.ret (QS.blkr (QS.thenr ?_)))))
         exact QS.fin (.inl rfl) rfl (.tmp L6 .nil) () (congrArg Value.bool (by unfold fieldsS; dsimp only; rw [if_neg hno, if_neg (by omega), if_neg (by omega), if_pos (by omega)]; first | exact (decide_eq_false (by omega)).symm | exact (decide_eq_true (by omega)).symm | exact decide_eq_decide.2 (by omega))) (.dr .nil) (fun _ _ _ => trivial)
        ·
         refine WL.gn rfl L0 rfl ?_
         refine WL.gn rfl L1 rfl ?_
         refine WL.gn rfl L2 rfl ?_
         refine WL.gn rfl L3 rfl ?_
         refine WL.st (R.pkf (.t L4) .c) rfl ?_
         refine WL.as (.t L0) (E1 U5) rfl ?_
         refine WL.nil (QS.next (W.del (.dr (.dr (.dr (.dr (.dr (.dr (.dr (.dr (.dr .rf))))))))) (W.ret (QS.blkr (QS.thenr ?_)))))
         exact QS.fin (.inl rfl) rfl (.tmp L6 .nil) () (congrArg Value.bool (by unfold fieldsS; dsimp only; rw [if_neg hno, if_neg (by omega), if_neg (by omega), if_pos (by omega)]; first | exact (decide_eq_false (by omega)).symm | exact (decide_eq_true (by omega)).symm | exact decide_eq_decide.2 (by omega))) (.dr .nil) (fun _ _ _ => trivial)
       ·
        refine W.del (.dr .rf) (W.seq (W.region ?_))
        refine WL.st (R.eqi (.t L0) .c) rfl ?_
        refine WL.st (R.as (.t L0)) rfl ?_
        refine WL.nil (QS.next (W.del (.kp (.dr .rf)) ?_))
        refine W.cd (.t L0) (fun h5 => ?_) (fun h5 => ?_)
        ·
         refine W.del (.dr (.dr .rf)) (W.seq (W.region ?_))
         refine WL.st (R.fa fo_95_1 (.t L3)) rfl ?_
         refine WL.st (R.ld sc_3 (.t L0) H0 rfl) rfl ?_
         refine WL.st (R.geq (.t L0) .c) rfl ?_
         refine WL.st (R.mv (.t L0)) rfl ?_
         refine WL.cd L0 U0 U0 (fun hg79 => ?_) (fun hg79 => ?_)
         ·
          refine WL.gy rfl L0 (R.fa fo_95_1 (.t L7)) rfl ?_
          refine WL.gy rfl L1 (R.ld sc_3 (.t L0) H0 rfl) rfl ?_
          refine WL.gy rfl L2 (R.mv (.t L7)) rfl ?_
          refine WL.gy rfl L3 (R.lss (.t L1) (.t L0)) rfl ?_
          refine WL.st (R.pkt (.t L4) (.t L0)) rfl ?_
          refine WL.as (.t L0) (E1 U5) rfl ?_
          refine WL.nil (QS.next (W.del (.dr (.dr (.dr (.dr (.dr (.dr (.dr (.dr (.dr .rf))))))))) (W.ret (QS.blkr (QS.thenr ?_)))))
          exact QS.fin (.inl rfl) rfl (.tmp L6 .nil) () (congrArg Value.bool (by unfold fieldsS; dsimp only; rw [if_neg hno, if_neg (by omega), if_neg (by omega), if_neg (by omega), if_pos (by omega)]; first | exact (decide_eq_false (by omega)).symm | exact (decide_eq_true (by omega)).symm | exact decide_eq_decide.2 (by omega))) (.dr .nil) (fun _ _ _ => trivial)
         ·
          refine WL.gn rfl L0 rfl ?_
          refine WL.gn rfl L1 rfl ?_
          refine WL.gn rfl L2 rfl ?_
          refine WL.gn rfl L3 rfl ?_
          refine WL.st (R.pkf (.t L4) .c) rfl ?_
          refine WL.as (.t L0) (E1 U5) rfl ?_
          refine WL.nil (QS.next (W.del (.dr (.dr (.dr (.dr (.dr (.dr (.dr (.dr (.dr .rf))))))))) (W.ret (QS.blkr (QS.thenr ?_)))))
          exact QS.fin (.inl rfl) rfl (.tmp L6 .nil) () (congrArg Value.bool (by unfold fieldsS; dsimp only; rw [if_neg hno, if_neg (by omega), if_neg (by omega), if_neg (by omega), if_pos (by omega)]; first | exact (decide_eq_false (by omega)).symm | exact (decide_eq_true (by omega)).symm | exact decide_eq_decide.2 (by omega))) (.dr .nil) (fun _ _ _ => trivial)
        ·
         refine W.del (.dr .rf) (W.seq (W.region ?_))
         refine WL.st (R.eqi (.t L0) .c) rfl ?_
         refine WL.st (R.as (.t L0)) rfl ?_
         refine WL.nil (QS.next (W.del (.kp (.dr .rf)) ?_))
         refine W.cd (.t L0) (fun h6 => ?_) (fun h6 => ?_)
         ·
          refine W.del (.dr (.dr .rf)) (W.seq (W.region ?_))
          refine WL.st (R.fa fo_95_1 (.t L3)) rfl ?_
          refine WL.st (R.ld sc_3 (.t L0) H0 rfl) rfl ?_
          refine WL.st (R.eqi (.t L0) .c) rfl ?_
          refine WL.st (R.mv (.t L0)) rfl ?_
          refine WL.cd L0 U0 U0 (fun hg90 => ?_) (fun hg90 => ?_)
          ·
           refine WL.gn rfl L0 rfl ?_
           refine WL.gn rfl L1 rfl ?_
           refine WL.gn rfl L2 rfl ?_
           refine WL.st (R.pkt (.t L3) .c) rfl ?_
           refine WL.as (.t L0) (E1 U4) rfl ?_
           refine WL.nil (QS.next (W.del (.dr (.dr (.dr (.dr (.dr (.dr (.dr (.dr .rf)))))))) (W.ret (QS.blkr (QS.thenr ?_)))))
           exact QS.fin (.inl rfl) rfl (.tmp L6 .nil) () (congrArg Value.bool (by unfold fieldsS; dsimp only; rw [if_neg hno, if_neg (by omega), if_neg (by omega), if_neg (by omega), if_neg (by omega), if_pos (by omega)]; first | exact (decide_eq_false (by omega)).symm | exact (decide_eq_true (by omega)).symm | exact decide_eq_decide.2 (by omega))) (.dr .nil) (fun _ _ _ => trivial)
          ·
           refine WL.gy rfl L0 (R.fa fo_95_1 (.t L7)) rfl ?_
           refine WL.gy rfl L1 (R.ld sc_3 (.t L0) H0 rfl) rfl ?_
           refine WL.gy rfl L2 (R.eqi (.t L0) .c) rfl ?_
           refine WL.st (R.pkf (.t L3) (.t L0)) rfl ?_
           refine WL.as (.t L0) (E1 U4) rfl ?_
           refine WL.nil (QS.next (W.del (.dr (.dr (.dr (.dr (.dr (.dr (.dr (.dr .rf)))))))) (W.ret (QS.blkr (QS.thenr ?_)))))
           exact QS.fin (.inl rfl) rfl (.tmp L6 .nil) () (congrArg Value.bool (by unfold fieldsS; dsimp only; rw [if_neg hno, if_neg (by omega), if_neg (by omega), if_neg (by omega), if_neg (by omega), if_pos (by omega)]; first | exact (decide_eq_false (by omega)).symm | exact (decide_eq_true (by omega)).symm | exact decide_eq_decide.2 (by omega))) (.dr .nil) (fun _ _ _ => trivial)
         ·
          refine W.del (.dr .rf) (W.seq (W.region ?_))
          refine WL.st (R.eqi (.t L0) .c) rfl ?_
          refine WL.st (R.as (.t L0)) rfl ?_
          refine WL.nil (QS.next (W.del (.kp (.dr (.dr .rf))) ?_))
          refine W.cd (.t L0) (fun h7 => ?_) (fun h7 => ?_)
          ·
           refine W.del (.dr .rf) (W.seq (W.seq (W.region ?_)))
           refine WL.st (R.fa fo_95_1 (.t L3)) rfl ?_
           refine WL.st (R.ld sc_3 (.t L0) H0 rfl) rfl ?_
           refine WL.st (R.nei (.t L0) .c) rfl ?_
           refine WL.st (R.mv (.t L0)) rfl ?_
           refine WL.cd L0 U0 U0 (fun hg100 => ?_) (fun hg100 => ?_)
           ·
            refine WL.gn rfl L0 rfl ?_
            refine WL.gn rfl L1 rfl ?_
            refine WL.gn rfl L2 rfl ?_
            refine WL.gn rfl L3 rfl ?_
            refine WL.st (R.pkt (.t L4) .c) rfl ?_
            refine WL.st (R.mv (.t L0)) rfl ?_
            refine WL.gn rfl L0 rfl ?_
            refine WL.gn rfl L1 rfl ?_
            refine WL.gn rfl L2 rfl ?_
            refine WL.gn rfl L3 rfl ?_
            refine WL.st (R.pkt (.t L4) .c) rfl ?_
            refine WL.nil (QS.next (W.del (.kp (.dr (.dr (.dr (.dr (.dr (.dr (.dr (.dr (.dr (.dr (.dr (.dr (.dr (.dr .rf))))))))))))))) (W.ct (.t L0) (W.del (.dr .rf) (W.seq (W.region ?_))))))
            refine WL.as .c U6 rfl ?_
            refine WL.nil (QS.next (W.ret (QS.thenr (QS.blkr (QS.thenr ?_)))))
            exact QS.fin (.inl rfl) rfl (.tmp L6 .nil) () (congrArg Value.bool (by unfold fieldsS; dsimp only; rw [if_neg hno, if_neg (by omega), if_neg (by omega), if_neg (by omega), if_neg (by omega), if_neg (by omega), if_pos (by omega), decide_eq_false (by omega), Bool.false_and])) (.dr .nil) (fun _ _ _ => trivial)
           ·
            refine WL.gy rfl L0 (R.fa fo_95_3 (.t L7)) rfl ?_
            refine WL.gy rfl L1 (R.ld sc_37 (.t L0) H0 rfl) rfl ?_
            refine WL.gy rfl L2 (R.lenl sl_37 (.t L0)) rfl ?_
            refine WL.gy rfl L3 (R.lss (.t L0) .c) rfl ?_
            refine WL.st (R.pkf (.t L4) (.t L0)) rfl ?_
            refine WL.st (R.mv (.t L0)) rfl ?_
            refine WL.cd L0 U0 U0 (fun hg106 => ?_) (fun hg106 => ?_)
            ·
             refine WL.gn rfl L0 rfl ?_
             refine WL.gn rfl L1 rfl ?_
             refine WL.gn rfl L2 rfl ?_
             refine WL.gn rfl L3 rfl ?_
             refine WL.st (R.pkt (.t L4) .c) rfl ?_
             refine WL.nil (QS.next (W.del (.kp (.dr (.dr (.dr (.dr (.dr (.dr (.dr (.dr (.dr (.dr (.dr (.dr (.dr (.dr .rf))))))))))))))) (W.ct (.t L0) (W.del (.dr .rf) (W.seq (W.region ?_))))))
             refine WL.as .c U6 rfl ?_
             refine WL.nil (QS.next (W.ret (QS.thenr (QS.blkr (QS.thenr ?_)))))
             exact QS.fin (.inl rfl) rfl (.tmp L6 .nil) () (congrArg Value.bool (by unfold fieldsS; dsimp only; rw [if_neg hno, if_neg (by omega), if_neg (by omega), if_neg (by omega), if_neg (by omega), if_neg (by omega), if_pos (by omega), decide_eq_false (by omega), Bool.false_and])) (.dr .nil) (fun _ _ _ => trivial)
            ·
             refine WL.gy rfl L0 (R.fa fo_95_3 (.t (D1 L3))) rfl ?_
             refine WL.gy rfl L1 (R.ld sc_37 (.t L0) H0 rfl) rfl ?_
             refine WL.gy rfl L2 (R.lenl sl_37 (.t L0)) rfl ?_
             refine WL.gy rfl L3 (R.gtr (.t L0) .c) rfl ?_
             refine WL.st (R.pkf (.t L4) (.t L0)) rfl ?_
             refine WL.nil (QS.next (W.del (.kp (.dr (.dr (.dr (.dr (.dr (.dr (.dr (.dr (.dr (.dr (.dr (.dr (.dr (.dr .rf))))))))))))))) ?_))
             refine W.cd (.t L0) (fun h8 => ?_) (fun h8 => ?_)
             ·
              refine W.del (.dr .rf) (W.seq (W.region ?_))
              refine WL.as .c U6 rfl ?_
              refine WL.nil (QS.next (W.ret (QS.thenr (QS.blkr (QS.thenr ?_)))))
              exact QS.fin (.inl rfl) rfl (.tmp L6 .nil) () (congrArg Value.bool (by unfold fieldsS; dsimp only; rw [if_neg hno, if_neg (by omega), if_neg (by omega), if_neg (by omega), if_neg (by omega), if_neg (by omega), if_pos (by omega), decide_eq_false (by omega), Bool.false_and])) (.dr .nil) (fun _ _ _ => trivial)
             ·
              refine W.del (.dr .rf) (W.skip (QS.next (W.seq (W.seq (W.region ?_)))))
              refine WL.st (R.fa fo_95_3 (.t L3)) rfl ?_
              refine WL.st (R.ld sc_37 (.t L0) H0 rfl) rfl ?_
              refine WL.st (R.lenl sl_37 (.t L0)) rfl ?_
              refine WL.st (R.mv .c) rfl ?_
              refine WL.nil (QS.next (W.del (.kp (.kp (.kp (.dr .rf)))) (W.block ?_)))
              refine W.loop (ι := {j : Nat // j ≤ wd.length ∧ ∀ (i : Nat) y, i < j → wd[i]? = some y → 0 ≤ y ∧ y ≤ 100}) (fun x => [(115, .int .i64 x.1), (114, .int .i64 wd.length), (113, .slice Aw wd.length cw), (6, .bool false)]) (fun x => []) (fun x w => RdI w Aw wd) (fun x => wd.length - x.1) ⟨0, Nat.zero_le _, fun i y h => absurd h (by omega)⟩ (.kp rfl (.kp rfl (.kp rfl (.dr (.dr (.dr (.dr (.dr (.dr (.kp rfl (.dr (.dr (.dr (.dr (.dr .nil))))))))))))))) (.dr .nil) (fun w h hd => h) ?_
              intro x
              obtain ⟨j, hj1, hj2⟩ := x
              show W _ _ _ _ _ [(115, .int .i64 j), (114, .int .i64 wd.length), (113, .slice Aw wd.length cw), (6, .bool false)] [] (fun w => RdI w Aw wd)
              refine W.seq (W.region ?_)
              refine WL.st (R.lss (.t L0) (.t L1)) rfl ?_
              refine WL.nil (QS.next (W.seq ?_))
              refine W.cd (.t L0) (fun h9 => ?_) (fun h9 => ?_)
              ·
               refine W.del (.dr .rf) (W.skip (QS.next (W.seq (W.block (W.seq (W.region ?_))))))
               obtain ⟨x117, hx117⟩ : ∃ x, (wd)[j]? = some x := ⟨_, List.getElem?_eq_getElem (by omega)⟩
               refine WL.st (R.ixI sl_37 (.t L2) rfl (.t L0) (l := wd) (j := j) rfl (List.getElem?_eq_some_iff.1 hx117).1 (fun w hb => hb.get)) rfl ?_
               refine WL.st (R.ldp sc_3 (.t L0) (fun w hb => RdI.cell (hb.get) hx117)) rfl ?_
               refine WL.st (R.as (.t L0)) rfl ?_
               refine WL.nil (QS.next (W.del (.kp (.dr (.dr .rf))) (W.seq (W.region ?_))))
               refine WL.st (R.mv (.t L0)) rfl ?_
               refine WL.st (R.lss (.t L0) .c) rfl ?_
               refine WL.st (R.mv (.t L0)) rfl ?_
               refine WL.cd L0 U0 U0 (fun hg121 => ?_) (fun hg121 => ?_)
               ·
                refine WL.gn rfl L0 rfl ?_
                refine WL.gn rfl L1 rfl ?_
                refine WL.st (R.pkt (.t L2) .c) rfl ?_
                refine WL.nil (QS.next (W.del (.kp (.dr (.dr (.dr (.dr (.dr .rf)))))) (W.ct (.t L0) (W.del (.dr .rf) (W.seq (W.region ?_))))))
                refine WL.as .c U4 rfl ?_
                refine WL.nil (QS.next (W.ret (QS.blkr (QS.thenr (QS.thenr (QS.blkr (QS.thenr (QS.blkr (QS.thenr ?_)))))))))
                exact QS.fin (.inl rfl) rfl (.tmp L4 .nil) () (congrArg Value.bool (by unfold fieldsS; dsimp only; rw [if_neg hno, if_neg (by omega), if_neg (by omega), if_neg (by omega), if_neg (by omega), if_neg (by omega), if_pos (by omega), all_bad hx117 (by omega), Bool.and_false])) .nil (fun _ _ _ => trivial)
               ·
                refine WL.gy rfl L0 (R.mv (.t L3)) rfl ?_
                refine WL.gy rfl L1 (R.gtr (.t L0) .c) rfl ?_
                refine WL.st (R.pkf (.t L2) (.t L0)) rfl ?_
                refine WL.nil (QS.next (W.del (.kp (.dr (.dr (.dr (.dr (.dr .rf)))))) ?_))
                refine W.cd (.t L0) (fun h10 => ?_) (fun h10 => ?_)
                ·
                 refine W.del (.dr .rf) (W.seq (W.region ?_))
                 refine WL.as .c U4 rfl ?_
                 refine WL.nil (QS.next (W.ret (QS.blkr (QS.thenr (QS.thenr (QS.blkr (QS.thenr (QS.blkr (QS.thenr ?_)))))))))
                 exact QS.fin (.inl rfl) rfl (.tmp L4 .nil) () (congrArg Value.bool (by unfold fieldsS; dsimp only; rw [if_neg hno, if_neg (by omega), if_neg (by omega), if_neg (by omega), if_neg (by omega), if_neg (by omega), if_pos (by omega), all_bad hx117 (by omega), Bool.and_false])) .nil (fun _ _ _ => trivial)
                ·
                 refine W.del (.dr .rf) (W.skip (QS.blkn (QS.next (W.region ?_))))
                 refine WL.st (R.add (.t L1) .c (wi (by omega) (by omega))) rfl ?_
                 refine WL.up (R.mv (.t L0)) U2 rfl ?_
                 refine WL.nil ?_
                 exact QS.at ⟨j + 1, by omega, good_snoc hj2 hx117 (by omega)⟩ (by dsimp only; omega) (.dr (.dr (.kp rfl (.kp rfl (.kp rfl (.kp rfl .nil)))))) .nil (fun w h hd => h)
              ·
               refine W.del (.dr .rf) (W.exit (QS.thenx (QS.thenx (QS.blkx (QS.next (W.del (.dr (.dr (.dr .rf))) (W.seq (W.region ?_))))))))
               refine WL.as .c U0 rfl ?_
               refine WL.nil (QS.next (W.ret (QS.blkr (QS.thenr ?_))))
               exact QS.fin (.inl rfl) rfl (.tmp L0 .nil) () (congrArg Value.bool (by unfold fieldsS; dsimp only; rw [if_neg hno, if_neg (by omega), if_neg (by omega), if_neg (by omega), if_neg (by omega), if_neg (by omega), if_pos (by omega), all_good (fun i y hi => hj2 i y (by omega)), decide_eq_true (by omega)]; rfl)) .nil (fun _ _ _ => trivial)
          ·
           refine W.del (.dr .rf) (W.skip (QS.blkn (QS.next (W.seq (W.region ?_)))))
           refine WL.st (R.mv (.t L7)) rfl ?_
           refine WL.st (R.geq (.t L0) .c) rfl ?_
           refine WL.st (R.mv (.t L0)) rfl ?_
           refine WL.cd L0 U0 U0 (fun hg128 => ?_) (fun hg128 => ?_)
           ·
            refine WL.gy rfl L0 (R.mv (.t (D1 L0))) rfl ?_
            refine WL.gy rfl L1 (R.leq (.t L0) .c) rfl ?_
            refine WL.st (R.pkt (.t L2) (.t L0)) rfl ?_
            refine WL.st (R.mv (.t L0)) rfl ?_
            refine WL.cd L0 U0 U0 (fun hg132 => ?_) (fun hg132 => ?_)
            ·
             refine WL.gy rfl L0 (R.fa fo_95_1 (.t (D1 L0))) rfl ?_
             refine WL.gy rfl L1 (R.ld sc_3 (.t L0) H0 rfl) rfl ?_
             refine WL.gy rfl L2 (R.eqi (.t L0) .c) rfl ?_
             refine WL.st (R.pkt (.t L3) (.t L0)) rfl ?_
             refine WL.as (.t L0) (E1 U7) rfl ?_
             refine WL.nil (QS.next (W.del (.dr (.dr (.dr (.dr (.dr (.dr (.dr (.dr (.dr (.dr (.dr .rf))))))))))) (W.ret ?_)))
             exact QS.fin (.inl rfl) rfl (.tmp L6 .nil) () (congrArg Value.bool (by unfold fieldsS; dsimp only; rw [if_neg hno, if_neg (by omega), if_neg (by omega), if_neg (by omega), if_neg (by omega), if_neg (by omega), if_neg (by omega)]; first | exact (decide_eq_false (by omega)).symm | exact (decide_eq_true (by omega)).symm | exact decide_eq_decide.2 (by omega))) (.dr .nil) (fun _ _ _ => trivial)
            ·
             refine WL.gn rfl L0 rfl ?_
             refine WL.gn rfl L1 rfl ?_
             refine WL.gn rfl L2 rfl ?_
             refine WL.st (R.pkf (.t L3) .c) rfl ?_
             refine WL.as (.t L0) (E1 U7) rfl ?_
             refine WL.nil (QS.next (W.del (.dr (.dr (.dr (.dr (.dr (.dr (.dr (.dr (.dr (.dr (.dr .rf))))))))))) (W.ret ?_)))
             exact QS.fin (.inl rfl) rfl (.tmp L6 .nil) () (congrArg Value.bool (by unfold fieldsS; dsimp only; rw [if_neg hno, if_neg (by omega), if_neg (by omega), if_neg (by omega), if_neg (by omega), if_neg (by omega), if_neg (by omega)]; first | exact (decide_eq_false (by omega)).symm | exact (decide_eq_true (by omega)).symm | exact decide_eq_decide.2 (by omega))) (.dr .nil) (fun _ _ _ => trivial)
           ·
            refine WL.gn rfl L0 rfl ?_
            refine WL.gn rfl L1 rfl ?_
            refine WL.st (R.pkf (.t L2) .c) rfl ?_
            refine WL.st (R.mv (.t L0)) rfl ?_
            refine WL.gn rfl L0 rfl ?_
            refine WL.gn rfl L1 rfl ?_
            refine WL.gn rfl L2 rfl ?_
            refine WL.st (R.pkf (.t L3) .c) rfl ?_
            refine WL.as (.t L0) (E1 U7) rfl ?_
            refine WL.nil (QS.next (W.del (.dr (.dr (.dr (.dr (.dr (.dr (.dr (.dr (.dr (.dr (.dr .rf))))))))))) (W.ret ?_)))
            exact QS.fin (.inl rfl) rfl (.tmp L6 .nil) () (congrArg Value.bool (by unfold fieldsS; dsimp only; rw [if_neg hno, if_neg (by omega), if_neg (by omega), if_neg (by omega), if_neg (by omega), if_neg (by omega), if_neg (by omega)]; first | exact (decide_eq_false (by omega)).symm | exact (decide_eq_true (by omega)).symm | exact decide_eq_decide.2 (by omega))) (.dr .nil) (fun _ _ _ => trivial)
  ·
   refine WL.gn rfl L0 rfl ?_
   refine WL.gn rfl L1 rfl ?_
   refine WL.gn rfl L2 rfl ?_
   refine WL.gn rfl L3 rfl ?_
   refine WL.gy rfl L7 (R.pkf (.t L4) .c) rfl ?_
   refine WL.st (R.pkf (.t L8) (.t L0)) rfl ?_
   refine WL.nil (QS.next (W.del (.kp (.dr (.dr (.dr (.dr (.dr (.dr (.dr (.dr (.dr (.dr (.dr (.dr (.dr (.dr (.dr (.dr .rf))))))))))))))))) (W.cf (.t L0) (W.del (.dr .rf) (W.skip (QS.next (W.seq (W.seq ?_))))))))
   have hno : ¬ ((k ≠ 1 ∧ tt ≠ []) ∨ (k ≠ 12 ∧ 0 < wd.length)) := by
     rintro (⟨a, b⟩ | ⟨a, b⟩)
     · first | omega | exact hg21 b
     · omega
   refine W.region ?_
   refine WL.st (R.mv (.t L7)) rfl ?_
   refine WL.nil (QS.next (W.block (W.seq (W.region ?_))))
   refine WL.st (R.eqi (.t L0) .c) rfl ?_
   refine WL.st (R.as (.t L0)) rfl ?_
   refine WL.nil (QS.next (W.del (.kp (.dr .rf)) ?_))
   refine W.cd (.t L0) (fun h1 => ?_) (fun h1 => ?_)
   ·
    refine W.del (.dr (.dr .rf)) (W.seq (W.region ?_))
    refine WL.st (R.fa fo_95_2 (.t L3)) rfl ?_
    refine WL.st (R.ld sc_9 (.t L0) H0 rfl) rfl ?_
    refine WL.callr gf_71 .f (.cons (.t L0) .nil) (fun w hb => (ref02_Plain ht (hb.imp fun _ _ => trivial))) rfl ?_
    refine WL.st (R.mv (.t L0)) rfl ?_
    refine WL.st (R.ex (.t L0) .here) rfl ?_
    refine WL.st (R.ex (.t L1) (.skip .here)) rfl ?_
    refine WL.as (.t L1) (E1 U4) rfl ?_
    refine WL.as (.t L0) (E1 U5) rfl ?_
    refine WL.nil (QS.next (W.del (.dr (.dr (.dr (.dr (.dr (.dr .rf)))))) (W.seq (W.region ?_))))
    refine WL.st (R.mv (.t L9)) rfl ?_
    refine WL.st (R.mv (.t L0)) rfl ?_
    refine WL.cb L0 U0 U0 (fun hg41 => ?_) (fun hg41 => ?_)
    ·
     refine WL.gy rfl L0 (R.fa fo_95_2 (.t L5)) rfl ?_
     refine WL.gy rfl L1 (R.ld sc_9 (.t L0) H0 rfl) rfl ?_
     refine WL.gy rfl L2 (R.nes (.t L0) .c) rfl ?_
     refine WL.st (R.pkt (.t L3) (.t L0)) rfl ?_
     refine WL.st (R.mv (.t L0)) rfl ?_
     refine WL.cd L0 U0 U0 (fun hg46 => ?_) (fun hg46 => ?_)
     ·
      refine WL.gy rfl L0 (R.fa fo_95_1 (.t (D1 L0))) rfl ?_
      refine WL.gy rfl L1 (R.ld sc_3 (.t L0) H0 rfl) rfl ?_
      refine WL.gy rfl L2 (R.eqi (.t L0) .c) rfl ?_
      refine WL.st (R.pkt (.t L3) (.t L0)) rfl ?_
      refine WL.as (.t L0) (E1 U7) rfl ?_
      refine WL.nil (QS.next (W.del (.dr (.dr (.dr (.dr (.dr (.dr (.dr (.dr (.dr (.dr (.dr .rf))))))))))) (W.ret (QS.blkr (QS.thenr ?_)))))
      exact QS.fin (.inl rfl) rfl (.tmp L6 .nil) () (congrArg Value.bool (by unfold fieldsS; dsimp only; rw [if_neg hno, if_pos (by omega)]; simp_all)) (.dr .nil) (fun _ _ _ => trivial)
     ·
      refine WL.gn rfl L0 rfl ?_
      refine WL.gn rfl L1 rfl ?_
      refine WL.gn rfl L2 rfl ?_
      refine WL.st (R.pkf (.t L3) .c) rfl ?_
      refine WL.as (.t L0) (E1 U7) rfl ?_
      refine WL.nil (QS.next (W.del (.dr (.dr (.dr (.dr (.dr (.dr (.dr (.dr (.dr (.dr (.dr .rf))))))))))) (W.ret (QS.blkr (QS.thenr ?_)))))
      exact QS.fin (.inl rfl) rfl (.tmp L6 .nil) () (congrArg Value.bool (by unfold fieldsS; dsimp only; rw [if_neg hno, if_pos (by omega)]; simp_all)) (.dr .nil) (fun _ _ _ => trivial)
    ·
     refine WL.gn rfl L0 rfl ?_
     refine WL.gn rfl L1 rfl ?_
     refine WL.gn rfl L2 rfl ?_
     refine WL.st (R.pkf (.t L3) .c) rfl ?_
     refine WL.st (R.mv (.t L0)) rfl ?_
     refine WL.gn rfl L0 rfl ?_
     refine WL.gn rfl L1 rfl ?_
     refine WL.gn rfl L2 rfl ?_
     refine WL.st (R.pkf (.t L3) .c) rfl ?_
     refine WL.as (.t L0) (E1 U7) rfl ?_
     refine WL.nil (QS.next (W.del (.dr (.dr (.dr (.dr (.dr (.dr (.dr (.dr (.dr (.dr (.dr .rf))))))))))) (W.ret (QS.blkr (QS.thenr ?_)))))
     exact QS.fin (.inl rfl) rfl (.tmp L6 .nil) () (congrArg Value.bool (by unfold fieldsS; dsimp only; rw [if_neg hno, if_pos (by omega)]; simp_all)) (.dr .nil) (fun _ _ _ => trivial)
   ·
    refine W.del (.dr .rf) (W.seq (W.region ?_))
    refine WL.st (R.eqi (.t L0) .c) rfl ?_
    refine WL.st (R.as (.t L0)) rfl ?_
    refine WL.nil (QS.next (W.del (.kp (.dr .rf)) ?_))
    refine W.cd (.t L0) (fun h2 => ?_) (fun h2 => ?_)
    ·
     refine W.del (.dr (.dr .rf)) (W.seq (W.region ?_))
     refine WL.st (R.fa fo_95_1 (.t L3)) rfl ?_
     refine WL.st (R.ld sc_3 (.t L0) H0 rfl) rfl ?_
     refine WL.st (R.geq (.t L0) .c) rfl ?_
     refine WL.st (R.mv (.t L0)) rfl ?_
     refine WL.cd L0 U0 U0 (fun hg56 => ?_) (fun hg56 => ?_)
     ·
      refine WL.gy rfl L0 (R.fa fo_95_1 (.t L7)) rfl ?_
      refine WL.gy rfl L1 (R.ld sc_3 (.t L0) H0 rfl) rfl ?_
      refine WL.gy rfl L2 (R.mv (.t L7)) rfl ?_
      refine WL.gy rfl L3 (R.lss (.t L1) (.t L0)) rfl ?_
      refine WL.st (R.pkt (.t L4) (.t L0)) rfl ?_
      refine WL.as (.t L0) (E1 U5) rfl ?_
      refine WL.nil (QS.next (W.del (.dr (.dr (.dr (.dr (.dr (.dr (.dr (.dr (.dr .rf))))))))) (W.ret (QS.blkr (QS.thenr ?_)))))
      exact QS.fin (.inl rfl) rfl (.tmp L6 .nil) () (congrArg Value.bool (by unfold fieldsS; dsimp only; rw [if_neg hno, if_neg (by omega), if_pos (by omega)]; first | exact (decide_eq_false (by omega)).symm | exact (decide_eq_true (by omega)).symm | exact decide_eq_decide.2 (by omega))) (.dr .nil) (fun _ _ _ => trivial)
     ·
      refine WL.gn rfl L0 rfl ?_
      refine WL.gn rfl L1 rfl ?_
      refine WL.gn rfl L2 rfl ?_
      refine WL.gn rfl L3 rfl ?_
      refine WL.st (R.pkf (.t L4) .c) rfl ?_
      refine WL.as (.t L0) (E1 U5) rfl ?_
      refine WL.nil (QS.next (W.del (.dr (.dr (.dr (.dr (.dr (.dr (.dr (.dr (.dr .rf))))))))) (W.ret (QS.blkr (QS.thenr ?_)))))
      exact QS.fin (.inl rfl) rfl (.tmp L6 .nil) () (congrArg Value.bool (by unfold fieldsS; dsimp only; rw [if_neg hno, if_neg (by omega), if_pos (by omega)]; first | exact (decide_eq_false (by omega)).symm | exact (decide_eq_true (by omega)).symm | exact decide_eq_decide.2 (by omega))) (.dr .nil) (fun _ _ _ => trivial)
    ·
     refine W.del (.dr .rf) (W.seq (W.seq (W.region ?_)))
     refine WL.st (R.eqi (.t L0) .c) rfl ?_
     refine WL.st (R.as (.t L0)) rfl ?_
     refine WL.nil (QS.next (W.del (.kp (.dr .rf)) ?_))
     refine W.cd (.t L0) (fun h3 => ?_) (fun h3 => ?_)
     ·
      refine W.skip (QS.next ?_)
      refine W.cdt (.t L0) h3 ?_
      refine W.del (.dr (.dr .rf)) (W.seq (W.region ?_))
      refine WL.st (R.fa fo_95_1 (.t L3)) rfl ?_
      refine WL.st (R.ld sc_3 (.t L0) H0 rfl) rfl ?_
      refine WL.st (R.geq (.t L0) .c) rfl ?_
      refine WL.st (R.mv (.t L0)) rfl ?_
      refine WL.cd L0 U0 U0 (fun hg68 => ?_) (fun hg68 => ?_)
      ·
       refine WL.gy rfl L0 (R.fa fo_95_1 (.t L7)) rfl ?_
       refine WL.gy rfl L1 (R.ld sc_3 (.t L0) H0 rfl) rfl ?_
       refine WL.gy rfl L2 (R.mv (.t L8)) rfl ?_
       refine WL.gy rfl L3 (R.lss (.t L1) (.t L0)) rfl ?_
       refine WL.st (R.pkt (.t L4) (.t L0)) rfl ?_
       refine WL.as (.t L0) (E1 U5) rfl ?_
       refine WL.nil (QS.next (W.del (.dr (.dr (.dr (.dr (.dr (.dr (.dr (.dr (.dr .rf))))))))) (W.ret (QS.blkr (QS.thenr ?_)))))
       exact QS.fin (.inl rfl) rfl (.tmp L6 .nil) () (congrArg Value.bool (by unfold fieldsS; dsimp only; rw [if_neg hno, if_neg (by omega), if_neg (by omega), if_pos (by omega)]; first | exact (decide_eq_false (by omega)).symm | exact (decide_eq_true (by omega)).symm | exact decide_eq_decide.2 (by omega))) (.dr .nil) (fun _ _ _ => trivial)
      ·
       refine WL.gn rfl L0 rfl ?_
       refine WL.gn rfl L1 rfl ?_
       refine WL.gn rfl L2 rfl ?_
       refine WL.gn rfl L3 rfl ?_
       refine WL.st (R.pkf (.t L4) .c) rfl ?_
       refine WL.as (.t L0) (E1 U5) rfl ?_
       refine WL.nil (QS.next (W.del (.dr (.dr (.dr (.dr (.dr (.dr (.dr (.dr (.dr .rf))))))))) (W.ret (QS.blkr (QS.thenr ?_)))))
       exact QS.fin (.inl rfl) rfl (.tmp L6 .nil) () (congrArg Value.bool (by unfold fieldsS; dsimp only; rw [if_neg hno, if_neg (by omega), if_neg (by omega), if_pos (by omega)]; first | exact (decide_eq_false (by omega)).symm | exact (decide_eq_true (by omega)).symm | exact decide_eq_decide.2 (by omega))) (.dr .nil) (fun _ _ _ => trivial)
     ·
      refine W.region ?_
      refine WL.st (R.eqi (.t L1) .c) rfl ?_
      refine WL.as (.t L0) U1 rfl ?_
      refine WL.nil (QS.next (W.del (.dr .rf) ?_))
      refine W.cd (.t L0) (fun h4 => ?_) (fun h4 => ?_)
      ·
       refine W.del (.dr (.dr .rf)) (W.seq (W.region ?_))
       refine WL.st (R.fa fo_95_1 (.t L3)) rfl ?_
       refine WL.st (R.ld sc_3 (.t L0) H0 rfl) rfl ?_
       refine WL.st (R.geq (.t L0) .c) rfl ?_
       refine WL.st (R.mv (.t L0)) rfl ?_
       refine WL.cd L0 U0 U0 (fun hg68 => ?_) (fun hg68 => ?_)
       ·
        refine WL.gy rfl L0 (R.fa fo_95_1 (.t L7)) rfl ?_
        refine WL.gy rfl L1 (R.ld sc_3 (.t L0) H0 rfl) rfl ?_
        refine WL.gy rfl L2 (R.mv (.t L8)) rfl ?_
        refine WL.gy rfl L3 (R.lss (.t L1) (.t L0)) rfl ?_
        refine WL.st (R.pkt (.t L4) (.t L0)) rfl ?_
        refine WL.as (.t L0) (E1 U5) rfl ?_
        refine WL.nil (QS.next (W.del (.dr (.dr (.dr (.dr (.dr (.dr (.dr (.dr (.dr .rf))))))))) (W.ret (QS.blkr (QS.thenr ?_)))))
        exact QS.fin (.inl rfl) rfl (.tmp L6 .nil) () (congrArg Value.bool (by unfold fieldsS; dsimp only; rw [if_neg hno, if_neg (by omega), if_neg (by omega), if_pos (by omega)]; first | exact (decide_eq_false (by omega)).symm | exact (decide_eq_true (by omega)).symm | exact decide_eq_decide.2 (by omega))) (.dr .nil) (fun _ _ _ => trivial)
       ·
        refine WL.gn rfl L0 rfl ?_
        refine WL.gn rfl L1 rfl ?_
        refine WL.gn rfl L2 rfl ?_
        refine WL.gn rfl L3 rfl ?_
        refine WL.st (R.pkf (.t L4) .c) rfl ?_
        refine WL.as (.t L0) (E1 U5) rfl ?_
        refine WL.nil (QS.next (W.del (.dr (.dr (.dr (.dr (.dr (.dr (.dr (.dr (.dr .rf))))))))) (W.ret (QS.blkr (QS.thenr ?_)))))
        exact QS.fin (.inl rfl) rfl (.tmp L6 .nil) () (congrArg Value.bool (by unfold fieldsS; dsimp only; rw [if_neg hno, if_neg (by omega), if_neg (by omega), if_pos (by omega)]; first | exact (decide_eq_false (by omega)).symm | exact (decide_eq_true (by omega)).symm | exact decide_eq_decide.2 (by omega))) (.dr .nil) (fun _ _ _ => trivial)
      ·
       refine W.del (.dr .rf) (W.seq (W.region ?_))
       refine WL.st (R.eqi (.t L0) .c) rfl ?_
       refine WL.st (R.as (.t L0)) rfl ?_
       refine WL.nil (QS.next (W.del (.kp (.dr .rf)) ?_))
       refine W.cd (.t L0) (fun h5 => ?_) (fun h5 => ?_)
       ·
        refine W.del (.dr (.dr .rf)) (W.seq (W.region ?_))
        refine WL.st (R.fa fo_95_1 (.t L3)) rfl ?_
        refine WL.st (R.ld sc_3 (.t L0) H0 rfl) rfl ?_
        refine WL.st (R.geq (.t L0) .c) rfl ?_
        refine WL.st (R.mv (.t L0)) rfl ?_
        refine WL.cd L0 U0 U0 (fun hg79 => ?_) (fun hg79 => ?_)
        ·
         refine WL.gy rfl L0 (R.fa fo_95_1 (.t L7)) rfl ?_
         refine WL.gy rfl L1 (R.ld sc_3 (.t L0) H0 rfl) rfl ?_
         refine WL.gy rfl L2 (R.mv (.t L7)) rfl ?_
         refine WL.gy rfl L3 (R.lss (.t L1) (.t L0)) rfl ?_
         refine WL.st (R.pkt (.t L4) (.t L0)) rfl ?_
         refine WL.as (.t L0) (E1 U5) rfl ?_
         refine WL.nil (QS.next (W.del (.dr (.dr (.dr (.dr (.dr (.dr (.dr (.dr (.dr .rf))))))))) (W.ret (QS.blkr (QS.thenr ?_)))))
         exact QS.fin (.inl rfl) rfl (.tmp L6 .nil) () (congrArg Value.bool (by unfold fieldsS; dsimp only; rw [if_neg hno, if_neg (by omega), if_neg (by omega), if_neg (by omega), if_pos (by omega)]; first | exact (decide_eq_false (by omega)).symm | exact (decide_eq_true (by omega)).symm | exact decide_eq_decide.2 (by omega))) (.dr .nil) (fun _ _ _ => trivial)
        ·
         refine WL.gn rfl L0 rfl ?_
         refine WL.gn rfl L1 rfl ?_
         refine WL.gn rfl L2 rfl ?_
         refine WL.gn rfl L3 rfl ?_
         refine WL.st (R.pkf (.t L4) .c) rfl ?_
         refine WL.as (.t L0) (E1 U5) rfl ?_
         refine WL.nil (QS.next (W.del (.dr (.dr (.dr (.dr (.dr (.dr (.dr (.dr (.dr .rf))))))))) (W.ret (QS.blkr (QS.thenr ?_)))))
         exact QS.fin (.inl rfl) rfl (.tmp L6 .nil) () (congrArg Value.bool (by unfold fieldsS; dsimp only; rw [if_neg hno, if_neg (by omega), if_neg (by omega), if_neg (by omega), if_pos (by omega)]; first | exact (decide_eq_false (by omega)).symm | exact (decide_eq_true (by omega)).symm | exact decide_eq_decide.2 (by omega))) (.dr .nil) (fun _ _ _ => trivial)
       ·
        refine W.del (.dr .rf) (W.seq (W.region ?_))
        refine WL.st (R.eqi (.t L0) .c) rfl ?_
        refine WL.st (R.as (.t L0)) rfl ?_
        refine WL.nil (QS.next (W.del (.kp (.dr .rf)) ?_))
        refine W.cd (.t L0) (fun h6 => ?_) (fun h6 => ?_)
        ·
         refine W.del (.dr (.dr .rf)) (W.seq (W.region ?_))
         refine WL.st (R.fa fo_95_1 (.t L3)) rfl ?_
         refine WL.st (R.ld sc_3 (.t L0) H0 rfl) rfl ?_
         refine WL.st (R.eqi (.t L0) .c) rfl ?_
         refine WL.st (R.mv (.t L0)) rfl ?_
         refine WL.cd L0 U0 U0 (fun hg90 => ?_) (fun hg90 => ?_)
         ·
          refine WL.gn rfl L0 rfl ?_
          refine WL.gn rfl L1 rfl ?_
          refine WL.gn rfl L2 rfl ?_
          refine WL.st (R.pkt (.t L3) .c) rfl ?_
          refine WL.as (.t L0) (E1 U4) rfl ?_
          refine WL.nil (QS.next (W.del (.dr (.dr (.dr (.dr (.dr (.dr (.dr (.dr .rf)))))))) (W.ret (QS.blkr (QS.thenr ?_)))))
          exact QS.fin (.inl rfl) rfl (.tmp L6 .nil) () (congrArg Value.bool (by unfold fieldsS; dsimp only; rw [if_neg hno, if_neg (by omega), if_neg (by omega), if_neg (by omega), if_neg (by omega), if_pos (by omega)]; first | exact (decide_eq_false (by omega)).symm | exact (decide_eq_true (by omega)).symm | exact decide_eq_decide.2 (by omega))) (.dr .nil) (fun _ _ _ => trivial)
         ·
          refine WL.gy rfl L0 (R.fa fo_95_1 (.t L7)) rfl ?_
          refine WL.gy rfl L1 (R.ld sc_3 (.t L0) H0 rfl) rfl ?_
          refine WL.gy rfl L2 (R.eqi (.t L0) .c) rfl ?_
          refine WL.st (R.pkf (.t L3) (.t L0)) rfl ?_
          refine WL.as (.t L0) (E1 U4) rfl ?_
          refine WL.nil (QS.next (W.del (.dr (.dr (.dr (.dr (.dr (.dr (.dr (.dr .rf)))))))) (W.ret (QS.blkr (QS.thenr ?_)))))
          exact QS.fin (.inl rfl) rfl (.tmp L6 .nil) () (congrArg Value.bool (by unfold fieldsS; dsimp only; rw [if_neg hno, if_neg (by omega), if_neg (by omega), if_neg (by omega), if_neg (by omega), if_pos (by omega)]; first | exact (decide_eq_false (by omega)).symm | exact (decide_eq_true (by omega)).symm | exact decide_eq_decide.2 (by omega))) (.dr .nil) (fun _ _ _ => trivial)
        ·
         refine W.del (.dr .rf) (W.seq (W.region ?_))
         refine WL.st (R.eqi (.t L0) .c) rfl ?_
         refine WL.st (R.as (.t L0)) rfl ?_
         refine WL.nil (QS.next (W.del (.kp (.dr (.dr .rf))) ?_))
         refine W.cd (.t L0) (fun h7 => ?_) (fun h7 => ?_)
         ·
          refine W.del (.dr .rf) (W.seq (W.seq (W.region ?_)))
          refine WL.st (R.fa fo_95_1 (.t L3)) rfl ?_
          refine WL.st (R.ld sc_3 (.t L0) H0 rfl) rfl ?_
          refine WL.st (R.nei (.t L0) .c) rfl ?_
          refine WL.st (R.mv (.t L0)) rfl ?_
          refine WL.cd L0 U0 U0 (fun hg100 => ?_) (fun hg100 => ?_)
          ·
           refine WL.gn rfl L0 rfl ?_
           refine WL.gn rfl L1 rfl ?_
           refine WL.gn rfl L2 rfl ?_
           refine WL.gn rfl L3 rfl ?_
           refine WL.st (R.pkt (.t L4) .c) rfl ?_
           refine WL.st (R.mv (.t L0)) rfl ?_
           refine WL.gn rfl L0 rfl ?_
           refine WL.gn rfl L1 rfl ?_
           refine WL.gn rfl L2 rfl ?_
           refine WL.gn rfl L3 rfl ?_
           refine WL.st (R.pkt (.t L4) .c) rfl ?_
           refine WL.nil (QS.next (W.del (.kp (.dr (.dr (.dr (.dr (.dr (.dr (.dr (.dr (.dr (.dr (.dr (.dr (.dr (.dr .rf))))))))))))))) (W.ct (.t L0) (W.del (.dr .rf) (W.seq (W.region ?_))))))
           refine WL.as .c U6 rfl ?_
           refine WL.nil (QS.next (W.ret (QS.thenr (QS.blkr (QS.thenr ?_)))))
           exact QS.fin (.inl rfl) rfl (.tmp L6 .nil) () (congrArg Value.bool (by unfold fieldsS; dsimp only; rw [if_neg hno, if_neg (by omega), if_neg (by omega), if_neg (by omega), if_neg (by omega), if_neg (by omega), if_pos (by omega), decide_eq_false (by omega), Bool.false_and])) (.dr .nil) (fun _ _ _ => trivial)
          ·
           refine WL.gy rfl L0 (R.fa fo_95_3 (.t L7)) rfl ?_
           refine WL.gy rfl L1 (R.ld sc_37 (.t L0) H0 rfl) rfl ?_
           refine WL.gy rfl L2 (R.lenl sl_37 (.t L0)) rfl ?_
           refine WL.gy rfl L3 (R.lss (.t L0) .c) rfl ?_
           refine WL.st (R.pkf (.t L4) (.t L0)) rfl ?_
           refine WL.st (R.mv (.t L0)) rfl ?_
           refine WL.cd L0 U0 U0 (fun hg106 => ?_) (fun hg106 => ?_)
           ·
            refine WL.gn rfl L0 rfl ?_
            refine WL.gn rfl L1 rfl ?_
            refine WL.gn rfl L2 rfl ?_
            refine WL.gn rfl L3 rfl ?_
            refine WL.st (R.pkt (.t L4) .c) rfl ?_
            refine WL.nil (QS.next (W.del (.kp (.dr (.dr (.dr (.dr (.dr (.dr (.dr (.dr (.dr (.dr (.dr (.dr (.dr (.dr .rf))))))))))))))) (W.ct (.t L0) (W.del (.dr .rf) (W.seq (W.region ?_))))))
            refine WL.as .c U6 rfl ?_
            refine WL.nil (QS.next (W.ret (QS.thenr (QS.blkr (QS.thenr ?_)))))
            exact QS.fin (.inl rfl) rfl (.tmp L6 .nil) () (congrArg Value.bool (by unfold fieldsS; dsimp only; rw [if_neg hno, if_neg (by omega), if_neg (by omega), if_neg (by omega), if_neg (by omega), if_neg (by omega), if_pos (by omega), decide_eq_false (by omega), Bool.false_and])) (.dr .nil) (fun _ _ _ => trivial)
           ·
            refine WL.gy rfl L0 (R.fa fo_95_3 (.t (D1 L3))) rfl ?_
            refine WL.gy rfl L1 (R.ld sc_37 (.t L0) H0 rfl) rfl ?_
            refine WL.gy rfl L2 (R.lenl sl_37 (.t L0)) rfl ?_
            refine WL.gy rfl L3 (R.gtr (.t L0) .c) rfl ?_
            refine WL.st (R.pkf (.t L4) (.t L0)) rfl ?_
            refine WL.nil (QS.next (W.del (.kp (.dr (.dr (.dr (.dr (.dr (.dr (.dr (.dr (.dr (.dr (.dr (.dr (.dr (.dr .rf))))))))))))))) ?_))
            refine W.cd (.t L0) (fun h8 => ?_) (fun h8 => ?_)
            ·
             refine W.del (.dr .rf) (W.seq (W.region ?_))
             refine WL.as .c U6 rfl ?_
             refine WL.nil (QS.next (W.ret (QS.thenr (QS.blkr (QS.thenr ?_)))))
             exact QS.fin (.inl rfl) rfl (.tmp L6 .nil) () (congrArg Value.bool (by unfold fieldsS; dsimp only; rw [if_neg hno, if_neg (by omega), if_neg (by omega), if_neg (by omega), if_neg (by omega), if_neg (by omega), if_pos (by omega), decide_eq_false (by omega), Bool.false_and])) (.dr .nil) (fun _ _ _ => trivial)
            ·
             refine W.del (.dr .rf) (W.skip (QS.next (W.seq (W.seq (W.region ?_)))))
             refine WL.st (R.fa fo_95_3 (.t L3)) rfl ?_
             refine WL.st (R.ld sc_37 (.t L0) H0 rfl) rfl ?_
             refine WL.st (R.lenl sl_37 (.t L0)) rfl ?_
             refine WL.st (R.mv .c) rfl ?_
             refine WL.nil (QS.next (W.del (.kp (.kp (.kp (.dr .rf)))) (W.block ?_)))
             refine W.loop (ι := {j : Nat // j ≤ wd.length ∧ ∀ (i : Nat) y, i < j → wd[i]? = some y → 0 ≤ y ∧ y ≤ 100}) (fun x => [(115, .int .i64 x.1), (114, .int .i64 wd.length), (113, .slice Aw wd.length cw), (6, .bool false)]) (fun x => []) (fun x w => RdI w Aw wd) (fun x => wd.length - x.1) ⟨0, Nat.zero_le _, fun i y h => absurd h (by omega)⟩ (.kp rfl (.kp rfl (.kp rfl (.dr (.dr (.dr (.dr (.dr (.dr (.kp rfl (.dr (.dr (.dr (.dr (.dr .nil))))))))))))))) (.dr .nil) (fun w h hd => h) ?_
             intro x
             obtain ⟨j, hj1, hj2⟩ := x
             show W _ _ _ _ _ [(115, .int .i64 j), (114, .int .i64 wd.length), (113, .slice Aw wd.length cw), (6, .bool false)] [] (fun w => RdI w Aw wd)
             refine W.seq (W.region ?_)
             refine WL.st (R.lss (.t L0) (.t L1)) rfl ?_
             refine WL.nil (QS.next (W.seq ?_))
             refine W.cd (.t L0) (fun h9 => ?_) (fun h9 => ?_)
             ·
              refine W.del (.dr .rf) (W.skip (QS.next (W.seq (W.block (W.seq (W.region ?_))))))
              obtain ⟨x117, hx117⟩ : ∃ x, (wd)[j]? = some x := ⟨_, List.getElem?_eq_getElem (by omega)⟩
              refine WL.st (R.ixI sl_37 (.t L2) rfl (.t L0) (l := wd) (j := j) rfl (List.getElem?_eq_some_iff.1 hx117).1 (fun w hb => hb.get)) rfl ?_
              refine WL.st (R.ldp sc_3 (.t L0) (fun w hb => RdI.cell (hb.get) hx117)) rfl ?_
              refine WL.st (R.as (.t L0)) rfl ?_
              refine WL.nil (QS.next (W.del (.kp (.dr (.dr .rf))) (W.seq (W.region ?_))))
              refine WL.st (R.mv (.t L0)) rfl ?_
              refine WL.st (R.lss (.t L0) .c) rfl ?_
              refine WL.st (R.mv (.t L0)) rfl ?_
              refine WL.cd L0 U0 U0 (fun hg121 => ?_) (fun hg121 => ?_)
              ·
               refine WL.gn rfl L0 rfl ?_
               refine WL.gn rfl L1 rfl ?_
               refine WL.st (R.pkt (.t L2) .c) rfl ?_
               refine WL.nil (QS.next (W.del (.kp (.dr (.dr (.dr (.dr (.dr .rf)))))) (W.ct (.t L0) (W.del (.dr .rf) (W.seq (W.region ?_))))))
               refine WL.as .c U4 rfl ?_
               refine WL.nil (QS.next (W.ret (QS.blkr (QS.thenr (QS.thenr (QS.blkr (QS.thenr (QS.blkr (QS.thenr ?_)))))))))
               exact QS.fin (.inl rfl) rfl (.tmp L4 .nil) () (congrArg Value.bool (by unfold fieldsS; dsimp only; rw [if_neg hno, if_neg (by omega), if_neg (by omega), if_neg (by omega), if_neg (by omega), if_neg (by omega), if_pos (by omega), all_bad hx117 (by omega), Bool.and_false])) .nil (fun _ _ _ => trivial)
              ·
               refine WL.gy rfl L0 (R.mv (.t L3)) rfl ?_
               refine WL.gy rfl L1 (R.gtr (.t L0) .c) rfl ?_
               refine WL.st (R.pkf (.t L2) (.t L0)) rfl ?_
               refine WL.nil (QS.next (W.del (.kp (.dr (.dr (.dr (.dr (.dr .rf)))))) ?_))
               refine W.cd (.t L0) (fun h10 => ?_) (fun h10 => ?_)
               ·
                refine W.del (.dr .rf) (W.seq (W.region ?_))
                refine WL.as .c U4 rfl ?_
                refine WL.nil (QS.next (W.ret (QS.blkr (QS.thenr (QS.thenr (QS.blkr (QS.thenr (QS.blkr (QS.thenr ?_)))))))))
                exact QS.fin (.inl rfl) rfl (.tmp L4 .nil) () (congrArg Value.bool (by unfold fieldsS; dsimp only; rw [if_neg hno, if_neg (by omega), if_neg (by omega), if_neg (by omega), if_neg (by omega), if_neg (by omega), if_pos (by omega), all_bad hx117 (by omega), Bool.and_false])) .nil (fun _ _ _ => trivial)
               ·
                refine W.del (.dr .rf) (W.skip (QS.blkn (QS.next (W.region ?_))))
                refine WL.st (R.add (.t L1) .c (wi (by omega) (by omega))) rfl ?_
                refine WL.up (R.mv (.t L0)) U2 rfl ?_
                refine WL.nil ?_
                exact QS.at ⟨j + 1, by omega, good_snoc hj2 hx117 (by omega)⟩ (by dsimp only; omega) (.dr (.dr (.kp rfl (.kp rfl (.kp rfl (.kp rfl .nil)))))) .nil (fun w h hd => h)
             ·
              refine W.del (.dr .rf) (W.exit (QS.thenx (QS.thenx (QS.blkx (QS.next (W.del (.dr (.dr (.dr .rf))) (W.seq (W.region ?_))))))))
              refine WL.as .c U0 rfl ?_
              refine WL.nil (QS.next (W.ret (QS.blkr (QS.thenr ?_))))
              exact QS.fin (.inl rfl) rfl (.tmp L0 .nil) () (congrArg Value.bool (by unfold fieldsS; dsimp only; rw [if_neg hno, if_neg (by omega), if_neg (by omega), if_neg (by omega), if_neg (by omega), if_neg (by omega), if_pos (by omega), all_good (fun i y hi => hj2 i y (by omega)), decide_eq_true (by omega)]; rfl)) .nil (fun _ _ _ => trivial)
         ·
          refine W.del (.dr .rf) (W.skip (QS.blkn (QS.next (W.seq (W.region ?_)))))
          refine WL.st (R.mv (.t L7)) rfl ?_
          refine WL.st (R.geq (.t L0) .c) rfl ?_
          refine WL.st (R.mv (.t L0)) rfl ?_
          refine WL.cd L0 U0 U0 (fun hg128 => ?_) (fun hg128 => ?_)
          ·
           refine WL.gy rfl L0 (R.mv (.t (D1 L0))) rfl ?_
           refine WL.gy rfl L1 (R.leq (.t L0) .c) rfl ?_
           refine WL.st (R.pkt (.t L2) (.t L0)) rfl ?_
           refine WL.st (R.mv (.t L0)) rfl ?_
           refine WL.cd L0 U0 U0 (fun hg132 => ?_) (fun hg132 => ?_)
           ·
            refine WL.gy rfl L0 (R.fa fo_95_1 (.t (D1 L0))) rfl ?_
            refine WL.gy rfl L1 (R.ld sc_3 (.t L0) H0 rfl) rfl ?_
            refine WL.gy rfl L2 (R.eqi (.t L0) .c) rfl ?_
            refine WL.st (R.pkt (.t L3) (.t L0)) rfl ?_
            refine WL.as (.t L0) (E1 U7) rfl ?_
            refine WL.nil (QS.next (W.del (.dr (.dr (.dr (.dr (.dr (.dr (.dr (.dr (.dr (.dr (.dr .rf))))))))))) (W.ret ?_)))
            exact QS.fin (.inl rfl) rfl (.tmp L6 .nil) () (congrArg Value.bool (by unfold fieldsS; dsimp only; rw [if_neg hno, if_neg (by omega), if_neg (by omega), if_neg (by omega), if_neg (by omega), if_neg (by omega), if_neg (by omega)]; first | exact (decide_eq_false (by omega)).symm | exact (decide_eq_true (by omega)).symm | exact decide_eq_decide.2 (by omega))) (.dr .nil) (fun _ _ _ => trivial)
           ·
            refine WL.gn rfl L0 rfl ?_
            refine WL.gn rfl L1 rfl ?_
            refine WL.gn rfl L2 rfl ?_
            refine WL.st (R.pkf (.t L3) .c) rfl ?_
            refine WL.as (.t L0) (E1 U7) rfl ?_
            refine WL.nil (QS.next (W.del (.dr (.dr (.dr (.dr (.dr (.dr (.dr (.dr (.dr (.dr (.dr .rf))))))))))) (W.ret ?_)))
            exact QS.fin (.inl rfl) rfl (.tmp L6 .nil) () (congrArg Value.bool (by unfold fieldsS; dsimp only; rw [if_neg hno, if_neg (by omega), if_neg (by omega), if_neg (by omega), if_neg (by omega), if_neg (by omega), if_neg (by omega)]; first | exact (decide_eq_false (by omega)).symm | exact (decide_eq_true (by omega)).symm | exact decide_eq_decide.2 (by omega))) (.dr .nil) (fun _ _ _ => trivial)
          ·
           refine WL.gn rfl L0 rfl ?_
           refine WL.gn rfl L1 rfl ?_
           refine WL.st (R.pkf (.t L2) .c) rfl ?_
           refine WL.st (R.mv (.t L0)) rfl ?_
           refine WL.gn rfl L0 rfl ?_
           refine WL.gn rfl L1 rfl ?_
           refine WL.gn rfl L2 rfl ?_
           refine WL.st (R.pkf (.t L3) .c) rfl ?_
           refine WL.as (.t L0) (E1 U7) rfl ?_
           refine WL.nil (QS.next (W.del (.dr (.dr (.dr (.dr (.dr (.dr (.dr (.dr (.dr (.dr (.dr .rf))))))))))) (W.ret ?_)))
           exact QS.fin (.inl rfl) rfl (.tmp L6 .nil) () (congrArg Value.bool (by unfold fieldsS; dsimp only; rw [if_neg hno, if_neg (by omega), if_neg (by omega), if_neg (by omega), if_neg (by omega), if_neg (by omega), if_neg (by omega)]; first | exact (decide_eq_false (by omega)).symm | exact (decide_eq_true (by omega)).symm | exact decide_eq_decide.2 (by omega))) (.dr .nil) (fun _ _ _ => trivial)

theorem dec_X {b s : List UInt8} (h : (decS b s).2.2 = 0) : textsT (decS b s).1 ≤ s.length ∧ ∀ o ∈ (decS b s).1, o.widths.length ≤ 1000000 := by
  unfold decS at h ⊢
  by_cases hi : (instrsS b).2.2 = 0
  · rw [if_neg (by simpa using hi)] at h ⊢
    have hX := instrs_X b
    have hne : (instrsS b).1 ≠ [] := fun h => first_15 hi (by rw [h]; rfl)
    have hcount := dec_count (instrsS b).1 s hX.1 (hX.2 hi) hne h
    refine ⟨by omega, ?_⟩
    have hw : ∀ (l : List InstrS) (s : List UInt8) (out : List OpS), (∀ i ∈ l, i.widths.length ≤ 1000000) → (∀ o ∈ out, o.widths.length ≤ 1000000) → ∀ o ∈ (decF l s out).1, o.widths.length ≤ 1000000 := by
      intro l
      induction l with
      | nil => intro s out _ ho; exact ho
      | cons i r ih =>
        intro s out hi ho
        have hr : ∀ j ∈ r, j.widths.length ≤ 1000000 := fun j hj => hi j (List.mem_cons_of_mem _ hj)
        have ha : ∀ o : OpS, o.widths.length ≤ 1000000 → ∀ q ∈ out ++ [o], q.widths.length ≤ 1000000 := fun o h q hq => by
          rcases List.mem_append.1 hq with hq | hq
          · exact ho q hq
          · rw [List.mem_singleton.1 hq]; exact h
        unfold decF
        split
        · split
          · exact fun o h => absurd h (by simp)
          · exact ih s out hr ho
        · split
          · split
            · exact fun o h => absurd h (by simp)
            · exact ih _ _ hr (ha _ (Nat.zero_le _))
          · exact ih _ _ hr (ha _ (hi i (List.mem_cons_self ..)))
    exact hw _ _ _ (fun i hi => by have := (instrs_L b i hi).wl; omega) (fun o h => absurd h (by simp))
  · rw [if_pos hi] at h; exact absurd h hi

theorem step_len {m : MachS} {k wl : Int} : (machStep m k wl).2.braces.length ≤ m.braces.length + 1 ∧ (machStep m k wl).2.open_.length ≤ m.open_.length + 1 := by
  unfold machStep
  dsimp only
  split
  · unfold inlineS
    repeat' split
    all_goals (dsimp only; first | (constructor <;> omega) | (constructor <;> simp <;> omega))
  · unfold blockS
    repeat' split
    all_goals (dsimp only; first | (constructor <;> omega) | (constructor <;> simp <;> omega))
theorem textsT_snoc {l : List OpS} {j : Nat} {o : OpS} (h : l[j]? = some o) : textsT (l.take (j + 1)) = textsT (l.take j) + o.text.length := by
  unfold textsT
  rw [take_push h]; simp
theorem textsT_le {l : List OpS} {j : Nat} : textsT (l.take j) ≤ textsT l := by
  have h : l = l.take j ++ l.drop j := (List.take_append_drop j l).symm
  unfold textsT
  conv => rhs; rw [h]
  rw [List.flatMap_append, List.length_append]
  omega
theorem textsT_one {l : List OpS} {j : Nat} {o : OpS} (h : l[j]? = some o) : o.text.length ≤ textsT l := by
  have h1 := textsT_snoc h
  have h2 := textsT_le (l := l) (j := j + 1)
  omega

set_option maxHeartbeats 1000000 in
theorem ref11_Check {A : Option Addr} {M : List (OpS × Option Addr × Nat)} {c : Nat} {sty tp : Int} (hM : M.length ≤ 140737488351232) (hT : textsT (M.map (·.1)) ≤ 140737488355328) (hW : ∀ q ∈ M, q.1.widths.length ≤ 1000000) {C : Cx} (hb : Hb C C.w0 [] (fun w => RdF ocell 4 w A M ∧ ∀ q ∈ M, RdI w q.2.1 q.1.widths)) :
    Sp Tryd.prog 25 [.slice A M.length c, .int .i64 sty, .int .i64 tp] C (ι := {p : Int × Int // p.2 = 0 ↔ chk11 (M.map (·.1)) sty tp = true}) (fun x => .tuple #[.int .i64 x.1.1, .int .i64 x.1.2]) (fun _ => []) (fun _ _ => True) := by
 refine Sp.enter (N := 60) (e := entryEnv [.slice A M.length c, .int .i64 sty, .int .i64 tp] 0 14) Tryd.func25 rfl rfl (Nat.le_of_ble_eq_true rfl) (entry_ok (Nat.le_of_ble_eq_true rfl) (Nat.le_of_ble_eq_true rfl)) (entry_nd _ _) hb ?_
 show W _ _ _ _ _ [(0, .slice A M.length c), (1, .int .i64 sty), (2, .int .i64 tp), (3, undef), (4, undef), (5, undef), (6, undef), (7, undef), (8, undef), (9, undef), (10, undef), (11, undef), (12, undef), (13, undef)] _ _
 refine W.seq (W.region ?_)
 refine WL.as .c U6 rfl ?_
 refine WL.as .c U7 rfl ?_
 refine WL.nil (QS.next (W.seq (W.region ?_)))
 refine WL.as .c U8 rfl ?_
 refine WL.nil (QS.next (W.seq (W.seq (W.region ?_))))
 refine WL.st (R.mv (.t L0)) rfl ?_
 refine WL.st (R.lenl sl_47 (.t L0)) rfl ?_
 refine WL.st (R.mv .c) rfl ?_
 refine WL.nil (QS.next (W.block ?_))
 refine W.loop (ι := {j : Nat // j ≤ M.length}) (fun x => [(16, .int .i64 x.1), (15, .int .i64 M.length), (14, .slice A M.length c), (0, .slice A M.length c), (1, .int .i64 sty), (2, .int .i64 tp), (6, .int .i64 0), (7, .int .i64 0), (8, .int .i64 (textsT ((M.map (·.1)).take x.1) : Nat))]) (fun x => []) (fun x w => RdF ocell 4 w A M ∧ (∀ q ∈ M, RdI w q.2.1 q.1.widths)) (fun x => M.length - x.1) ⟨0, Nat.zero_le _⟩ (.kp rfl (.kp rfl (.kp rfl (.kp rfl (.kp rfl (.kp rfl (.dr (.dr (.dr (.kp rfl (.kp rfl (.kp rfl (.dr (.dr (.dr (.dr (.dr .nil))))))))))))))))) .nil (fun w h hd => ⟨h.1, h.2⟩) ?_
 intro x
 obtain ⟨j, hj⟩ := x
 have hle := textsT_le (l := (M.map (·.1))) (j := j)
 show W _ _ _ _ _ [(16, .int .i64 j), (15, .int .i64 M.length), (14, .slice A M.length c), (0, .slice A M.length c), (1, .int .i64 sty), (2, .int .i64 tp), (6, .int .i64 0), (7, .int .i64 0), (8, .int .i64 (textsT ((M.map (·.1)).take j) : Nat))] [] (fun w => RdF ocell 4 w A M ∧ (∀ q ∈ M, RdI w q.2.1 q.1.widths))
 refine W.seq (W.region ?_)
 refine WL.st (R.lss (.t L0) (.t L1)) rfl ?_
 refine WL.nil (QS.next (W.seq ?_))
 refine W.cd (.t L0) (fun h0 => ?_) (fun h0 => ?_)
 ·
  refine W.del (.dr .rf) (W.skip (QS.next (W.seq (W.block (W.seq (W.region ?_))))))
  obtain ⟨x18, hx18⟩ : ∃ x, (M)[j]? = some x := ⟨_, List.getElem?_eq_getElem (by omega)⟩
  have hto := textsT_one (map_get (f := fun x : OpS × Option Addr × Nat => x.1) hx18)
  refine WL.st (R.ixF sl_47 (.t L2) rfl (.t L0) (l := M) (j := j) rfl (List.getElem?_eq_some_iff.1 hx18).1 (by decide) (fun w hb => hb.get.1)) rfl ?_
  refine WL.st (R.ldpF ag_95 (.t L0) (j := j) (k := 0) (fun w hb => hb.get.1) hx18 (by repeat constructor) (by decide)) rfl ?_
  refine WL.alloc z_95 rfl (fun g10 => ?_)
  refine WL.sto sz_95 (.t L0) (.t L1) rfl rfl rfl C0 (by repeat constructor) ?_
  refine WL.nil (QS.next (W.del (.kp (.dr (.dr .rf))) (W.region ?_)))
  refine WL.st (R.mv (.t L9)) rfl ?_
  refine WL.st (R.fa fo_95_2 (.t L1)) rfl ?_
  refine WL.st (R.ld sc_9 (.t L0) H0 rfl) rfl ?_
  refine WL.st (R.lens st_9 (.t L0)) rfl ?_
  refine WL.st (R.add (.t L3) (.t L0) (wi (by omega) (by omega))) rfl ?_
  refine WL.as (.t L0) (E1 U4) rfl ?_
  refine WL.nil (QS.blkn (QS.next (W.del (.dr (.dr (.dr (.dr (.dr .rf))))) (W.region ?_))))
  refine WL.st (R.add (.t L1) .c (wi (by omega) (by omega))) rfl ?_
  refine WL.up (R.mv (.t L0)) U2 rfl ?_
  refine WL.nil ?_
  exact QS.at ⟨j + 1, by omega⟩ (by dsimp only; omega) (.dr (.dr (.kp rfl (.kp rfl (.kp rfl (.kp rfl (.kp rfl (.kp rfl (.kp rfl (.kp rfl (.kp (congrArg (Value.int .i64) (by rw [textsT_snoc (map_get hx18)]; simp)) .nil))))))))))) (.dr .nil) (fun w h hd => ⟨h.1, h.2⟩)
 ·
  refine W.del (.dr .rf) (W.exit (QS.thenx (QS.thenx (QS.blkx (QS.next (W.del (.dr (.dr (.dr .rf))) (W.seq (W.seq ?_))))))))
  have htk : textsT ((M.map (·.1)).take j) = textsT (M.map (·.1)) := by rw [List.take_of_length_le (by simp; omega)]
  refine W.region ?_
  refine WL.st (R.mv (.t L0)) rfl ?_
  refine WL.st (R.lenl sl_47 (.t L0)) rfl ?_
  refine WL.st (R.gtr (.t L0) .c) rfl ?_
  refine WL.st (R.mv (.t L0)) rfl ?_
  refine WL.cd L0 U0 U0 (fun hg29 => ?_) (fun hg29 => ?_)
  ·
   refine WL.gn rfl L0 rfl ?_
   refine WL.gn rfl L1 rfl ?_
   refine WL.st (R.pkt (.t L2) .c) rfl ?_
   refine WL.nil (QS.next (W.del (.kp (.dr (.dr (.dr (.dr (.dr (.dr .rf))))))) (W.ct (.t L0) (W.del (.dr .rf) (W.seq (W.region ?_))))))
   refine WL.as .c U3 rfl ?_
   refine WL.as .c U4 rfl ?_
   refine WL.nil (QS.next (W.ret (QS.thenr ?_)))
   exact QS.fin (.inl rfl) rfl (.tmp L3 (.tmp L4 .nil)) ⟨(0, 2), ⟨fun h => absurd (show (2 : Int) = 0 from h) (by decide), fun h => by have h1 := (Bool.and_eq_true _ _ ▸ h).1; have h2 := of_decide_eq_true h1; simp at h2; omega⟩⟩ rfl .nil (fun _ _ _ => trivial)
  ·
   refine WL.gy rfl L0 (R.mv (.t L9)) rfl ?_
   refine WL.gy rfl L1 (R.gtr (.t L0) .c) rfl ?_
   refine WL.st (R.pkf (.t L2) (.t L0)) rfl ?_
   refine WL.nil (QS.next (W.del (.kp (.dr (.dr (.dr (.dr (.dr (.dr .rf))))))) ?_))
   refine W.cd (.t L0) (fun h1 => ?_) (fun h1 => ?_)
   ·
    refine W.del (.dr .rf) (W.seq (W.region ?_))
    refine WL.as .c U3 rfl ?_
    refine WL.as .c U4 rfl ?_
    refine WL.nil (QS.next (W.ret (QS.thenr ?_)))
    exact QS.fin (.inl rfl) rfl (.tmp L3 (.tmp L4 .nil)) ⟨(0, 2), ⟨fun h => absurd (show (2 : Int) = 0 from h) (by decide), fun h => by have h1 := (Bool.and_eq_true _ _ ▸ h).1; have h2 := of_decide_eq_true h1; simp at h2; omega⟩⟩ rfl .nil (fun _ _ _ => trivial)
   ·
    refine W.del (.dr .rf) (W.skip (QS.next (W.seq ?_)))
    refine W.nilrow 159 5 ?_
    refine W.nilrow 4 1 ?_
    have hsz : (M.map (·.1)).length ≤ 65536 ∧ textsT (M.map (·.1)) ≤ 16384 := ⟨by rw [List.length_map]; omega, by omega⟩
    have hchk : chk11 (M.map (·.1)) sty tp = chkGo sty tp (M.map (·.1)) mach0 := by rw [chk11, decide_eq_true hsz, Bool.true_and]
    refine W.region ?_
    refine WL.st (R.bld (z := [.bool false, .slice none 0 0, .slice none 0 0, .bool false]) Tryd.underlying102 (by kernel_rfl) z_102 .nil) rfl ?_
    refine WL.box (.t L0) rfl rfl (fun g34 => ?_)
    refine WL.st (R.as (.t L0)) rfl ?_
    refine WL.nil (QS.next (W.del (.kp (.dr (.dr .rf))) (W.seq (W.seq (W.region ?_)))))
    refine WL.st (R.mv (.t L1)) rfl ?_
    refine WL.st (R.lenl sl_47 (.t L0)) rfl ?_
    refine WL.st (R.mv .c) rfl ?_
    refine WL.nil (QS.next (W.block ?_))
    refine W.loop (ι := {p : (MachS × Nat) × (Option Addr × Nat) × Option Addr × Nat // p.1.2 ≤ M.length ∧ chkGo sty tp ((M.map (·.1)).drop p.1.2) p.1.1 = chkGo sty tp (M.map (·.1)) mach0 ∧ LvB p.1.1 p.1.2 ∧ p.1.1.braces.length ≤ p.1.2 ∧ p.1.1.open_.length ≤ p.1.2}) (fun x => [(37, .int .i64 (x.1.1.2 : Nat)), (36, .int .i64 M.length), (35, .slice A M.length c), (11, .pointer (some ⟨g34, 0, none⟩)), (0, .slice A M.length c), (1, .int .i64 sty), (2, .int .i64 tp), (6, .int .i64 0), (7, .int .i64 0)]) (fun x => [blk g34 102 [.bool x.1.1.1.para, .slice x.1.2.1.1 x.1.1.1.braces.length x.1.2.1.2, .slice x.1.2.2.1 x.1.1.1.open_.length x.1.2.2.2, .bool x.1.1.1.text], .row (.slice x.1.2.1.1 x.1.1.1.braces.length x.1.2.1.2) 4 1 x.1.1.1.braces.length (flat bo1 x.1.1.1.braces), .row (.slice x.1.2.2.1 x.1.1.1.open_.length x.1.2.2.2) 159 5 x.1.1.1.open_.length (flat lv5 x.1.1.1.open_)]) (fun x w => RdF ocell 4 w A M ∧ (∀ q ∈ M, RdI w q.2.1 q.1.widths)) (fun x => M.length - x.1.1.2) ⟨((mach0, 0), (none, 0), none, 0), Nat.zero_le _, rfl, fun l hl => absurd hl (by simp [mach0]), Nat.le_refl _, Nat.le_refl _⟩ (.kp rfl (.kp rfl (.kp rfl (.kp rfl (.kp rfl (.kp rfl (.kp rfl (.kp rfl (.kp rfl (.dr .nil)))))))))) (.kp rfl (.kp rfl (.kp rfl .nil))) (fun w h hd => ⟨h.1, h.2⟩) ?_
    intro x
    obtain ⟨⟨⟨m, j⟩, ⟨Ab, cb⟩, Ao, co⟩, hi1, hi2, hi3, hi4, hi5⟩ := x
    dsimp only at hi1 hi2 hi3 hi4 hi5
    have hML : M.length ≤ 65536 := by have := hsz.1; simpa using this
    show W _ _ _ _ _ [(37, .int .i64 (j : Nat)), (36, .int .i64 M.length), (35, .slice A M.length c), (11, .pointer (some ⟨g34, 0, none⟩)), (0, .slice A M.length c), (1, .int .i64 sty), (2, .int .i64 tp), (6, .int .i64 0), (7, .int .i64 0)] [blk g34 102 [.bool m.para, .slice Ab m.braces.length cb, .slice Ao m.open_.length co, .bool m.text], .row (.slice Ab m.braces.length cb) 4 1 m.braces.length (flat bo1 m.braces), .row (.slice Ao m.open_.length co) 159 5 m.open_.length (flat lv5 m.open_)] (fun w => RdF ocell 4 w A M ∧ (∀ q ∈ M, RdI w q.2.1 q.1.widths))
    refine W.seq (W.region ?_)
    refine WL.st (R.lss (.t L0) (.t L1)) rfl ?_
    refine WL.nil (QS.next (W.seq ?_))
    refine W.cd (.t L0) (fun h2 => ?_) (fun h2 => ?_)
    ·
     refine W.del (.dr .rf) (W.skip (QS.next (W.seq (W.block (W.seq (W.region ?_))))))
     refine WL.st (R.mv (.t L0)) rfl ?_
     obtain ⟨x40, hx40⟩ : ∃ x, (M)[j]? = some x := ⟨_, List.getElem?_eq_getElem (by omega)⟩
     have hto := textsT_one (map_get (f := fun x : OpS × Option Addr × Nat => x.1) hx40)
     have hwo := hW x40 (List.mem_of_getElem? hx40)
     have hsz2 := hsz.2
     refine WL.st (R.ixF sl_47 (.t L3) rfl (.t L1) (l := M) (j := j) rfl (List.getElem?_eq_some_iff.1 hx40).1 (by decide) (fun w hb => hb.get.1)) rfl ?_
     refine WL.st (R.ldpF ag_95 (.t L0) (j := j) (k := 0) (fun w hb => hb.get.1) hx40 (by repeat constructor) (by decide)) rfl ?_
     refine WL.alloc z_95 rfl (fun g13 => ?_)
     refine WL.st (R.as (.t L3)) rfl ?_
     refine WL.sto sz_95 (.t L1) (.t L2) rfl rfl rfl C0 (by repeat constructor) ?_
     refine WL.nil (QS.next (W.del (.kp (.kp (.dr (.dr (.dr .rf))))) (W.seq (W.region ?_))))
     refine WL.st (R.lda ag_95 (.t L1) H0 (by repeat constructor)) rfl ?_
     refine WL.st (R.mv (.t L8)) rfl ?_
     refine WL.st (R.mv (.t (D1 L0))) rfl ?_
     refine WL.callr gf_47 .f (.cons (.t L2) (.cons (.t L1) (.cons (.t L0) .nil))) (fun w hb => (ref11_fields (k := x40.1.kind) (n := x40.1.n) (tt := x40.1.text) (wd := x40.1.widths) (by omega) (by omega) (hb.imp fun _ h => h.2 x40 (List.mem_of_getElem? hx40)))) rfl ?_
     refine WL.st (R.notb (.t L0)) rfl ?_
     refine WL.st (R.mv (.t L0)) rfl ?_
     refine WL.cb L0 U0 U0 (fun hg47 => ?_) (fun hg47 => ?_)
     ·
      refine WL.gn rfl L0 rfl ?_
      refine WL.gn rfl L1 rfl ?_
      refine WL.gn rfl L2 rfl ?_
      refine WL.gn rfl L3 rfl ?_
      refine WL.st (R.pkt (.t L4) .c) rfl ?_
      refine WL.nil (QS.next (W.del (.kp (.dr (.dr (.dr (.dr (.dr (.dr (.dr (.dr (.dr (.dr .rf))))))))))) (W.ct (.t L0) (W.del (.dr .rf) (W.seq (W.region ?_))))))
      refine WL.st (R.mv (.t L0)) rfl ?_
      refine WL.as (.t L0) (E1 U0) rfl ?_
      refine WL.as .c (E1 U1) rfl ?_
      refine WL.nil (QS.next (W.del (.dr .rf) (W.ret (QS.blkr (QS.thenr (QS.thenr (QS.blkr (QS.thenr ?_))))))))
      have hbad : chk11 (M.map (·.1)) sty tp = false := by
        rw [hchk, ← hi2, drop_at (map_get hx40), chkGo]
        first
          | (have e1 : fieldsS x40.1 sty tp = false := by simpa using hg47
             rw [e1]; rfl)
          | (have e2 : (machStep m x40.1.kind x40.1.widths.length).1 = false := by simpa using h3
             rw [e2]; simp)
      exact QS.fin (.inl rfl) rfl (.tmp L9 (.tmp (D1 L0) .nil)) ⟨((j : Int), 110), ⟨fun h => absurd (show (110 : Int) = 0 from h) (by decide), fun h => by rw [hbad] at h; cases h⟩⟩ rfl (.dr (.dr (.dr (.dr .nil)))) (fun _ _ _ => trivial)
     ·
      refine WL.gy rfl L0 (R.mv (.t (D1 L1))) rfl ?_
      refine WL.gy rfl L1 (R.lda ag_95 (.t L8) H0 (by repeat constructor)) rfl ?_
      refine WL.gyw rfl L2 ?_
      refine WL.call gf_48 .f (.cons (.t L1) (.cons (.t L0) .nil)) (.dr (.kp rfl (.kp rfl (.kp rfl .nil)))) (fun w hb => (mach_Step (by omega) (by omega) hwo (fun l hl => by have := hi3 l hl; omega) (hb.imp fun _ _ => trivial))) rfl (fun x50 => ?_)
      refine WL.gy rfl L3 (R.notb (.t L0)) rfl ?_
      refine WL.st (R.pkf (.t L4) (.t L0)) rfl ?_
      refine WL.nil (QS.next (W.del (.kp (.dr (.dr (.dr (.dr (.dr (.dr (.dr (.dr (.dr (.dr .rf))))))))))) ?_))
      refine W.cb (.t L0) (fun h3 => ?_) (fun h3 => ?_)
      ·
       refine W.del (.dr .rf) (W.seq (W.region ?_))
       refine WL.st (R.mv (.t L0)) rfl ?_
       refine WL.as (.t L0) (E1 U0) rfl ?_
       refine WL.as .c (E1 U1) rfl ?_
       refine WL.nil (QS.next (W.del (.dr .rf) (W.ret (QS.blkr (QS.thenr (QS.thenr (QS.blkr (QS.thenr ?_))))))))
       have hbad : chk11 (M.map (·.1)) sty tp = false := by
         rw [hchk, ← hi2, drop_at (map_get hx40), chkGo]
         first
           | (have e1 : fieldsS x40.1 sty tp = false := by simpa using hg47
              rw [e1]; rfl)
           | (have e2 : (machStep m x40.1.kind x40.1.widths.length).1 = false := by simpa using h3
              rw [e2]; simp)
       exact QS.fin (.inl rfl) rfl (.tmp L9 (.tmp (D1 L0) .nil)) ⟨((j : Int), 110), ⟨fun h => absurd (show (110 : Int) = 0 from h) (by decide), fun h => by rw [hbad] at h; cases h⟩⟩ rfl (.dr (.dr (.dr (.dr .nil)))) (fun _ _ _ => trivial)
      ·
       refine W.del (.dr .rf) (W.skip (QS.blkn (QS.next (W.region ?_))))
       refine WL.st (R.add (.t L2) .c (wi (by omega) (by omega))) rfl ?_
       refine WL.up (R.mv (.t L0)) U3 rfl ?_
       refine WL.nil ?_
       have hsl := step_len (m := m) (k := x40.1.kind) (wl := x40.1.widths.length)
       have hlv := lvb_step (m := m) (kind := x40.1.kind) (wl := x40.1.widths.length) (x := (j : Int)) (by omega) hi3
       have hgo : chkGo sty tp ((M.map (·.1)).drop (j + 1)) (machStep m x40.1.kind x40.1.widths.length).2 = chkGo sty tp (M.map (·.1)) mach0 := by
         rw [← hi2, drop_at (map_get hx40), chkGo]
         have e1 : fieldsS x40.1 sty tp = true := by simpa using hg47
         have e2 : (machStep m x40.1.kind x40.1.widths.length).1 = true := by simpa using h3
         rw [e1, e2]; rfl
       exact QS.at ⟨(((machStep m x40.1.kind x40.1.widths.length).2, j + 1), x50.1, x50.2), by dsimp only; omega, hgo, by rw [show ((j + 1 : Nat) : Int) = (j : Int) + 1 by omega]; exact hlv, by dsimp only; omega, by dsimp only; omega⟩ (show M.length - (j + 1) < M.length - j by omega) (.dr (.dr (.dr (.kp rfl (.kp rfl (.kp rfl (.kp rfl (.kp rfl (.kp rfl (.kp rfl (.kp rfl (.kp rfl .nil)))))))))))) (.kp rfl (.kp rfl (.kp rfl (.dr .nil)))) (fun w h hd => ⟨h.1.1, h.1.2⟩)
    ·
     refine W.del (.dr .rf) (W.exit (QS.thenx (QS.thenx (QS.blkx (QS.next (W.del (.dr (.dr (.dr .rf))) (W.seq (W.seq ?_))))))))
     have hend : chk11 (M.map (·.1)) sty tp = m.done := by rw [hchk, ← hi2, List.drop_eq_nil_of_le (by simp; omega), chkGo]
     refine W.region ?_
     refine WL.st (R.mv (.t L0)) rfl ?_
     refine WL.call gf_49 .f (.cons (.t L0) .nil) (.kp rfl (.kp rfl (.kp rfl .nil))) (fun w hb => (mach_Done (by omega) (by omega) (hb.imp fun _ _ => trivial))) rfl (fun x56 => ?_)
     refine WL.st (R.notb (.t L0)) rfl ?_
     refine WL.nil (QS.next (W.del (.kp (.dr (.dr .rf))) ?_))
     refine W.cb (.t L0) (fun h4 => ?_) (fun h4 => ?_)
     ·
      refine W.del (.dr .rf) (W.seq (W.region ?_))
      refine WL.st (R.mv (.t L1)) rfl ?_
      refine WL.st (R.lenl sl_47 (.t L0)) rfl ?_
      refine WL.as (.t L0) U6 rfl ?_
      refine WL.as .c U7 rfl ?_
      refine WL.nil (QS.next (W.del (.dr (.dr .rf)) (W.ret (QS.thenr ?_))))
      have hdn : m.done = false := by simpa using h4
      exact QS.fin (.inl rfl) rfl (.tmp L4 (.tmp L5 .nil)) ⟨((M.length : Int), 110), ⟨fun h => absurd (show (110 : Int) = 0 from h) (by decide), fun h => by rw [hend, hdn] at h; cases h⟩⟩ rfl (.dr (.dr (.dr .nil))) (fun _ _ _ => trivial)
     ·
      refine W.del (.dr .rf) (W.skip (QS.next (W.seq (W.region ?_))))
      refine WL.as .c U4 rfl ?_
      refine WL.as .c U5 rfl ?_
      refine WL.nil (QS.next (W.ret ?_))
      have hdn : m.done = true := by simpa using h4
      exact QS.fin (.inl rfl) rfl (.tmp L4 (.tmp L5 .nil)) ⟨(0, 0), ⟨fun _ => by rw [hend, hdn], fun _ => rfl⟩⟩ rfl (.dr (.dr (.dr .nil))) (fun _ _ _ => trivial)

theorem law17_CheckOps {A : Option Addr} {b s : List UInt8} {c : Nat} {sty tp : Int} (hc : b.length ≤ c) (hl : b.length ≤ 140737488355328) (hs : s.length ≤ 140737488355328) {C : Cx} (hb : Hb C C.w0 [] (fun w => RdB w A b ∧ Lib.Utf8Tabs 4 5 w)) :
    Ret Tryd.prog 5 [.slice A b.length c, str s, .int .i64 sty, .int .i64 tp] C (.bool true) := by
 refine Sp.enter (N := 52) (e := entryEnv [.slice A b.length c, str s, .int .i64 sty, .int .i64 tp] 0 17) Tryd.func5 rfl rfl (Nat.le_of_ble_eq_true rfl) (entry_ok (Nat.le_of_ble_eq_true rfl) (Nat.le_of_ble_eq_true rfl)) (entry_nd _ _) hb ?_
 show W _ _ _ _ _ [(0, .slice A b.length c), (1, str s), (2, .int .i64 sty), (3, .int .i64 tp), (4, undef), (5, undef), (6, undef), (7, undef), (8, undef), (9, undef), (10, undef), (11, undef), (12, undef), (13, undef), (14, undef), (15, undef), (16, undef)] _ _
 refine W.seq (W.region ?_)
 refine WL.as .c U8 rfl ?_
 refine WL.nil (QS.next (W.seq (W.seq (W.region ?_))))
 refine WL.callr gf_11 .f .nil (fun w hb => (law17_awake (hb.imp fun _ h => h.2))) rfl ?_
 refine WL.st (R.notb (.t L0)) rfl ?_
 refine WL.nil (QS.next (W.del (.kp (.dr .rf)) (W.cf (.t L0) (W.del (.dr .rf) (W.skip (QS.next (W.seq (W.region ?_))))))))
 refine WL.st (R.mv (.t L0)) rfl ?_
 refine WL.call gf_13 .f (.cons (.t L0) .nil) .nil (fun w hb => (law_twin (by omega) (hb.imp fun _ h => h.1))) rfl (fun x21 => ?_)
 obtain ⟨⟨A21, c21⟩, hc21⟩ := x21
 refine WL.st (R.mv (.t L3)) rfl ?_
 refine WL.st (R.mv (.t L5)) rfl ?_
 refine WL.st (R.mv (.t L7)) rfl ?_
 refine WL.callr gf_12 .f (.cons (.t L3) (.cons (.t L2) (.cons (.t L1) (.cons (.t L0) .nil)))) (fun w hb => (check_Check hc21 (by omega) hs (hb.imp fun _ h => ⟨h.2, h.1.2⟩))) rfl ?_
 refine WL.st (R.mv (.t L0)) rfl ?_
 refine WL.st (R.ex (.t L0) .here) rfl ?_
 refine WL.st (R.ex (.t L1) (.skip .here)) rfl ?_
 refine WL.as (.t L1) (E1 U8) rfl ?_
 refine WL.as (.t L0) (E1 U9) rfl ?_
 refine WL.nil (QS.next (W.del (.dr (.dr (.dr (.dr (.dr (.dr (.dr (.dr (.dr .rf))))))))) (W.seq (W.region ?_))))
 refine WL.st (R.mv (.t L0)) rfl ?_
 refine WL.call gf_13 .f (.cons (.t L0) .nil) .nil (fun w hb => (law_twin (by omega) (hb.imp fun _ h => h.1.1))) rfl (fun x30 => ?_)
 obtain ⟨⟨A30, c30⟩, hc30⟩ := x30
 refine WL.st (R.mv (.t L3)) rfl ?_
 refine WL.call gf_24 .f (.cons (.t L1) (.cons (.t L0) .nil)) .nil (fun w hb => (code_Decode hc30 (by omega) hs (hb.imp fun _ h => h.2))) rfl (fun x32 => ?_)
 obtain ⟨⟨⟨A3, c3⟩, M⟩, hM⟩ := x32
 have hD := dec_good b s
 have hol := ops_law (b := b) (s := s) (sty := sty) (tp := tp)
 refine WL.rw L0 (v' := .tuple #[.slice A3 M.length c3, .int .i64 (decS b s).2.1, .int .i64 (decS b s).2.2]) rfl U0 ?_
 refine WL.st (R.mv (.t L0)) rfl ?_
 refine WL.st (R.ex (.t L0) .here) rfl ?_
 refine WL.st (R.ex (.t L1) (.skip .here)) rfl ?_
 refine WL.st (R.ex (.t L2) (.skip (.skip .here))) rfl ?_
 refine WL.as (.t L2) (E1 U9) rfl ?_
 refine WL.as (.t L1) (E1 (E1 U0)) rfl ?_
 refine WL.as (.t L0) (E1 (E1 U1)) rfl ?_
 refine WL.nil (QS.next (W.del (.dr (.dr (.dr (.dr (.dr (.dr (.dr (.dr .rf)))))))) (W.seq (W.region ?_))))
 refine WL.st (R.mv (.t (D1 L3))) rfl ?_
 refine WL.st (R.eqi (.t L0) .c) rfl ?_
 refine WL.as (.t L0) (E1 U6) rfl ?_
 refine WL.nil (QS.next (W.del (.dr (.dr .rf)) (W.seq (W.seq (W.region ?_)))))
 refine WL.st (R.mv (.t (D1 L4))) rfl ?_
 refine WL.nil (QS.next ?_)
 refine W.cd (.t L0) (fun h1 => ?_) (fun h1 => ?_)
 ·
  have hDX := dec_X (by omega : (decS b s).2.2 = 0)
  refine W.del (.dr .rf) (W.seq (W.region ?_))
  refine WL.st (R.mv (.t (D1 L1))) rfl ?_
  refine WL.st (R.mv (.t L3)) rfl ?_
  refine WL.st (R.mv (.t L5)) rfl ?_
  refine WL.call gf_25 .f (.cons (.t L2) (.cons (.t L1) (.cons (.t L0) .nil))) .nil (fun w hb => (ref11_Check (by have h1 := hD.1; rw [← hM, List.length_map] at h1; (try dsimp only at h1); omega) (by have h1 := hDX.1; rw [← hM] at h1; (try dsimp only at h1); omega) (fun q hq => hDX.2 q.1 (by rw [← hM]; exact List.mem_map.2 ⟨q, hq, rfl⟩)) (hb.imp fun _ h => ⟨h.2.1, h.2.2⟩))) rfl (fun x43 => ?_)
  obtain ⟨⟨pl, bad⟩, hbad⟩ := x43
  rw [hM] at hbad
  refine WL.rw L0 (v' := .tuple #[.int .i64 pl, .int .i64 bad]) rfl U0 ?_
  dsimp only at hbad
  refine WL.st (R.mv (.t L0)) rfl ?_
  refine WL.st (R.ex (.t L0) .here) rfl ?_
  refine WL.st (R.ex (.t L1) (.skip .here)) rfl ?_
  refine WL.as (.t L1) (E1 (E1 U2)) rfl ?_
  refine WL.as (.t L0) (E1 (E1 U3)) rfl ?_
  refine WL.nil (QS.next (W.del (.dr (.dr (.dr (.dr (.dr (.dr (.dr .rf))))))) (W.region ?_)))
  refine WL.st (R.mv (.t (D1 L6))) rfl ?_
  refine WL.st (R.eqi (.t L0) .c) rfl ?_
  refine WL.as (.t L0) (E1 U6) rfl ?_
  refine WL.nil (QS.next (W.del (.dr (.dr .rf)) (W.seq (W.region ?_))))
  refine WL.st (R.mv (.t (D1 L0))) rfl ?_
  refine WL.st (R.eqi (.t L0) .c) rfl ?_
  refine WL.st (R.mv (.t (D1 L6))) rfl ?_
  refine WL.st (R.eqb bo_4 (.t L1) (.t L0)) rfl ?_
  refine WL.as (.t L0) (E1 U2) rfl ?_
  refine WL.nil (QS.next (W.del (.dr (.dr (.dr (.dr .rf)))) (W.ret ?_)))
  exact QS.fin (.inl rfl) rfl (.tmp L8 .nil) () (congrArg Value.bool (decide_eq_true (by first | exact decide_eq_decide.2 (hol.trans ⟨fun h => hbad.2 h.2, fun h => ⟨by omega, hbad.1 h⟩⟩) | (rw [decide_eq_false (fun h => absurd (hol.1 h).1 h1), decide_eq_false h1]) | exact decide_eq_false (fun h => absurd (hol.1 h).1 h1)))) .nil (fun _ _ _ => trivial)
 ·
  refine W.del (.dr .rf) (W.skip (QS.next (W.seq (W.region ?_))))
  refine WL.st (R.mv (.t (D1 L0))) rfl ?_
  refine WL.st (R.eqi (.t L0) .c) rfl ?_
  refine WL.st (R.mv (.t (D1 L6))) rfl ?_
  refine WL.st (R.eqb bo_4 (.t L1) (.t L0)) rfl ?_
  refine WL.as (.t L0) (E1 U2) rfl ?_
  refine WL.nil (QS.next (W.del (.dr (.dr (.dr (.dr .rf)))) (W.ret ?_)))
  exact QS.fin (.inl rfl) rfl (.tmp L8 .nil) () (congrArg Value.bool (decide_eq_true (by first | exact decide_eq_decide.2 (hol.trans ⟨fun h => hbad.2 h.2, fun h => ⟨by omega, hbad.1 h⟩⟩) | (rw [decide_eq_false (fun h => absurd (hol.1 h).1 h1), decide_eq_false h1]) | exact decide_eq_false (fun h => absurd (hol.1 h).1 h1)))) .nil (fun _ _ _ => trivial)

end Go.Proofs.YtpaecijilnfkhaaDoor
