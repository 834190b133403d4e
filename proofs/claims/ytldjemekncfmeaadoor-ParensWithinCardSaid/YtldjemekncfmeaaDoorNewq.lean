/-
  New's second double append: the least and the greatest excess of a word. For every world in which the vector is being made.
-/
import Derived.Test.YtldjemekncfmeaaDoorNewb
import Derived.Deep.RegionLaw
namespace Go.Proofs.YtldjemekncfmeaaDoor
open Go.RowKit

attribute [local go_sem] U_sub1 U_and
set_option maxRecDepth 100000 in
set_option maxHeartbeats 8000000 in
theorem bounds_step (w wr : World) (ys : Nat → BitVec 64) (N q : Nat) (L M : Int) (v1 v2 v3 v4 : Value) (hM : Made w wr w.heap.size ys N (q + 1) q v1 v2 v3 v4) (hL : loE (bitF ys N) (64 * q) (haveN N q) = L) (hMM : hiE (bitF ys N) (64 * q) (haveN N q) = M) (hq : q < 17592186044416)
    (t0 t1 t2 t3 t4 t6 t7 t8 t9 t10 t13 t14 t15 t16 t17 t18 t19 t20 t21 t22 t23 t24 t25 t26 t27 t28 t29 t30 t31 t32 t33 t34 t35 t36 t37 t38 t39 t40 t41 t42 t43 t44 t45 t46 t47 t48 t49 t50 t51 t52 t53 t54 t55 t56 t57 t58 t59 t60 t61 t62 t63 t64 t65 t66 t67 t68 t69 t70 t71 t72 t73 t74 t75 t76 t77 t78 t79 t80 t81 t82 t83 t84 t85 t86 t87 t88 t89 t90 t91 t92 t93 t94 t95 t96 t97 t98 t99 t100 t101 t102 t103 t104 t105 t106 t107 t108 t109 t110 t111 t112 t113 t114 t115 : Value) (K : Act → World → Prop) (Q : Exit → Act → World → Prop)
    (hK : ∀ (u90 u91 u92 u93 u94 u95 u96 u97 u98 u99 u100 u101 u102 u103 u104 u105 u106 u107 u108 u109 : Value) (wx : World) (v3' v4' : Value), Made w wx w.heap.size ys N (q + 1) (q + 1) v1 v2 v3' v4' → K { tmps := #[t0, t1, t2, t3, t4, .pointer (some ⟨w.heap.size, 0, none⟩), t6, t7, t8, t9, t10, .int .i64 L, .int .i64 M, t13, t14, t15, t16, t17, t18, t19, t20, t21, t22, t23, t24, t25, t26, t27, t28, t29, t30, t31, t32, t33, t34, t35, t36, t37, t38, t39, t40, t41, t42, t43, t44, t45, t46, t47, t48, t49, t50, t51, t52, t53, t54, t55, t56, t57, t58, t59, t60, t61, t62, t63, t64, t65, t66, t67, t68, t69, t70, t71, t72, t73, t74, t75, t76, t77, t78, t79, t80, t81, t82, t83, t84, t85, t86, t87, t88, t89, u90, u91, u92, u93, u94, u95, u96, u97, u98, u99, u100, u101, u102, u103, u104, u105, u106, u107, u108, u109, t110, t111, t112, t113, t114, t115], defers := [] } wx) :
    Code.wp Tryd.prog (newR 19) (Exit.then K Q) { tmps := #[t0, t1, t2, t3, t4, .pointer (some ⟨w.heap.size, 0, none⟩), t6, t7, t8, t9, t10, .int .i64 L, .int .i64 M, t13, t14, t15, t16, t17, t18, t19, t20, t21, t22, t23, t24, t25, t26, t27, t28, t29, t30, t31, t32, t33, t34, t35, t36, t37, t38, t39, t40, t41, t42, t43, t44, t45, t46, t47, t48, t49, t50, t51, t52, t53, t54, t55, t56, t57, t58, t59, t60, t61, t62, t63, t64, t65, t66, t67, t68, t69, t70, t71, t72, t73, t74, t75, t76, t77, t78, t79, t80, t81, t82, t83, t84, t85, t86, t87, t88, t89, t90, t91, t92, t93, t94, t95, t96, t97, t98, t99, t100, t101, t102, t103, t104, t105, t106, t107, t108, t109, t110, t111, t112, t113, t114, t115], defers := [] } wr := by
  have HK := Lib.hid hK
  clear hK
  refine Code.wp_mono (Q := Exit.then K fun _ _ _ => False) (fun e a w h => by cases e <;> first | exact h | exact False.elim h) ?_
  conv =>
    arg 2
    whnf
  have R0 := hM
  unfold Made at R0
  have HR0 := Lib.hid R0
  have c3 := R0.blk.cell 3
  have c4 := R0.blk.cell 4
  have hgl := R0.blk.lt
  simp at c3 c4
  clear R0 hM
  have h63 : q + 1 ≤ maxLen := by unfold maxLen; omega
  have hby : (q + 1) * 8 ≤ 140737488355328 := by omega
  have H63 := Lib.hid h63
  have HBY := Lib.hid hby
  have HL := Lib.hid hL
  have HMM := Lib.hid hMM
  clear h63 hby hL hMM hq
  obtain ⟨j0, hj, hy0, hy1, hy2⟩ := info_parts int_info
  go_region_law (first
    | (refine step_append_lies _ rfl (.tmp 95) (.tmp 97) 40 rfl (w.heap.size + 1) 3 j0 (.int .i64 0) 1 8 Tryd.underlying40 hj hy0 hy1 hy2 rfl (by decide) v3 q (rowL (bitF ys N) N q) rfl
        (by first | exact (HR0.out.drew.alloc _).o3 | exact ((HR0.out.drew.alloc _).alloc _).o3) ⟨_, 0, none⟩ 1 1 [.int .i64 L] rfl rfl
        (by first | exact World.news_of_block (Blk.newAt _ _ _ (by simp)) | exact World.news_of_block ((Blk.newAt _ _ _ (by simp)).alloc _)) (by simp [Value.oneCell']) (by decide) H63.out HBY.out
        (by first | exact (HR0.out.drew.alloc _).blk.lt | exact ((HR0.out.drew.alloc _).alloc _).blk.lt) _ rfl ?_
       intro g1 p1 w1 hown1 hgrow1 hat1 hlt1
       have HR1 : Hid (Rows4 w w1 w.heap.size _ v1 _ _ v2 _ _ _ _ _ v4 _ _) := Lib.hid (by first | exact (HR0.out.drew.alloc _).app3 hown1 hgrow1 hat1 (Nat.le_refl _) | exact ((HR0.out.drew.alloc _).alloc _).app3 hown1 hgrow1 hat1 (Nat.le_refl _))
       have HK1 := Lib.hid (fun (b : Nat) (hb : wr.heap.size ≤ b) hlt => hgrow1.block b hlt (fun e => by have := (HR0.out.o3.lt b e.symm).2; omega))
       have d4 := HR1.out.blk.cell 4
       have dl := HR1.out.blk.lt
       simp at d4)
    | (refine step_append_lies _ rfl (.tmp 102) (.tmp 104) 40 rfl (w.heap.size + 1) 3 j0 (.int .i64 0) 1 8 Tryd.underlying40 hj hy0 hy1 hy2 rfl (by decide) v4 q (rowM (bitF ys N) N q) rfl
        (by first | exact HR1.out.o4 | exact (HR1.out.alloc _).o4) ⟨_, 0, none⟩ 1 1 [.int .i64 M] rfl rfl
        (by first | exact World.news_of_block (Blk.newAt _ _ _ (by simp)) | exact World.news_of_block ((HK1.out _ (by simp) (by simp <;> omega)).trans ((Blk.newAt _ _ _ (by simp)).alloc _)) | exact World.news_of_block ((HK1.out _ (by simp) (by simp <;> omega)).trans (Blk.newAt _ _ _ (by simp)))) (by simp [Value.oneCell']) (by decide) H63.out HBY.out
        (by first | exact HR1.out.blk.lt | exact (HR1.out.alloc _).blk.lt) _ rfl ?_
       intro g2 p2 w2 hown2 hgrow2 hat2 hlt2
       have HR2 : Hid (Rows4 w w2 w.heap.size _ v1 _ _ v2 _ _ _ _ _ _ _ _) := Lib.hid (by first | exact HR1.out.app4 hown2 hgrow2 hat2 (Nat.le_refl _) | exact (HR1.out.alloc _).app4 hown2 hgrow2 hat2 (Nat.le_refl _))
       have k3 := HR2.out.blk.cell 3
       have k4 := HR2.out.blk.cell 4
       have l3 := HR2.out.blk.frozen 3
       have l4 := HR2.out.blk.frozen 4
       simp at k3 k4))
  all_goals
    go_wp2_with fail
    exact HK.out _ _ _ _ _ _ _ _ _ _ _ _ _ _ _ _ _ _ _ _ _ _ _ (((HR2.out.set 3 _).set 4 _).is (by simp) rfl rfl (by rw [rowL, rowL, row_succ, HL.out]) (by rw [rowM, rowM, row_succ, HMM.out]))
end Go.Proofs.YtldjemekncfmeaaDoor
