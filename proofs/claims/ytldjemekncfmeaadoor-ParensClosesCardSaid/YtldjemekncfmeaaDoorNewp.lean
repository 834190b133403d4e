/-
  New's first double append: a word and how many ones stand ahead of it. For every world in which the vector is being made.
-/
import Derived.Test.YtldjemekncfmeaaDoorNewb
import Derived.Deep.RegionLaw
namespace Go.Proofs.YtldjemekncfmeaaDoor
open Go.RowKit

attribute [local go_sem] U_sub1 U_and
set_option maxRecDepth 100000 in
set_option maxHeartbeats 8000000 in
theorem words_step (w wr : World) (ys : Nat → BitVec 64) (N q : Nat) (C : Nat) (v1 v2 v3 v4 : Value) (hM : Made w wr w.heap.size ys N q q v1 v2 v3 v4) (hC : Lp.cnt (bitF ys N) (64 * q) = C) (hq : q < 17592186044416)
    (t0 t1 t2 t3 t4 t7 t8 t10 t11 t12 t13 t14 t15 t16 t17 t18 t19 t20 t21 t22 t23 t24 t25 t26 t27 t28 t29 t30 t31 t32 t33 t34 t35 t36 t37 t38 t39 t40 t41 t42 t43 t44 t45 t46 t47 t48 t49 t50 t51 t52 t53 t54 t55 t56 t57 t58 t59 t60 t61 t62 t63 t64 t65 t66 t67 t68 t69 t70 t71 t72 t73 t74 t75 t76 t77 t78 t79 t80 t81 t82 t83 t84 t85 t86 t87 t88 t89 t90 t91 t92 t93 t94 t95 t96 t97 t98 t99 t100 t101 t102 t103 t104 t105 t106 t107 t108 t109 t110 t111 t112 t113 t114 t115 : Value) (K : Act → World → Prop) (Q : Exit → Act → World → Prop)
    (hK : ∀ (u46 u47 u48 u49 u50 u51 u52 u53 u54 u55 u56 u57 u58 u59 u60 u61 u62 u63 u64 u65 : Value) (wx : World) (v1' v2' : Value), Made w wx w.heap.size ys N (q + 1) q v1' v2' v3 v4 → K { tmps := #[t0, t1, t2, t3, t4, .pointer (some ⟨w.heap.size, 0, none⟩), .int .i64 C, t7, t8, .int .u64 (U (wordX ys N q)), t10, t11, t12, t13, t14, t15, t16, t17, t18, t19, t20, t21, t22, t23, t24, t25, t26, t27, t28, t29, t30, t31, t32, t33, t34, t35, t36, t37, t38, t39, t40, t41, t42, t43, t44, t45, u46, u47, u48, u49, u50, u51, u52, u53, u54, u55, u56, u57, u58, u59, u60, u61, u62, u63, u64, u65, t66, t67, t68, t69, t70, t71, t72, t73, t74, t75, t76, t77, t78, t79, t80, t81, t82, t83, t84, t85, t86, t87, t88, t89, t90, t91, t92, t93, t94, t95, t96, t97, t98, t99, t100, t101, t102, t103, t104, t105, t106, t107, t108, t109, t110, t111, t112, t113, t114, t115], defers := [] } wx) :
    Code.wp Tryd.prog (newR 11) (Exit.then K Q) { tmps := #[t0, t1, t2, t3, t4, .pointer (some ⟨w.heap.size, 0, none⟩), .int .i64 C, t7, t8, .int .u64 (U (wordX ys N q)), t10, t11, t12, t13, t14, t15, t16, t17, t18, t19, t20, t21, t22, t23, t24, t25, t26, t27, t28, t29, t30, t31, t32, t33, t34, t35, t36, t37, t38, t39, t40, t41, t42, t43, t44, t45, t46, t47, t48, t49, t50, t51, t52, t53, t54, t55, t56, t57, t58, t59, t60, t61, t62, t63, t64, t65, t66, t67, t68, t69, t70, t71, t72, t73, t74, t75, t76, t77, t78, t79, t80, t81, t82, t83, t84, t85, t86, t87, t88, t89, t90, t91, t92, t93, t94, t95, t96, t97, t98, t99, t100, t101, t102, t103, t104, t105, t106, t107, t108, t109, t110, t111, t112, t113, t114, t115], defers := [] } wr := by
  have HK := Lib.hid hK
  clear hK
  refine Code.wp_mono (Q := Exit.then K fun _ _ _ => False) (fun e a w h => by cases e <;> first | exact h | exact False.elim h) ?_
  conv =>
    arg 2
    whnf
  have R0 := hM
  unfold Made at R0
  have HR0 := Lib.hid R0
  have c1 := R0.blk.cell 1
  have c2 := R0.blk.cell 2
  have hgl := R0.blk.lt
  simp at c1 c2
  clear R0 hM
  have h63 : q + 1 ≤ maxLen := by unfold maxLen; omega
  have hby : (q + 1) * 8 ≤ 140737488355328 := by omega
  have H63 := Lib.hid h63
  have HBY := Lib.hid hby
  have HC := Lib.hid hC
  clear h63 hby hC hq
  obtain ⟨i0, hi, hz0, hz1, hz2⟩ := info_parts u64_info
  obtain ⟨j0, hj, hy0, hy1, hy2⟩ := info_parts int_info
  go_region_law (first
    | (refine step_append_lies _ rfl (.tmp 51) (.tmp 53) 22 rfl (w.heap.size + 1) 27 i0 (.int .u64 0) 1 8 Tryd.underlying22 hi hz0 hz1 hz2 rfl (by decide) v1 q (rowW ys N q) rfl
        (by first | exact (HR0.out.drew.alloc _).o1 | exact ((HR0.out.drew.alloc _).alloc _).o1) ⟨_, 0, none⟩ 1 1 [.int .u64 (U (wordX ys N q))] rfl rfl
        (by first | exact World.news_of_block (Blk.newAt _ _ _ (by simp)) | exact World.news_of_block ((Blk.newAt _ _ _ (by simp)).alloc _)) (by simp [Value.oneCell']) (by decide) H63.out HBY.out
        (by first | exact (HR0.out.drew.alloc _).blk.lt | exact ((HR0.out.drew.alloc _).alloc _).blk.lt) _ rfl ?_
       intro g1 p1 w1 hown1 hgrow1 hat1 hlt1
       have HR1 : Hid (Rows4 w w1 w.heap.size _ _ _ _ v2 _ _ v3 _ _ v4 _ _) := Lib.hid (by first | exact (HR0.out.drew.alloc _).app1 hown1 hgrow1 hat1 (Nat.le_refl _) | exact ((HR0.out.drew.alloc _).alloc _).app1 hown1 hgrow1 hat1 (Nat.le_refl _))
       have HK1 := Lib.hid (fun (b : Nat) (hb : wr.heap.size ≤ b) hlt => hgrow1.block b hlt (fun e => by have := (HR0.out.o1.lt b e.symm).2; omega))
       have d2 := HR1.out.blk.cell 2
       have dl := HR1.out.blk.lt
       simp at d2)
    | (refine step_append_lies _ rfl (.tmp 58) (.tmp 60) 40 rfl (w.heap.size + 1) 3 j0 (.int .i64 0) 1 8 Tryd.underlying40 hj hy0 hy1 hy2 rfl (by decide) v2 q (rowR (bitF ys N) q) rfl
        (by first | exact HR1.out.o2 | exact (HR1.out.alloc _).o2) ⟨_, 0, none⟩ 1 1 [.int .i64 C] rfl rfl
        (by first | exact World.news_of_block (Blk.newAt _ _ _ (by simp)) | exact World.news_of_block ((HK1.out _ (by simp) (by simp <;> omega)).trans ((Blk.newAt _ _ _ (by simp)).alloc _)) | exact World.news_of_block ((HK1.out _ (by simp) (by simp <;> omega)).trans (Blk.newAt _ _ _ (by simp)))) (by simp [Value.oneCell']) (by decide) H63.out HBY.out
        (by first | exact HR1.out.blk.lt | exact (HR1.out.alloc _).blk.lt) _ rfl ?_
       intro g2 p2 w2 hown2 hgrow2 hat2 hlt2
       have HR2 : Hid (Rows4 w w2 w.heap.size _ _ _ _ _ _ _ v3 _ _ v4 _ _) := Lib.hid (by first | exact HR1.out.app2 hown2 hgrow2 hat2 (Nat.le_refl _) | exact (HR1.out.alloc _).app2 hown2 hgrow2 hat2 (Nat.le_refl _))
       have k1 := HR2.out.blk.cell 1
       have k2 := HR2.out.blk.cell 2
       have l1 := HR2.out.blk.frozen 1
       have l2 := HR2.out.blk.frozen 2
       simp at k1 k2))
  all_goals
    go_wp2_with fail
    exact HK.out _ _ _ _ _ _ _ _ _ _ _ _ _ _ _ _ _ _ _ _ _ _ _ (((HR2.out.set 1 _).set 2 _).is (by simp) (by rw [rowW, rowW, row_succ]) (by rw [rowR, rowR, row_succ, HC.out]) rfl rfl)
end Go.Proofs.YtldjemekncfmeaaDoor
