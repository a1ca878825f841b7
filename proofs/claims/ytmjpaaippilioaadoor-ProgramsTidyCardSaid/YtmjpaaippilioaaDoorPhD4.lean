import Derived.Test.YtmjpaaippilioaaDoorPhC
namespace Go.Proofs.YtmjpaaippilioaaDoor
open Go.RowKit
set_option maxRecDepth 100000 in
set_option maxHeartbeats 8000000 in
theorem sw_11 (w wr : World) (Ah : Option Addr) (nh ch j x : Nat) (a : Int) (hs : List OpR) (h2 : T2 wr) (hSh : Sl wr w.heap.size 7 Ah nh ch (opsV hs)) (hKh : KOk hs) (hnh : nh ≤ j) (hj : j ≤ 100) (hx : x ≤ 255) (hB : w.heap.size ≤ wr.heap.size) (h : x % 32 = 11) {t0 t1 t2 t3 t5 t8 t9 t10 t11 t12 t13 t14 t15 t16 t17 t18 t19 t20 t21 t22 t23 t24 t25 t26 t27 t28 t29 t30 t31 t32 t33 t34 t35 t36 t38 t39 t40 t41 t42 t43 t44 t45 t46 t47 t48 t49 t50 t51 t52 t53 t54 t55 t56 t57 t58 t59 t60 t61 t62 t63 t64 t65 t66 t67 t68 t69 t70 t71 t72 t73 t74 t75 t76 t77 t78 t79 t80 t81 t82 t83 t84 t85 t86 t87 t88 t89 t90 t91 t92 t93 t94 t95 t96 t97 t98 t99 t100 t101 t102 t103 t104 t105 t106 t107 t108 t109 t110 t111 t112 t113 t114 t115 t116 t117 t118 t119 t120 t121 t122 t123 t124 t125 t126 t127 t128 t129 t130 t131 t132 t133 t134 t135 t136 t137 t138 t139 t140 t141 t142 t143 t144 t145 t146 t147 t148 t149 t150 t151 t152 t153 t154 t155 t156 t157 t158 t159 t160 t161 t162 t163 t164 t165 t166 t167 t168 t169 t170 t171 t172 t173 t174 t175 t176 t177 t178 t179 t180 t181 t182 t183 t184 t185 t186 t187 t188 t189 t190 t191 t192 : Value} {J K' : Act → World → Prop} {Q' : Exit → Act → World → Prop}
    (hJ : ∀ a' w', (∃ u4 u8 u9 u11 u12 u13 u14 u15 u16 u17 u18 u19 u20 u21 u22 u23 u24 u25 u26 u27 u28 u29 u30 u31 u32 u33 u34 u35 u36 u37 u38 u39 u40 u41 u42 u43 u44 u45 u46 u47 u48 u49 u50 u51 u52 u53 u54 u55 u56 u57 u58 u59 u60 u61 u62 u63 u64 u65 u66 u67 u68 u69 u70 u71 u72 u73 u74 u75 u76 u77 u78 u79 u80 u81 u82 u83 u84 u85 u86 u87 u88 u89 u90 u91 u92 u93 u94 u95 u96 u97 u98 u99 u100 u101 u102 u103 u104 u105 u106 u107 u108 u109 u110 u111 u112 u113 u114 u115 u116 u117 u118 u119 u120 u121 u122 u123 u124 u125 u126 u127 u128 u129 u130 u131 u132 u133 u134 u135 u136 u137 u138 u139 u140 u141 u142 u143 u144 u145 u146 u147 u148 u149 u150 u151 u152 u153 u154 u155 u156 u157 u158 u159 u160 u161 u162 u163, SwR w wr Ah j u4 w' ∧ a' = ⟨#[t0, t1, t2, t3, u4, t5, .int .u8 x, .pointer (some ⟨wr.heap.size, 0, none⟩), u8, u9, t10, u11, u12, u13, u14, u15, u16, u17, u18, u19, u20, u21, u22, u23, u24, u25, u26, u27, u28, u29, u30, u31, u32, u33, u34, u35, u36, u37, u38, u39, u40, u41, u42, u43, u44, u45, u46, u47, u48, u49, u50, u51, u52, u53, u54, u55, u56, u57, u58, u59, u60, u61, u62, u63, u64, u65, u66, u67, u68, u69, u70, u71, u72, u73, u74, u75, u76, u77, u78, u79, u80, u81, u82, u83, u84, u85, u86, u87, u88, u89, u90, u91, u92, u93, u94, u95, u96, u97, u98, u99, u100, u101, u102, u103, u104, u105, u106, u107, u108, u109, u110, u111, u112, u113, u114, u115, u116, u117, u118, u119, u120, u121, u122, u123, u124, u125, u126, u127, u128, u129, u130, u131, u132, u133, u134, u135, u136, u137, u138, u139, u140, u141, u142, u143, u144, u145, u146, u147, u148, u149, u150, u151, u152, u153, u154, u155, u156, u157, u158, u159, u160, u161, u162, u163, t164, t165, t166, t167, t168, t169, t170, t171, t172, t173, t174, t175, t176, t177, t178, t179, t180, t181, t182, t183, t184, t185, t186, t187, t188, t189, t190, t191, t192], []⟩) → J a' w') (hK : ∀ a' w', Met J a' w' → K' a' w') :
    Code.wp Tryd.prog sw32 (Exit.then K' Q') ⟨#[t0, t1, t2, t3, .slice Ah nh ch, t5, .int .u8 x, .pointer (some ⟨wr.heap.size, 0, none⟩), t8, t9, t10, t11, t12, t13, t14, t15, t16, t17, t18, t19, t20, t21, t22, t23, t24, t25, t26, t27, t28, t29, t30, t31, t32, t33, t34, t35, t36, .int .u8 ((x : Int) % 32), t38, t39, t40, t41, t42, t43, t44, t45, t46, t47, t48, t49, t50, t51, t52, t53, t54, t55, t56, t57, t58, t59, t60, t61, t62, t63, t64, t65, t66, t67, t68, t69, t70, t71, t72, t73, t74, t75, t76, t77, t78, t79, t80, t81, t82, t83, t84, t85, t86, t87, t88, t89, t90, t91, t92, t93, t94, t95, t96, t97, t98, t99, t100, t101, t102, t103, t104, t105, t106, t107, t108, t109, t110, t111, t112, t113, t114, t115, t116, t117, t118, t119, t120, t121, t122, t123, t124, t125, t126, t127, t128, t129, t130, t131, t132, t133, t134, t135, t136, t137, t138, t139, t140, t141, t142, t143, t144, t145, t146, t147, t148, t149, t150, t151, t152, t153, t154, t155, t156, t157, t158, t159, t160, t161, t162, t163, t164, t165, t166, t167, t168, t169, t170, t171, t172, t173, t174, t175, t176, t177, t178, t179, t180, t181, t182, t183, t184, t185, t186, t187, t188, t189, t190, t191, t192], []⟩ (wr.alloc (.cells #[.int .u8 0, .int .i64 a, .int .i64 0, .int .i64 (-1), .bool false, .bool false, .int .i64 0] 50)) := by
  obtain ⟨i50, hi, hz0, hz1, hz2⟩ := info_parts info50
  have SH := Lib.hid hSh
  have KH := Lib.hid hKh
  have H2 := Lib.hid h2
  have nh0 : (0 : Int) ≤ (nh : Int) := by omega
  have nh1 : (nh : Int) ≤ 100 := by omega
  have x0 : (0 : Int) ≤ (x : Int) := by omega
  have x1 : (x : Int) ≤ 255 := by omega
  have hnb : ¬ blk Ah wr.heap.size := fun h => absurd (SH.out.ge h).2 (Nat.lt_irrefl _)
  obtain ⟨h63, hby⟩ : nh + 1 ≤ maxLen ∧ (nh + 1) * 48 ≤ 140737488355328 := by unfold maxLen; omega
  have HB := Lib.hid hB
  have HNB := Lib.hid hnb
  have HHN := Lib.hid hnh
  clear hB hnb hSh hKh h2
  conv => arg 2; whnf
  have hm : (x : Int) % 32 = 11 := by omega
  have h3 : x % 3 = 0 ∨ x % 3 = 1 ∨ x % 3 = 2 := by omega
  rcases h3 with h3 | h3 | h3
  · have hm3 : (x : Int) % 3 = 0 := by omega
    go_wp2_with (go_at_call 60; refine (turned_any Ah nh ch hs w.heap.size 14 (by decide) _ (SH.out.new_ (by (repeat (first | exact Frm.refl _ _ | apply Frm.alloc)))) (by omega) KH.out).mono ?_; rintro e w3 ⟨⟨v, rfl⟩, hm2, hf⟩)
    go_meet
    exact SwR.turned ⟨14, a, 0, -1, false, false, 0⟩ HHN.out (show (0 : Int) ≤ 14 by decide) (show (14 : Int) ≤ 255 by decide) HNB.out (((Frm.refl _ _).alloc _).alloc _) ((bx_new wr 50 ⟨14, a, 0, -1, false, false, 0⟩).frm ((Frm.refl _ fun _ => False).alloc _) id) hm2 hf
  · have hm3 : (x : Int) % 3 = 1 := by omega
    go_wp2_with (go_at_call 60; refine (turned_any Ah nh ch hs w.heap.size 15 (by decide) _ (SH.out.new_ (by (repeat (first | exact Frm.refl _ _ | apply Frm.alloc)))) (by omega) KH.out).mono ?_; rintro e w3 ⟨⟨v, rfl⟩, hm2, hf⟩)
    go_meet
    exact SwR.turned ⟨15, a, 0, -1, false, false, 0⟩ HHN.out (show (0 : Int) ≤ 15 by decide) (show (15 : Int) ≤ 255 by decide) HNB.out (((Frm.refl _ _).alloc _).alloc _) ((bx_new wr 50 ⟨15, a, 0, -1, false, false, 0⟩).frm ((Frm.refl _ fun _ => False).alloc _) id) hm2 hf
  · have hm3 : (x : Int) % 3 = 2 := by omega
    go_wp2_with (go_at_call 60; refine (turned_any Ah nh ch hs w.heap.size 16 (by decide) _ (SH.out.new_ (by (repeat (first | exact Frm.refl _ _ | apply Frm.alloc)))) (by omega) KH.out).mono ?_; rintro e w3 ⟨⟨v, rfl⟩, hm2, hf⟩)
    go_meet
    exact SwR.turned ⟨16, a, 0, -1, false, false, 0⟩ HHN.out (show (0 : Int) ≤ 16 by decide) (show (16 : Int) ≤ 255 by decide) HNB.out (((Frm.refl _ _).alloc _).alloc _) ((bx_new wr 50 ⟨16, a, 0, -1, false, false, 0⟩).frm ((Frm.refl _ fun _ => False).alloc _) id) hm2 hf
set_option maxRecDepth 100000 in
set_option maxHeartbeats 8000000 in
theorem sw_12 (w wr : World) (Ah : Option Addr) (nh ch j x : Nat) (a : Int) (hs : List OpR) (h2 : T2 wr) (hSh : Sl wr w.heap.size 7 Ah nh ch (opsV hs)) (hKh : KOk hs) (hnh : nh ≤ j) (hj : j ≤ 100) (hx : x ≤ 255) (hB : w.heap.size ≤ wr.heap.size) (h : x % 32 = 12) {t0 t1 t2 t3 t5 t8 t9 t10 t11 t12 t13 t14 t15 t16 t17 t18 t19 t20 t21 t22 t23 t24 t25 t26 t27 t28 t29 t30 t31 t32 t33 t34 t35 t36 t38 t39 t40 t41 t42 t43 t44 t45 t46 t47 t48 t49 t50 t51 t52 t53 t54 t55 t56 t57 t58 t59 t60 t61 t62 t63 t64 t65 t66 t67 t68 t69 t70 t71 t72 t73 t74 t75 t76 t77 t78 t79 t80 t81 t82 t83 t84 t85 t86 t87 t88 t89 t90 t91 t92 t93 t94 t95 t96 t97 t98 t99 t100 t101 t102 t103 t104 t105 t106 t107 t108 t109 t110 t111 t112 t113 t114 t115 t116 t117 t118 t119 t120 t121 t122 t123 t124 t125 t126 t127 t128 t129 t130 t131 t132 t133 t134 t135 t136 t137 t138 t139 t140 t141 t142 t143 t144 t145 t146 t147 t148 t149 t150 t151 t152 t153 t154 t155 t156 t157 t158 t159 t160 t161 t162 t163 t164 t165 t166 t167 t168 t169 t170 t171 t172 t173 t174 t175 t176 t177 t178 t179 t180 t181 t182 t183 t184 t185 t186 t187 t188 t189 t190 t191 t192 : Value} {J K' : Act → World → Prop} {Q' : Exit → Act → World → Prop}
    (hJ : ∀ a' w', (∃ u4 u8 u9 u11 u12 u13 u14 u15 u16 u17 u18 u19 u20 u21 u22 u23 u24 u25 u26 u27 u28 u29 u30 u31 u32 u33 u34 u35 u36 u37 u38 u39 u40 u41 u42 u43 u44 u45 u46 u47 u48 u49 u50 u51 u52 u53 u54 u55 u56 u57 u58 u59 u60 u61 u62 u63 u64 u65 u66 u67 u68 u69 u70 u71 u72 u73 u74 u75 u76 u77 u78 u79 u80 u81 u82 u83 u84 u85 u86 u87 u88 u89 u90 u91 u92 u93 u94 u95 u96 u97 u98 u99 u100 u101 u102 u103 u104 u105 u106 u107 u108 u109 u110 u111 u112 u113 u114 u115 u116 u117 u118 u119 u120 u121 u122 u123 u124 u125 u126 u127 u128 u129 u130 u131 u132 u133 u134 u135 u136 u137 u138 u139 u140 u141 u142 u143 u144 u145 u146 u147 u148 u149 u150 u151 u152 u153 u154 u155 u156 u157 u158 u159 u160 u161 u162 u163, SwR w wr Ah j u4 w' ∧ a' = ⟨#[t0, t1, t2, t3, u4, t5, .int .u8 x, .pointer (some ⟨wr.heap.size, 0, none⟩), u8, u9, t10, u11, u12, u13, u14, u15, u16, u17, u18, u19, u20, u21, u22, u23, u24, u25, u26, u27, u28, u29, u30, u31, u32, u33, u34, u35, u36, u37, u38, u39, u40, u41, u42, u43, u44, u45, u46, u47, u48, u49, u50, u51, u52, u53, u54, u55, u56, u57, u58, u59, u60, u61, u62, u63, u64, u65, u66, u67, u68, u69, u70, u71, u72, u73, u74, u75, u76, u77, u78, u79, u80, u81, u82, u83, u84, u85, u86, u87, u88, u89, u90, u91, u92, u93, u94, u95, u96, u97, u98, u99, u100, u101, u102, u103, u104, u105, u106, u107, u108, u109, u110, u111, u112, u113, u114, u115, u116, u117, u118, u119, u120, u121, u122, u123, u124, u125, u126, u127, u128, u129, u130, u131, u132, u133, u134, u135, u136, u137, u138, u139, u140, u141, u142, u143, u144, u145, u146, u147, u148, u149, u150, u151, u152, u153, u154, u155, u156, u157, u158, u159, u160, u161, u162, u163, t164, t165, t166, t167, t168, t169, t170, t171, t172, t173, t174, t175, t176, t177, t178, t179, t180, t181, t182, t183, t184, t185, t186, t187, t188, t189, t190, t191, t192], []⟩) → J a' w') (hK : ∀ a' w', Met J a' w' → K' a' w') :
    Code.wp Tryd.prog sw32 (Exit.then K' Q') ⟨#[t0, t1, t2, t3, .slice Ah nh ch, t5, .int .u8 x, .pointer (some ⟨wr.heap.size, 0, none⟩), t8, t9, t10, t11, t12, t13, t14, t15, t16, t17, t18, t19, t20, t21, t22, t23, t24, t25, t26, t27, t28, t29, t30, t31, t32, t33, t34, t35, t36, .int .u8 ((x : Int) % 32), t38, t39, t40, t41, t42, t43, t44, t45, t46, t47, t48, t49, t50, t51, t52, t53, t54, t55, t56, t57, t58, t59, t60, t61, t62, t63, t64, t65, t66, t67, t68, t69, t70, t71, t72, t73, t74, t75, t76, t77, t78, t79, t80, t81, t82, t83, t84, t85, t86, t87, t88, t89, t90, t91, t92, t93, t94, t95, t96, t97, t98, t99, t100, t101, t102, t103, t104, t105, t106, t107, t108, t109, t110, t111, t112, t113, t114, t115, t116, t117, t118, t119, t120, t121, t122, t123, t124, t125, t126, t127, t128, t129, t130, t131, t132, t133, t134, t135, t136, t137, t138, t139, t140, t141, t142, t143, t144, t145, t146, t147, t148, t149, t150, t151, t152, t153, t154, t155, t156, t157, t158, t159, t160, t161, t162, t163, t164, t165, t166, t167, t168, t169, t170, t171, t172, t173, t174, t175, t176, t177, t178, t179, t180, t181, t182, t183, t184, t185, t186, t187, t188, t189, t190, t191, t192], []⟩ (wr.alloc (.cells #[.int .u8 0, .int .i64 a, .int .i64 0, .int .i64 (-1), .bool false, .bool false, .int .i64 0] 50)) := by
  obtain ⟨i50, hi, hz0, hz1, hz2⟩ := info_parts info50
  have SH := Lib.hid hSh
  have KH := Lib.hid hKh
  have H2 := Lib.hid h2
  have nh0 : (0 : Int) ≤ (nh : Int) := by omega
  have nh1 : (nh : Int) ≤ 100 := by omega
  have x0 : (0 : Int) ≤ (x : Int) := by omega
  have x1 : (x : Int) ≤ 255 := by omega
  have hnb : ¬ blk Ah wr.heap.size := fun h => absurd (SH.out.ge h).2 (Nat.lt_irrefl _)
  obtain ⟨h63, hby⟩ : nh + 1 ≤ maxLen ∧ (nh + 1) * 48 ≤ 140737488355328 := by unfold maxLen; omega
  have HB := Lib.hid hB
  have HNB := Lib.hid hnb
  have HHN := Lib.hid hnh
  clear hB hnb hSh hKh h2
  conv => arg 2; whnf
  have hm : (x : Int) % 32 = 12 := by omega
  have h3 : x % 3 = 0 ∨ x % 3 = 1 ∨ x % 3 = 2 := by omega
  rcases h3 with h3 | h3 | h3
  · have hm3 : (x : Int) % 3 = 0 := by omega
    go_wp2_with (go_at_call 60; refine (turned_any Ah nh ch hs w.heap.size 14 (by decide) _ (SH.out.new_ (by (repeat (first | exact Frm.refl _ _ | apply Frm.alloc)))) (by omega) KH.out).mono ?_; rintro e w3 ⟨⟨v, rfl⟩, hm2, hf⟩)
    go_meet
    exact SwR.turned ⟨14, a, 0, -1, false, false, 0⟩ HHN.out (show (0 : Int) ≤ 14 by decide) (show (14 : Int) ≤ 255 by decide) HNB.out (((Frm.refl _ _).alloc _).alloc _) ((bx_new wr 50 ⟨14, a, 0, -1, false, false, 0⟩).frm ((Frm.refl _ fun _ => False).alloc _) id) hm2 hf
  · have hm3 : (x : Int) % 3 = 1 := by omega
    go_wp2_with (go_at_call 60; refine (turned_any Ah nh ch hs w.heap.size 15 (by decide) _ (SH.out.new_ (by (repeat (first | exact Frm.refl _ _ | apply Frm.alloc)))) (by omega) KH.out).mono ?_; rintro e w3 ⟨⟨v, rfl⟩, hm2, hf⟩)
    go_meet
    exact SwR.turned ⟨15, a, 0, -1, false, false, 0⟩ HHN.out (show (0 : Int) ≤ 15 by decide) (show (15 : Int) ≤ 255 by decide) HNB.out (((Frm.refl _ _).alloc _).alloc _) ((bx_new wr 50 ⟨15, a, 0, -1, false, false, 0⟩).frm ((Frm.refl _ fun _ => False).alloc _) id) hm2 hf
  · have hm3 : (x : Int) % 3 = 2 := by omega
    go_wp2_with (go_at_call 60; refine (turned_any Ah nh ch hs w.heap.size 16 (by decide) _ (SH.out.new_ (by (repeat (first | exact Frm.refl _ _ | apply Frm.alloc)))) (by omega) KH.out).mono ?_; rintro e w3 ⟨⟨v, rfl⟩, hm2, hf⟩)
    go_meet
    exact SwR.turned ⟨16, a, 0, -1, false, false, 0⟩ HHN.out (show (0 : Int) ≤ 16 by decide) (show (16 : Int) ≤ 255 by decide) HNB.out (((Frm.refl _ _).alloc _).alloc _) ((bx_new wr 50 ⟨16, a, 0, -1, false, false, 0⟩).frm ((Frm.refl _ fun _ => False).alloc _) id) hm2 hf
set_option maxRecDepth 100000 in
set_option maxHeartbeats 8000000 in
theorem sw_13 (w wr : World) (Ah : Option Addr) (nh ch j x : Nat) (a : Int) (hs : List OpR) (h2 : T2 wr) (hSh : Sl wr w.heap.size 7 Ah nh ch (opsV hs)) (hKh : KOk hs) (hnh : nh ≤ j) (hj : j ≤ 100) (hx : x ≤ 255) (hB : w.heap.size ≤ wr.heap.size) (h : x % 32 = 13) {t0 t1 t2 t3 t5 t8 t9 t10 t11 t12 t13 t14 t15 t16 t17 t18 t19 t20 t21 t22 t23 t24 t25 t26 t27 t28 t29 t30 t31 t32 t33 t34 t35 t36 t38 t39 t40 t41 t42 t43 t44 t45 t46 t47 t48 t49 t50 t51 t52 t53 t54 t55 t56 t57 t58 t59 t60 t61 t62 t63 t64 t65 t66 t67 t68 t69 t70 t71 t72 t73 t74 t75 t76 t77 t78 t79 t80 t81 t82 t83 t84 t85 t86 t87 t88 t89 t90 t91 t92 t93 t94 t95 t96 t97 t98 t99 t100 t101 t102 t103 t104 t105 t106 t107 t108 t109 t110 t111 t112 t113 t114 t115 t116 t117 t118 t119 t120 t121 t122 t123 t124 t125 t126 t127 t128 t129 t130 t131 t132 t133 t134 t135 t136 t137 t138 t139 t140 t141 t142 t143 t144 t145 t146 t147 t148 t149 t150 t151 t152 t153 t154 t155 t156 t157 t158 t159 t160 t161 t162 t163 t164 t165 t166 t167 t168 t169 t170 t171 t172 t173 t174 t175 t176 t177 t178 t179 t180 t181 t182 t183 t184 t185 t186 t187 t188 t189 t190 t191 t192 : Value} {J K' : Act → World → Prop} {Q' : Exit → Act → World → Prop}
    (hJ : ∀ a' w', (∃ u4 u8 u9 u11 u12 u13 u14 u15 u16 u17 u18 u19 u20 u21 u22 u23 u24 u25 u26 u27 u28 u29 u30 u31 u32 u33 u34 u35 u36 u37 u38 u39 u40 u41 u42 u43 u44 u45 u46 u47 u48 u49 u50 u51 u52 u53 u54 u55 u56 u57 u58 u59 u60 u61 u62 u63 u64 u65 u66 u67 u68 u69 u70 u71 u72 u73 u74 u75 u76 u77 u78 u79 u80 u81 u82 u83 u84 u85 u86 u87 u88 u89 u90 u91 u92 u93 u94 u95 u96 u97 u98 u99 u100 u101 u102 u103 u104 u105 u106 u107 u108 u109 u110 u111 u112 u113 u114 u115 u116 u117 u118 u119 u120 u121 u122 u123 u124 u125 u126 u127 u128 u129 u130 u131 u132 u133 u134 u135 u136 u137 u138 u139 u140 u141 u142 u143 u144 u145 u146 u147 u148 u149 u150 u151 u152 u153 u154 u155 u156 u157 u158 u159 u160 u161 u162 u163, SwR w wr Ah j u4 w' ∧ a' = ⟨#[t0, t1, t2, t3, u4, t5, .int .u8 x, .pointer (some ⟨wr.heap.size, 0, none⟩), u8, u9, t10, u11, u12, u13, u14, u15, u16, u17, u18, u19, u20, u21, u22, u23, u24, u25, u26, u27, u28, u29, u30, u31, u32, u33, u34, u35, u36, u37, u38, u39, u40, u41, u42, u43, u44, u45, u46, u47, u48, u49, u50, u51, u52, u53, u54, u55, u56, u57, u58, u59, u60, u61, u62, u63, u64, u65, u66, u67, u68, u69, u70, u71, u72, u73, u74, u75, u76, u77, u78, u79, u80, u81, u82, u83, u84, u85, u86, u87, u88, u89, u90, u91, u92, u93, u94, u95, u96, u97, u98, u99, u100, u101, u102, u103, u104, u105, u106, u107, u108, u109, u110, u111, u112, u113, u114, u115, u116, u117, u118, u119, u120, u121, u122, u123, u124, u125, u126, u127, u128, u129, u130, u131, u132, u133, u134, u135, u136, u137, u138, u139, u140, u141, u142, u143, u144, u145, u146, u147, u148, u149, u150, u151, u152, u153, u154, u155, u156, u157, u158, u159, u160, u161, u162, u163, t164, t165, t166, t167, t168, t169, t170, t171, t172, t173, t174, t175, t176, t177, t178, t179, t180, t181, t182, t183, t184, t185, t186, t187, t188, t189, t190, t191, t192], []⟩) → J a' w') (hK : ∀ a' w', Met J a' w' → K' a' w') :
    Code.wp Tryd.prog sw32 (Exit.then K' Q') ⟨#[t0, t1, t2, t3, .slice Ah nh ch, t5, .int .u8 x, .pointer (some ⟨wr.heap.size, 0, none⟩), t8, t9, t10, t11, t12, t13, t14, t15, t16, t17, t18, t19, t20, t21, t22, t23, t24, t25, t26, t27, t28, t29, t30, t31, t32, t33, t34, t35, t36, .int .u8 ((x : Int) % 32), t38, t39, t40, t41, t42, t43, t44, t45, t46, t47, t48, t49, t50, t51, t52, t53, t54, t55, t56, t57, t58, t59, t60, t61, t62, t63, t64, t65, t66, t67, t68, t69, t70, t71, t72, t73, t74, t75, t76, t77, t78, t79, t80, t81, t82, t83, t84, t85, t86, t87, t88, t89, t90, t91, t92, t93, t94, t95, t96, t97, t98, t99, t100, t101, t102, t103, t104, t105, t106, t107, t108, t109, t110, t111, t112, t113, t114, t115, t116, t117, t118, t119, t120, t121, t122, t123, t124, t125, t126, t127, t128, t129, t130, t131, t132, t133, t134, t135, t136, t137, t138, t139, t140, t141, t142, t143, t144, t145, t146, t147, t148, t149, t150, t151, t152, t153, t154, t155, t156, t157, t158, t159, t160, t161, t162, t163, t164, t165, t166, t167, t168, t169, t170, t171, t172, t173, t174, t175, t176, t177, t178, t179, t180, t181, t182, t183, t184, t185, t186, t187, t188, t189, t190, t191, t192], []⟩ (wr.alloc (.cells #[.int .u8 0, .int .i64 a, .int .i64 0, .int .i64 (-1), .bool false, .bool false, .int .i64 0] 50)) := by
  obtain ⟨i50, hi, hz0, hz1, hz2⟩ := info_parts info50
  have SH := Lib.hid hSh
  have KH := Lib.hid hKh
  have H2 := Lib.hid h2
  have nh0 : (0 : Int) ≤ (nh : Int) := by omega
  have nh1 : (nh : Int) ≤ 100 := by omega
  have x0 : (0 : Int) ≤ (x : Int) := by omega
  have x1 : (x : Int) ≤ 255 := by omega
  have hnb : ¬ blk Ah wr.heap.size := fun h => absurd (SH.out.ge h).2 (Nat.lt_irrefl _)
  obtain ⟨h63, hby⟩ : nh + 1 ≤ maxLen ∧ (nh + 1) * 48 ≤ 140737488355328 := by unfold maxLen; omega
  have HB := Lib.hid hB
  have HNB := Lib.hid hnb
  have HHN := Lib.hid hnh
  clear hB hnb hSh hKh h2
  conv => arg 2; whnf
  have hm : (x : Int) % 32 = 13 := by omega
  have h3 : x % 3 = 0 ∨ x % 3 = 1 ∨ x % 3 = 2 := by omega
  rcases h3 with h3 | h3 | h3
  · have hm3 : (x : Int) % 3 = 0 := by omega
    go_wp2_with (go_at_call 60; refine (turned_any Ah nh ch hs w.heap.size 14 (by decide) _ (SH.out.new_ (by (repeat (first | exact Frm.refl _ _ | apply Frm.alloc)))) (by omega) KH.out).mono ?_; rintro e w3 ⟨⟨v, rfl⟩, hm2, hf⟩)
    go_meet
    exact SwR.turned ⟨14, a, 0, -1, false, false, 0⟩ HHN.out (show (0 : Int) ≤ 14 by decide) (show (14 : Int) ≤ 255 by decide) HNB.out (((Frm.refl _ _).alloc _).alloc _) ((bx_new wr 50 ⟨14, a, 0, -1, false, false, 0⟩).frm ((Frm.refl _ fun _ => False).alloc _) id) hm2 hf
  · have hm3 : (x : Int) % 3 = 1 := by omega
    go_wp2_with (go_at_call 60; refine (turned_any Ah nh ch hs w.heap.size 15 (by decide) _ (SH.out.new_ (by (repeat (first | exact Frm.refl _ _ | apply Frm.alloc)))) (by omega) KH.out).mono ?_; rintro e w3 ⟨⟨v, rfl⟩, hm2, hf⟩)
    go_meet
    exact SwR.turned ⟨15, a, 0, -1, false, false, 0⟩ HHN.out (show (0 : Int) ≤ 15 by decide) (show (15 : Int) ≤ 255 by decide) HNB.out (((Frm.refl _ _).alloc _).alloc _) ((bx_new wr 50 ⟨15, a, 0, -1, false, false, 0⟩).frm ((Frm.refl _ fun _ => False).alloc _) id) hm2 hf
  · have hm3 : (x : Int) % 3 = 2 := by omega
    go_wp2_with (go_at_call 60; refine (turned_any Ah nh ch hs w.heap.size 16 (by decide) _ (SH.out.new_ (by (repeat (first | exact Frm.refl _ _ | apply Frm.alloc)))) (by omega) KH.out).mono ?_; rintro e w3 ⟨⟨v, rfl⟩, hm2, hf⟩)
    go_meet
    exact SwR.turned ⟨16, a, 0, -1, false, false, 0⟩ HHN.out (show (0 : Int) ≤ 16 by decide) (show (16 : Int) ≤ 255 by decide) HNB.out (((Frm.refl _ _).alloc _).alloc _) ((bx_new wr 50 ⟨16, a, 0, -1, false, false, 0⟩).frm ((Frm.refl _ fun _ => False).alloc _) id) hm2 hf
end Go.Proofs.YtmjpaaippilioaaDoor
