import Derived.Test.YtmjpaaippilioaaDoorPhK
namespace Go.Proofs.YtmjpaaippilioaaDoor
open Go.RowKit
/-- A region of a code. -/
def findReg (n : Nat) : Code → Option Code
  | .region k c d => if k = n then some (.region k c d) else none
  | .block _ c => findReg n c
  | .loop c => findReg n c
  | .scope c => findReg n c
  | .seq a b => match findReg n a with
    | some c => some c
    | none => findReg n b
  | .cond _ a b => match findReg n a with
    | some c => some c
    | none => findReg n b
  | _ => none
noncomputable def reg21 : Code := (Tryd.f9.body.bind (findReg 21)).getD .skip
theorem step_append_nil {P : Program} {w : World} {ops : Array Oper} {o : Oper} {a : Act} {K : Act → World → Prop} {Q : Exit → Act → World → Prop} {E : Prop} (hgd : o.guard = none) (x : Operand) (t : TypeId)
    (ho : o.op = .call { callee := .builtin .append, args := #[.const (.slice none 0 0), x], argTypes := #[t, t] })
    (B : Nat) (e : TypeId) (i : TypeInfo) (z : Value) (size bytes : Nat) (ht : P.underlying t = some (.slice e)) (hi : P.info? e = some i) (hz : i.zero = some z)
    (hsize : i.size = size) (hby : i.bytes = bytes) (hzs : z.cells.size = size) (hsz : 0 < size)
    (X : Option Addr) (m c : Nat) (news : List Value) (hx : a.eval x = .slice X m c) (hr : Rd w w.heap.size size X m news) (h1 : ∀ u ∈ news, u.oneCell' = true)
    (h63 : m ≤ maxLen) (hbytes : m * bytes ≤ 140737488355328) (hB : B ≤ w.heap.size)
    (hK : ∀ A' cap' w', Appended w w' B size none A' m cap' news → K (a.put o.dst (.slice A' m cap')) w') : if Region.wanted o (yielded ops a.tmps) = true then Oper.wp P o a w K Q else E := by
  refine step_append_sl w hgd (.const (.slice none 0 0)) x t ho B e i z size bytes ht hi hz hsize hby hzs hsz none 0 0 [] rfl (Sl.nil _ _ _) X m c news hx hr h1 (by rw [Nat.zero_add]; exact h63) (by rw [Nat.zero_add]; exact hbytes) hB ?_
  intro A' cap' w' hap
  rw [Nat.zero_add] at hap ⊢
  exact hK A' cap' w' hap
/-- A list of the call's own, made since wr. -/
def Less (wr : World) (n : Nat) (l : List OpR) (s : Value) (wx : World) : Prop := ∃ A c, s = .slice A n c ∧ Sl wx wr.heap.size 7 A n c (opsV l) ∧ Frm wr wx fun _ => False
set_option maxRecDepth 100000 in
set_option maxHeartbeats 1000000 in
theorem less_a (wr : World) (gx ox nx k : Nat) (xs ys : List OpR) (hk1 : 1 ≤ k) (hk : k ≤ nx) (hc : nx ≤ k) (hnx : (nx : Int) ≤ 120) (hRF : Rd wr wr.heap.size 7 (some ⟨gx, ox, none⟩) (k - 1) (opsV xs)) (hRS : Rd wr wr.heap.size 7 (some ⟨gx, ox, none⟩) (nx - k) (opsV ys)) {t0 t1 t2 t3 t4 t6 t7 t8 t9 t10 t12 t13 t14 t15 t16 t17 t18 t19 t20 t21 t22 t23 t24 t25 t26 t27 t28 t29 t30 t31 t32 t33 t34 t35 t36 t37 t38 t39 t40 t41 t42 t43 t44 t45 t46 t47 t48 t49 t50 t51 t52 t53 t54 t55 t56 t57 t58 t59 t60 t61 t62 t63 t64 t65 t66 t67 t68 t69 t70 t71 t72 t73 t74 t75 t76 t77 t78 t79 t80 t81 t82 t83 t84 t85 t86 t87 t88 t89 t90 t91 t92 t93 t94 t95 t96 t97 t98 t99 t100 t101 t102 t103 t104 t105 t106 t107 t108 t109 t110 t111 t112 t113 t114 t115 t116 t117 t118 t119 t120 t121 t122 t123 t124 t125 t126 t127 : Value} {J K' K1 K2 K3 : Act → World → Prop} {R : Ending → World → Prop}
    (hJ : ∀ a' w', (∃ u14 u97 u98 u99 u100 u101 u102 u103 u104 u105 u106 u107 u108 u109 u110 u111 u112 u113 u114 u115 u116 u117 u118 u119 u120 u121 u122 u123 u124 u125 u126, Less wr (k - 1 + (nx - k)) (xs ++ ys) u14 w' ∧ a' = ⟨#[t0, t1, t2, t3, t4, .slice (some ⟨gx, ox, none⟩) nx k, t6, t7, t8, t9, t10, .int .i64 ((k : Int) - 1), t12, t13, u14, t15, t16, t17, t18, t19, t20, t21, t22, t23, t24, t25, t26, t27, t28, t29, t30, t31, t32, t33, t34, t35, t36, t37, t38, t39, t40, t41, t42, t43, t44, t45, t46, t47, t48, t49, t50, t51, t52, t53, t54, t55, t56, t57, t58, t59, t60, t61, t62, t63, t64, t65, t66, t67, t68, t69, t70, t71, t72, t73, t74, t75, t76, t77, t78, t79, t80, t81, t82, t83, t84, t85, t86, t87, t88, t89, t90, t91, t92, t93, t94, t95, t96, u97, u98, u99, u100, u101, u102, u103, u104, u105, u106, u107, u108, u109, u110, u111, u112, u113, u114, u115, u116, u117, u118, u119, u120, u121, u122, u123, u124, u125, u126, t127], []⟩) → J a' w') (hK : ∀ a' w', Met J a' w' → K' a' w') :
    Code.wp Tryd.prog reg21 (Exit.then K' (Exit.inBlock 3 (Exit.then K1 (Exit.then K2 (Exit.inBlock 2 (Exit.then K3 (bodyPost Tryd.prog Tryd.f9 R))))))) ⟨#[t0, t1, t2, t3, t4, .slice (some ⟨gx, ox, none⟩) nx k, t6, t7, t8, t9, t10, .int .i64 ((k : Int) - 1), t12, t13, t14, t15, t16, t17, t18, t19, t20, t21, t22, t23, t24, t25, t26, t27, t28, t29, t30, t31, t32, t33, t34, t35, t36, t37, t38, t39, t40, t41, t42, t43, t44, t45, t46, t47, t48, t49, t50, t51, t52, t53, t54, t55, t56, t57, t58, t59, t60, t61, t62, t63, t64, t65, t66, t67, t68, t69, t70, t71, t72, t73, t74, t75, t76, t77, t78, t79, t80, t81, t82, t83, t84, t85, t86, t87, t88, t89, t90, t91, t92, t93, t94, t95, t96, t97, t98, t99, t100, t101, t102, t103, t104, t105, t106, t107, t108, t109, t110, t111, t112, t113, t114, t115, t116, t117, t118, t119, t120, t121, t122, t123, t124, t125, t126, t127], []⟩ wr := by
  obtain ⟨i50, hi, hz0, hz1, hz2⟩ := info_parts info50
  have RF := Lib.hid hRF
  have RS := Lib.hid hRS
  have k0 : (0 : Int) ≤ (k : Int) := by omega
  have k1 : (k : Int) ≤ (nx : Int) := by omega
  have hwk : IntKind.i64.wrap (k : Int) = (k : Int) := IntWalk.i64_in _ (by omega)
  have hkc1 : (k : Int) - 1 ≤ (k : Int) := by omega
  have hk2 : (0 : Int) ≤ (k : Int) - 1 := by omega
  have hk3 : (1 : Int) ≤ (k : Int) := by omega
  have hk4 : (k : Int) - 1 ≤ (k : Int) := by omega
  have hk5 : (k : Int) ≤ (k : Int) := by omega
  obtain ⟨r1, r2⟩ : (k - 1) ≤ maxLen ∧ (k - 1) * 48 ≤ 140737488355328 := by unfold maxLen; omega
  obtain ⟨s1, s2⟩ : (k - 1) + (nx - k) ≤ maxLen ∧ ((k - 1) + (nx - k)) * 48 ≤ 140737488355328 := by unfold maxLen; omega
  clear hRF hRS
  conv => arg 2; whnf
  go_region_law (first
    | (refine step_append_nil rfl (.tmp 114) 39 rfl wr.heap.size 50 i50 _ 7 48 Tryd.underlying39 hi hz0 hz1 hz2 rfl (by decide) (some ⟨gx, ox, none⟩) (k - 1) k (opsV xs) (by go_simp) RF.out (opsV_one _) r1 r2 (Nat.le_refl _) ?_; intro A5 c5 w5 hap; replace hap := Lib.hid hap)
    | (refine step_append_sl _ rfl (.tmp 115) (.tmp 119) 39 rfl wr.heap.size 50 i50 _ 7 48 Tryd.underlying39 hi hz0 hz1 hz2 rfl (by decide) A5 (k - 1) c5 (opsV xs) (by go_simp) hap.out.1 (some ⟨gx, ox, none⟩) (nx - k) (k - k) (opsV ys) (by go_simp) (RS.out.new_ ((Frm.refl wr fun _ => False).drew.then_ (hap.out.2.1.mono fun _ _ h => blk_none _ h))) (opsV_one _) s1 s2 hap.out.2.1.size ?_; intro A6 c6 w6 hap2; replace hap2 := Lib.hid hap2))
  all_goals
    dsimp [Act.put]
    go_wp2_with fail
    go_meet
    have hF : Frm wr w6 fun _ => False := ((Frm.refl wr fun _ => False).drew.then_ (hap.out.2.1.mono fun _ _ h => blk_none _ h)).trans hap2.out.2.1 (fun q hq h => by
      rcases hap.out.2.2 q h with h | h
      · exact blk_none _ h
      · exact absurd hq (Nat.not_lt.2 h))
    have h1 := hap2.out.1
    rw [show opsV xs ++ opsV ys = opsV (xs ++ ys) from List.flatMap_append.symm] at h1
    exact ⟨A6, c6, by rw [show k - 1 + (nx - k) = k - 1 by omega], h1, hF⟩
set_option maxRecDepth 100000 in
set_option maxHeartbeats 1000000 in
theorem less_b (wr : World) (gx ox nx cx k : Nat) (xs ys : List OpR) (hk1 : 1 ≤ k) (hk : k ≤ nx) (hc : nx ≤ cx) (hcx : (cx : Int) ≤ 9223372036854775807) (hnx : (nx : Int) ≤ 120) (hne : ¬ cx = k) (hRF : Rd wr wr.heap.size 7 (some ⟨gx, ox, none⟩) (k - 1) (opsV xs)) (hRS : Rd wr wr.heap.size 7 (some ⟨gx, ox + k * 7, none⟩) (nx - k) (opsV ys)) {t0 t1 t2 t3 t4 t6 t7 t8 t9 t10 t12 t13 t14 t15 t16 t17 t18 t19 t20 t21 t22 t23 t24 t25 t26 t27 t28 t29 t30 t31 t32 t33 t34 t35 t36 t37 t38 t39 t40 t41 t42 t43 t44 t45 t46 t47 t48 t49 t50 t51 t52 t53 t54 t55 t56 t57 t58 t59 t60 t61 t62 t63 t64 t65 t66 t67 t68 t69 t70 t71 t72 t73 t74 t75 t76 t77 t78 t79 t80 t81 t82 t83 t84 t85 t86 t87 t88 t89 t90 t91 t92 t93 t94 t95 t96 t97 t98 t99 t100 t101 t102 t103 t104 t105 t106 t107 t108 t109 t110 t111 t112 t113 t114 t115 t116 t117 t118 t119 t120 t121 t122 t123 t124 t125 t126 t127 : Value} {J K' K1 K2 K3 : Act → World → Prop} {R : Ending → World → Prop}
    (hJ : ∀ a' w', (∃ u14 u97 u98 u99 u100 u101 u102 u103 u104 u105 u106 u107 u108 u109 u110 u111 u112 u113 u114 u115 u116 u117 u118 u119 u120 u121 u122 u123 u124 u125 u126, Less wr (k - 1 + (nx - k)) (xs ++ ys) u14 w' ∧ a' = ⟨#[t0, t1, t2, t3, t4, .slice (some ⟨gx, ox, none⟩) nx cx, t6, t7, t8, t9, t10, .int .i64 ((k : Int) - 1), t12, t13, u14, t15, t16, t17, t18, t19, t20, t21, t22, t23, t24, t25, t26, t27, t28, t29, t30, t31, t32, t33, t34, t35, t36, t37, t38, t39, t40, t41, t42, t43, t44, t45, t46, t47, t48, t49, t50, t51, t52, t53, t54, t55, t56, t57, t58, t59, t60, t61, t62, t63, t64, t65, t66, t67, t68, t69, t70, t71, t72, t73, t74, t75, t76, t77, t78, t79, t80, t81, t82, t83, t84, t85, t86, t87, t88, t89, t90, t91, t92, t93, t94, t95, t96, u97, u98, u99, u100, u101, u102, u103, u104, u105, u106, u107, u108, u109, u110, u111, u112, u113, u114, u115, u116, u117, u118, u119, u120, u121, u122, u123, u124, u125, u126, t127], []⟩) → J a' w') (hK : ∀ a' w', Met J a' w' → K' a' w') :
    Code.wp Tryd.prog reg21 (Exit.then K' (Exit.inBlock 3 (Exit.then K1 (Exit.then K2 (Exit.inBlock 2 (Exit.then K3 (bodyPost Tryd.prog Tryd.f9 R))))))) ⟨#[t0, t1, t2, t3, t4, .slice (some ⟨gx, ox, none⟩) nx cx, t6, t7, t8, t9, t10, .int .i64 ((k : Int) - 1), t12, t13, t14, t15, t16, t17, t18, t19, t20, t21, t22, t23, t24, t25, t26, t27, t28, t29, t30, t31, t32, t33, t34, t35, t36, t37, t38, t39, t40, t41, t42, t43, t44, t45, t46, t47, t48, t49, t50, t51, t52, t53, t54, t55, t56, t57, t58, t59, t60, t61, t62, t63, t64, t65, t66, t67, t68, t69, t70, t71, t72, t73, t74, t75, t76, t77, t78, t79, t80, t81, t82, t83, t84, t85, t86, t87, t88, t89, t90, t91, t92, t93, t94, t95, t96, t97, t98, t99, t100, t101, t102, t103, t104, t105, t106, t107, t108, t109, t110, t111, t112, t113, t114, t115, t116, t117, t118, t119, t120, t121, t122, t123, t124, t125, t126, t127], []⟩ wr := by
  obtain ⟨i50, hi, hz0, hz1, hz2⟩ := info_parts info50
  have RF := Lib.hid hRF
  have RS := Lib.hid hRS
  have k0 : (0 : Int) ≤ (k : Int) := by omega
  have k1 : (k : Int) ≤ (nx : Int) := by omega
  have hwk : IntKind.i64.wrap (k : Int) = (k : Int) := IntWalk.i64_in _ (by omega)
  have hkc1 : (k : Int) - 1 ≤ (cx : Int) := by omega
  have hk2 : (0 : Int) ≤ (k : Int) - 1 := by omega
  have hk3 : (1 : Int) ≤ (k : Int) := by omega
  have hk4 : (k : Int) - 1 ≤ (k : Int) := by omega
  have hk5 : (k : Int) ≤ (cx : Int) := by omega
  obtain ⟨r1, r2⟩ : (k - 1) ≤ maxLen ∧ (k - 1) * 48 ≤ 140737488355328 := by unfold maxLen; omega
  obtain ⟨s1, s2⟩ : (k - 1) + (nx - k) ≤ maxLen ∧ ((k - 1) + (nx - k)) * 48 ≤ 140737488355328 := by unfold maxLen; omega
  clear hRF hRS
  conv => arg 2; whnf
  go_region_law (first
    | (refine step_append_nil rfl (.tmp 114) 39 rfl wr.heap.size 50 i50 _ 7 48 Tryd.underlying39 hi hz0 hz1 hz2 rfl (by decide) (some ⟨gx, ox, none⟩) (k - 1) cx (opsV xs) (by go_simp) RF.out (opsV_one _) r1 r2 (Nat.le_refl _) ?_; intro A5 c5 w5 hap; replace hap := Lib.hid hap)
    | (refine step_append_sl _ rfl (.tmp 115) (.tmp 119) 39 rfl wr.heap.size 50 i50 _ 7 48 Tryd.underlying39 hi hz0 hz1 hz2 rfl (by decide) A5 (k - 1) c5 (opsV xs) (by go_simp) hap.out.1 (some ⟨gx, ox + k * 7, none⟩) (nx - k) (cx - k) (opsV ys) (by go_simp) (RS.out.new_ ((Frm.refl wr fun _ => False).drew.then_ (hap.out.2.1.mono fun _ _ h => blk_none _ h))) (opsV_one _) s1 s2 hap.out.2.1.size ?_; intro A6 c6 w6 hap2; replace hap2 := Lib.hid hap2))
  all_goals
    dsimp [Act.put]
    go_wp2_with fail
    go_meet
    have hF : Frm wr w6 fun _ => False := ((Frm.refl wr fun _ => False).drew.then_ (hap.out.2.1.mono fun _ _ h => blk_none _ h)).trans hap2.out.2.1 (fun q hq h => by
      rcases hap.out.2.2 q h with h | h
      · exact blk_none _ h
      · exact absurd hq (Nat.not_lt.2 h))
    have h1 := hap2.out.1
    rw [show opsV xs ++ opsV ys = opsV (xs ++ ys) from List.flatMap_append.symm] at h1
    exact ⟨A6, c6, rfl, h1, hF⟩
end Go.Proofs.YtmjpaaippilioaaDoor
