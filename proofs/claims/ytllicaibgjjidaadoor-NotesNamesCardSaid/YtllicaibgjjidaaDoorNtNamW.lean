import Derived.Test.YtllicaibgjjidaaDoorNtT
import Derived.Deep.RegionWith
namespace Go.Proofs.YtllicaibgjjidaaDoor.Nam
open Go.ChangeShapes Go.WideShapes Go.ChangeAt Go.WideMaps Go.WideElems Go.RowKit Go.Proofs.YtllicaibgjjidaaDoor

theorem box7 {w W : World} {n : Nt} (hf : Frm (w.alloc (boxP n)) W fun _ => False) :
    W.cell? ⟨w.heap.size, 0, none⟩ = some (.int .i64 n.s) ∧ W.cell? ⟨w.heap.size, 1, none⟩ = some (.int .i64 n.t) ∧ W.cell? ⟨w.heap.size, 2, none⟩ = some (.int .u8 n.k) ∧ W.cell? ⟨w.heap.size, 3, none⟩ = some (.int .u32 n.a) ∧ W.cell? ⟨w.heap.size, 4, none⟩ = some (.int .i64 n.o) ∧ W.cell? ⟨w.heap.size, 5, none⟩ = some (.int .u32 n.p) ∧ W.cell? ⟨w.heap.size, 6, none⟩ = some (.int .u64 n.v) := by
  have := cells7 (g := w.heap.size) (o := 0) hf (fun j u hu => by rw [Nat.zero_add]; exact boxP_get w n j u hu)
  simpa using this

set_option maxHeartbeats 4000000 in
theorem walk (k : Int) (n : Nt) (k0 : 0 ≤ k) (k1 : k ≤ 255) (n0 : 0 ≤ n.k) (n1 : n.k ≤ 255) (w : World) (hT : Tab w) :
    Calls Tryd.prog 6 #[.int .u8 k, .agg #[.int .i64 n.s, .int .i64 n.t, .int .u8 n.k, .int .u32 n.a, .int .i64 n.o, .int .u32 n.p, .int .u64 n.v]] w fun e w' => e = .returned (.bool true) ∧ Frm w w' fun _ => False := by
  have HW := Lib.hid ((Frm.refl w fun _ => False).alloc (boxP n))
  have HT := Lib.hid (hT.frm HW.out id)
  have Hs := Lib.hid (box7 (n := n) (Frm.refl (w.alloc (boxP n)) _))
  clear hT
  go_enter Tryd.func6, Tryd.ntmps6
  go_wp2_with (first
    | (go_at_call 7; refine (name_any k k0 k1 _ HT.out).mono ?_; rintro e w' ⟨rfl, rfl⟩)
    | (go_at_call 18; refine (rname_any k k0 k1 _).mono ?_; rintro e w1 ⟨rfl, hf1⟩; obtain ⟨q0, q1, q2, q3, q4, q5, q6⟩ := box7 hf1; replace hf1 := Lib.hid hf1)
    | (go_at_call 10; refine (lot_any k _).mono ?_; rintro e w' ⟨rfl, rfl⟩)
    | (go_at_call 19; refine (rlot_any k _).mono ?_; rintro e w' ⟨rfl, rfl⟩)
    | (go_at_call 9; refine (add_none n w1).mono ?_; rintro e w2 ⟨rfl, hf2⟩; replace hf2 := Lib.hid (hf1.out.then_ hf2); clear q0 q1 q2 q3 q4 q5 q6 hf1)
    | (go_at_call 14; refine (count_nil _).mono ?_; rintro e w' ⟨rfl, rfl⟩)
    | (go_at_call 15; refine (all_none _).mono ?_; rintro e w' ⟨rfl, rfl⟩)
    | (go_at_call 16; refine (since_none 0 _).mono ?_; rintro e w' ⟨rfl, rfl⟩))
  have T0 := Lib.hid (Two.first w2)
  have HT2 := Lib.hid (HT.out.frm hf2.out id)
  have fw := few0
  have sz : (addL [] n).length ≤ 1 := by have := addL_length [] n; simpa using this
  have sz' : (addL [] n).length ≤ 9223372036854775807 := by omega
  have szf : Few (addL [] n).length := ⟨by omega⟩
  have oks : Oks (addL [] n) := by intro x hx; unfold addL at hx; split at hx <;> simp at hx; subst hx; exact ⟨n0, n1⟩
  have HS := Lib.hid (And.intro sz' (And.intro szf oks))
  clear sz sz' szf oks HT
  obtain ⟨p0, p1, p2, p3, p4, p5, p6⟩ := box7 (n := n) (hf2.out.then_ T0.out.p.frm)
  go_region_with (first
      | (go_at_call 9; refine (add_any _ _ _ _ [] n n0 n1 _ (HT2.out.frm (S := fun _ => False) (by (repeat (first | exact Frm.refl _ _ | apply Frm.drew | apply Frm.drewN | apply Frm.alloc))) id) (T0.out.new_ (by (repeat (first | exact Frm.refl _ _ | apply Frm.drew | apply Frm.drewN | apply Frm.alloc)))).p.lst (T0.out.new_ (by (repeat (first | exact Frm.refl _ _ | apply Frm.drew | apply Frm.drewN | apply Frm.alloc)))).p.le few0).mono ?_; rintro e w3 ⟨rfl, ha⟩; obtain ⟨A1, c1, T1⟩ := (T0.out.new_ (by (repeat (first | exact Frm.refl _ _ | apply Frm.drew | apply Frm.drewN | apply Frm.alloc)))).addP ha; replace T1 := Lib.hid T1; obtain ⟨x30, x31, x32, x33, x34, x35, x36⟩ := box7 (hf2.out.then_ T1.out.p.frm); clear ha T0)
      | (go_at_call 13; refine (other_any n n0 n1 _).mono ?_; rintro e w4 ⟨rfl, hf⟩; have T2 := Lib.hid (T1.out.new_ hf);  clear hf T1)
      | (go_at_call 12; refine (radd_any _ _ _ _ [] n n0 n1 _ T2.out.r.lst T2.out.r.le few0).mono ?_; rintro e w5 ⟨rfl, ha⟩; obtain ⟨A2, c2, T3⟩ := T2.out.addR ha; replace T3 := Lib.hid T3;  have h5 := T3.out.r.lst.head; clear ha T2)
      | (go_at_call 15; refine (all_any _ _ _ _ _ _ T3.out.p.le T3.out.p.lst HS.out.2.1).mono ?_; rintro e w6 ⟨A', rfl, hsl, hf⟩; have T4 := Lib.hid (T3.out.new_ hf);  have h6 := T4.out.r.lst.head; replace hsl := Lib.hid hsl; clear hf)
      | (go_at_call 17; refine (same_any w6.heap.size _ _ _ _ _ (addL [] n) w6 HS.out.2.2 hsl.out.rd T4.out.r.lst.sl.rd HS.out.1).mono ?_; rintro e w7 ⟨rfl, hf⟩; have T5 := Lib.hid (T4.out.new_ hf);  clear hf)
      | (go_at_call 11; refine (lives_any _ (HT2.out.frm T5.out.p.frm id)).mono ?_; rintro e w8 ⟨rfl, hf⟩; have T6 := Lib.hid (T5.out.new_ hf);  clear hf))
  all_goals
    go_wp2_with fail
    go_ret
    exact ⟨rfl, (HW.out.then_ hf2.out).then_ T6.out.p.frm⟩
end Go.Proofs.YtllicaibgjjidaaDoor.Nam
