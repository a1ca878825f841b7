import Derived.Test.YtajcijocjbakbaaRhG
import Derived.Test.YtajcijocjbakbaaRhE
import Derived.Test.YtajcijocjbakbaaRhF
namespace Go.Proofs.Ytajcijocjbakbaa
open Go.RowKit

theorem upto_pos (qs : List (List En)) (i j : Nat) (q : List En) (x : En) (hq : qs[i]? = some q) (hx : q[j]? = some x) : upto qs (pos qs i + (j + 1)) = upto qs (pos qs i + j) ++ [x] := by
  obtain ⟨hi, rfl⟩ := List.getElem?_eq_some_iff.1 hq
  obtain ⟨hj, rfl⟩ := List.getElem?_eq_some_iff.1 hx
  have h := flat_at qs i j hi hj
  obtain ⟨h1, h2⟩ := List.getElem?_eq_some_iff.1 h
  rw [← Nat.add_assoc, upto_succ qs _ h1, h2]
theorem upto_len (qs : List (List En)) (k : Nat) : (upto qs k).length ≤ qs.flatten.length := by
  unfold upto
  rw [List.length_map, List.length_take, ← flat_snd, List.length_map]
  exact Nat.min_le_right _ _
theorem bk_len (nb b : Nat) (l : List En) : (bk nb b l).length ≤ l.length := List.length_filter_le _ _
theorem bk_snoc (nb b : Nat) (l : List En) (x : En) : bk nb b (l ++ [x]) = if hk nb x = b then bk nb b l ++ [x] else bk nb b l := by
  unfold bk
  rw [List.filter_append]
  split
  · rename_i h; simp [h]
  · rename_i h; simp [h]
set_option maxRecDepth 100000 in
set_option maxHeartbeats 4000000 in
theorem rrehash_in (A : Option Addr) (n c nb : Nat) (hs : List Hd) (qs : List (List En)) (w : World) (h2 : 2 ≤ nb) (h8 : nb ≤ 8) (hr : RdD w w.heap.size A n hs qs) (hn : (n : Int) ≤ 4000) (hl : ∀ q ∈ qs, q.length ≤ 4000) (hok : ∀ q ∈ qs, ∀ x ∈ q, EnOk x) (htot : qs.flatten.length ≤ 4000) :
    Calls Try.prog 33 #[.slice A n c, .int .i64 nb] w fun e w' => ∃ Ao co hs', e = .returned (.slice Ao (2 ^ nb) co) ∧ OwD w' w.heap.size w.heap.size Ao (2 ^ nb) co hs' (rehash nb qs) ∧ Frm w w' fun _ => False := by
  obtain ⟨i93, hi, hz0, hz1, hz2⟩ := info_parts info93
  obtain ⟨i101, hj, hy0, hy1, hy2⟩ := info_parts info101
  have HSZ : ∀ V, Calls Try.prog 48 #[.int .i64 nb] V fun e w' => e = .returned (.int .i64 (2 ^ nb : Nat)) ∧ V = w' := fun V => by rw [← sz_pow nb h2 h8]; exact rsize_any _ _
  obtain ⟨z, hz⟩ : ∃ z, 2 ^ nb = z := ⟨_, rfl⟩
  have hz4 : 4 ≤ z := by rw [← hz]; exact Nat.pow_le_pow_right (n := 2) (by decide) h2
  have hz256 : z ≤ 256 := by rw [← hz]; exact Nat.pow_le_pow_right (n := 2) (by decide) h8
  rw [hz] at HSZ ⊢
  have HSZ := Lib.hid HSZ
  have HZ := Lib.hid hz
  have HR := Lib.hid hr
  have HQL := Lib.hid hr.lenq
  have HL := Lib.hid hl
  have HOK := Lib.hid hok
  have HT := Lib.hid htot
  clear hr hz hl hok htot
  go_enter Try.func33, Try.ntmps33
  go_wp2_with fail
  go_loopw [5, 6] (fun o i wr => ∃ (b : Nat) (Ao : Option Addr) (co : Nat) (hs' : List Hd), i = .int .i64 b ∧ b ≤ z ∧ o = .slice Ao b co ∧ OwD wr w.heap.size w.heap.size Ao b co hs' ((rehash nb qs).take b) ∧ Frm w wr fun _ => False) (fun _ i _ => z - (intOf i).toNat)
  case atStart => exact ⟨0, none, 0, [], rfl, Nat.zero_le _, rfl, OwD.nil _ _ _, Frm.refl _ _⟩
  case round =>
    obtain ⟨b, Ao, co, hs', rfl, hb, rfl, hS, hF⟩ := hrel
    have S := Lib.hid hS
    have F := Lib.hid hF
    clear hS hF
    by_cases hlt : b < z
    · have b0 : (0 : Int) ≤ (b : Int) := by omega
      have b1 : (b : Int) < (z : Int) := by omega
      refine at_world' ?_
      intro wb hwb
      rw [← hwb] at S F
      clear hwb
      go_wp2_with (go_at_call 48; refine (HSZ.out _).mono ?_; rintro e w' ⟨rfl, rfl⟩)
      go_loopw [7, 8] (fun l i wr => ∃ (k m : Nat) (Al : Option Addr) (cl : Nat), i = .int .i64 k ∧ k ≤ n ∧ l = .slice Al m cl ∧ Sl wr wb.heap.size 3 Al m cl (ens (bk nb b (upto qs (pos qs k)))) ∧ Frm wb wr fun _ => False) (fun _ i _ => n - (intOf i).toNat)
      case atStart => exact ⟨0, 0, none, 0, rfl, Nat.zero_le _, rfl, Sl.nil _ _ _, Frm.refl _ _⟩
      case round =>
        obtain ⟨k, m, Al, cl, rfl, hkn, rfl, hM, hG⟩ := hrel
        have M := Lib.hid hM
        have G := Lib.hid hG
        clear hM hG
        by_cases hlk : k < n
        · have k0 : (0 : Int) ≤ (k : Int) := by omega
          have k1 : (k : Int) < (n : Int) := by omega
          have hR0 := HR.out.new_ (F.out.then_ G.out)
          obtain ⟨g, off, Ak, mk, ck, q, rfl, -, hh, -, hq, hhd, hmk⟩ := hR0.at hlk
          have hkq : k < qs.length := by rw [HQL.out]; exact hlk
          have hqe : qs[k] = q := by rw [List.getElem?_eq_getElem hkq] at hq; injection hq
          have hps := pos_succ qs k hkq
          rw [hqe] at hps
          have hql := HL.out q (List.mem_of_getElem? hq)
          have m1 : (mk : Int) ≤ 4000 := by omega
          have HQ := Lib.hid hq
          have HHD := Lib.hid hhd
          have HPS := Lib.hid hps
          have HMK := Lib.hid hmk
          clear hR0 hq hhd hps hqe hmk
          go_wp2_with fail
          go_loopw [7, 9] (fun l i wr => ∃ (j m : Nat) (Al : Option Addr) (cl : Nat), i = .int .i64 j ∧ j ≤ mk ∧ l = .slice Al m cl ∧ Sl wr wb.heap.size 3 Al m cl (ens (bk nb b (upto qs (pos qs k + j)))) ∧ Frm wb wr fun _ => False) (fun _ i _ => mk - (intOf i).toNat)
          case atStart => exact ⟨0, m, Al, cl, rfl, Nat.zero_le _, rfl, M.out, G.out⟩
          case round =>
            obtain ⟨j, m, Al, cl, rfl, hj', rfl, hM, hG⟩ := hrel
            have M := Lib.hid hM
            have G := Lib.hid hG
            clear hM hG
            have hh' := (HR.out.new_ (F.out.then_ G.out))
            obtain ⟨g', off', Ak', mk', ck', q', e1, -, hhw, hrk, hq', hhd', hmk'⟩ := hh'.at hlk
            injection e1 with e1
            injection e1 with e1 e2
            subst e1 e2
            have e3 : (⟨Ak', mk', ck'⟩ : Hd) = ⟨Ak, mk, ck⟩ := by rw [HHD.out] at hhd'; injection hhd' with h; exact h.symm
            injection e3 with e3 e4 e5
            subst e3 e4 e5
            have e6 : q' = q := by rw [HQ.out] at hq'; injection hq' with h; exact h.symm
            subst e6
            clear hh' hq' hhd' hmk'
            by_cases hjm : j < mk'
            · have hjq : j < q'.length := by have := HMK.out; omega
              obtain ⟨x, hx⟩ : ∃ x, q'[j] = x := ⟨_, rfl⟩
              have hqx : q'[j]? = some x := by rw [List.getElem?_eq_getElem hjq, hx]
              have hxok := HOK.out q' (List.mem_of_getElem? HQ.out) x (List.mem_of_getElem? hqx)
              have hup := upto_pos qs k j q' x HQ.out hqx
              have hul := upto_len qs (pos qs k + j)
              obtain ⟨g2, off2, hA2, -, hcell⟩ := (Rd.ens hrk).2 (by omega)
              subst hA2
              obtain ⟨p0, p1, p2⟩ := hcell j hjq
              rw [hx] at p0 p1 p2
              have hml : m ≤ 4000 := by
                have h1 := M.out.len
                rw [ens_len] at h1
                have h3 := bk_len nb b (upto qs (pos qs k + j))
                have h4 := HT.out
                omega
              obtain ⟨r1, r2⟩ : m + 1 ≤ maxLen ∧ (m + 1) * 24 ≤ 140737488355328 := by unfold maxLen; omega
              obtain ⟨y, hy⟩ : ∃ y, hk nb x = y := ⟨_, rfl⟩
              have hbs := bk_snoc nb b (upto qs (pos qs k + j)) x
              rw [hy, ← hup] at hbs
              have HB := Lib.hid hbs
              have HASH := Lib.hid (fun V => rhash_en x hxok nb h2 h8 V)
              rw [hy] at HASH
              have j0 : (0 : Int) ≤ (j : Int) := by omega
              have j1 : (j : Int) < (mk' : Int) := by omega
              have y0 : (0 : Int) ≤ (y : Int) := by omega
              clear hcell hrk hx hqx hup hul hy hbs hml hjq
              by_cases hyb : y = b
              · have e1 : ((y : Int) == (b : Int)) = true := by simp; omega
                go_wp2_with (first
                  | (go_at_call 49; refine (HASH.out _).mono ?_; rintro e w' ⟨rfl, rfl⟩)
                  | (at_builtin; refine wpList_append_sl _ rfl _ _ 93 rfl wb.heap.size 101 i101 _ 3 24 Try.underlying93 hj hy0 hy1 hy2 rfl (by decide) _ _ _ _ rfl (M.out.alloc _) _ 1 1 x.V rfl (Rd.fresh_at _ 101 #[.int .i64 x.t, .int .u32 x.k, .int .u64 x.tok] rfl rfl) x.one r1 r2 (Nat.le_trans G.out.size (by simp)) ?_; intro A' cap' w3 hap; replace hap := Lib.hid hap))
                go_roundw
                case rel => exact ⟨j + 1, m + 1, A', cap', by go_num, by omega, rfl, by rw [HB.out, if_pos hyb, ens_snoc]; exact hap.out.1, (G.out.then_ ((Frm.refl _ _).alloc _)).fresh hap.out.2.1 (fun j hj => (M.out.ge hj).1)⟩
                case measure => simp [intOf]; omega
              · have e1 : ((y : Int) == (b : Int)) = false := by simp; omega
                go_wp2_with (go_at_call 49; refine (HASH.out _).mono ?_; rintro e w' ⟨rfl, rfl⟩)
                go_roundw
                case rel => exact ⟨j + 1, m, Al, cl, by go_num, by omega, rfl, by rw [HB.out, if_neg hyb]; exact M.out, G.out⟩
                case measure => simp [intOf]; omega
            · obtain rfl : j = mk' := by omega
              clear hrk
              go_wp2_with fail
              go_roundw
              case rel => exact ⟨k + 1, m, Al, cl, by go_num, by omega, rfl, by rw [HPS.out, ← HMK.out]; exact M.out, G.out⟩
              case measure => simp [intOf]; omega
        · obtain rfl : k = n := by omega
          have hall : upto qs (pos qs k) = qs.flatten := by rw [← HQL.out, pos_all, upto_all]
          have M := Lib.hid (hall ▸ M.out)
          have hbl : b < (rehash nb qs).length := by show b < (bks nb _).length; rw [bks_len, HZ.out]; exact hlt
          have htk : (rehash nb qs).take (b + 1) = (rehash nb qs).take b ++ [bk nb b qs.flatten] := by
            rw [List.take_succ_eq_append_getElem hbl]
            congr 2
            exact bks_at _ _ _ _
          have HTK := Lib.hid htk
          obtain ⟨r1, r2⟩ : b + 1 ≤ maxLen ∧ (b + 1) * 24 ≤ 140737488355328 := by unfold maxLen; omega
          clear htk hall hbl
          go_wp2_with (at_builtin; refine wpList_append_sl _ rfl _ _ 81 rfl w.heap.size 93 i93 _ 1 24 Try.underlying81 hi hz0 hz1 hz2 rfl (by decide) _ _ _ _ rfl ((S.out.new_ G.out).out.alloc _) _ 1 1 [.slice Al m cl] rfl (Rd.fresh_at _ 93 #[.slice Al m cl] rfl rfl) (by simp [Value.oneCell']) r1 r2 (Nat.le_trans (Nat.le_trans F.out.size G.out.size) (by simp)) ?_; intro A' cap' w3 hap; replace hap := Lib.hid hap)
          go_roundw
          case rel =>
            have hlo : ∀ j, blk Al j → wb.heap.size ≤ j := fun j hj => (M.out.ge hj).1
            refine ⟨b + 1, A', cap', hs' ++ [⟨Al, m, cl⟩], by go_num, by omega, rfl, ?_, ?_⟩
            · rw [HTK.out]
              refine ((S.out.new_ G.out).new_ ((Frm.refl _ _).alloc _)).push ((M.out.alloc _).mono F.out.size) (fun j hj h => ?_) (fun i hi j hj h => ?_) hap.out
              · have := hlo j hj; have := (S.out.out.ge h).2; omega
              · have := hlo j hj; have := ((S.out.row i hi (by rw [S.out.lenq, ← S.out.len]; exact hi)).ge h).2; omega
            · exact ((F.out.then_ G.out).then_ ((Frm.refl _ _).alloc _)).fresh hap.out.2.1 (fun j hj => (S.out.out.ge hj).1)
          case measure => simp [intOf]; omega
    · obtain rfl : b = z := by omega
      go_wp2_with (go_at_call 48; refine (HSZ.out _).mono ?_; rintro e w' ⟨rfl, rfl⟩)
      go_ret
      refine ⟨Ao, co, hs', rfl, ?_, F.out⟩
      have := S.out
      rw [List.take_of_length_le (by show (bks nb _).length ≤ _; rw [bks_len, HZ.out]; exact Nat.le_refl _)] at this
      exact this
theorem rrehash_out (A : Option Addr) (n c : Nat) (b : Int) (h : tbl b = false) (w : World) : Calls Try.prog 33 #[.slice A n c, .int .i64 b] w fun e w' => e = .returned (.slice none 0 0) ∧ w = w' := by
  have HSZ : ∀ V, Calls Try.prog 48 #[.int .i64 b] V fun e w' => e = .returned (.int .i64 0) ∧ V = w' := fun V => by
    have := rsize_any b V
    unfold sz at this
    rw [h] at this
    exact this
  have HSZ := Lib.hid HSZ
  clear h
  go_enter Try.func33, Try.ntmps33
  go_wp2_with fail
  go_loopw [5, 6] (fun o i wr => o = .slice none 0 0 ∧ i = .int .i64 0 ∧ w = wr) (fun _ _ _ => 0)
  case atStart => exact ⟨rfl, rfl, rfl⟩
  case round =>
    obtain ⟨rfl, rfl, rfl⟩ := hrel
    go_wp2_with (go_at_call 48; refine (HSZ.out _).mono ?_; rintro e w' ⟨rfl, rfl⟩)
    go_ret
    exact ⟨rfl, rfl⟩
end Go.Proofs.Ytajcijocjbakbaa
