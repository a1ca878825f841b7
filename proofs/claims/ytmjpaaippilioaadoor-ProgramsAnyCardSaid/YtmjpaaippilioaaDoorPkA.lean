import Derived.Test.YtmjpaaippilioaaDoorPiL
import Derived.Test.YtmjpaaippilioaaDoorPgV
namespace Go.Proofs.YtmjpaaippilioaaDoor
open Go.RowKit

/-! ### the document's digits -/
def dext (d : Nat) : ByteArray := (⟨#[48, 49, 50, 51, 52, 53, 54, 55, 56, 57]⟩ : ByteArray).extract d (d + 1)
def goD : Nat → Nat → ByteArray → ByteArray
  | 0, _, s => s
  | f + 1, m, s => if m = 0 then s else goD f (m / 10) (dext (m % 10) ++ s)
def dig (n : Nat) : ByteArray := goD 3 (n / 10) (dext (n % 10))
theorem dext_size (d : Nat) (hd : d ≤ 9) : (dext d).size = 1 := by
  have h : ∀ d, d < 10 → (dext d).size = 1 := by decide +kernel
  exact h d (by omega)
theorem goD_zero (f : Nat) (s : ByteArray) : goD f 0 s = s := by cases f <;> rfl
theorem dig_dec : ∀ n, n < 256 → dig n = dec (n : Int) := by decide +kernel
set_option maxRecDepth 100000 in
theorem digits_ref (n : Nat) (hn : n < 256) (w : World) : Calls Tryd.prog 78 #[.int .i64 n] w fun e w' => e = .returned (.string (dec n)) ∧ w = w' := by
  rw [← dig_dec n hn]
  have n0 : (0 : Int) ≤ (n : Int) := by omega
  have n1 : (n : Int) ≤ 255 := by omega
  obtain ⟨d, hd⟩ : ∃ d, n % 10 = d := ⟨_, rfl⟩
  obtain ⟨q, hq⟩ : ∃ q, n / 10 = q := ⟨_, rfl⟩
  have hd1 : (n : Int) % 10 = (d : Int) := by omega
  have hd2 : (n : Int).tmod 10 = (d : Int) := by rw [Int.tmod_eq_emod_of_nonneg n0]; exact hd1
  have hq1 : (n : Int) / 10 = (q : Int) := by omega
  have hq2 : (n : Int).tdiv 10 = (q : Int) := by rw [Int.tdiv_eq_ediv_of_nonneg n0]; exact hq1
  have d0 : (0 : Int) ≤ (d : Int) := by omega
  have d1 : (d : Int) ≤ 9 := by omega
  have hdig : dig n = goD 3 q (dext d) := by unfold dig; rw [hq, hd]
  obtain ⟨R, hR⟩ : ∃ R, dig n = R := ⟨_, rfl⟩
  have hq3 : q < 1000 := by omega
  rw [hR] at hdig ⊢
  have HR := Lib.hid hdig
  have HQ3 := Lib.hid hq3
  clear hR hd hq hdig hq3
  go_enter Tryd.func78, Tryd.ntmps78
  go_wp2_with fail
  go_loopw [0, 3] (fun i s wr => ∃ (f m : Nat) (S : ByteArray), i = .int .i64 m ∧ s = .string S ∧ f ≤ 3 ∧ S.size + f ≤ 4 ∧ m < 10 ^ f ∧ goD f m S = R ∧ w = wr) (fun i _ _ => (intOf i).toNat)
  case atStart => exact ⟨3, q, dext d, rfl, rfl, Nat.le_refl _, by rw [dext_size d (by omega)]; decide, HQ3.out, HR.out.symm, rfl⟩
  case round =>
    obtain ⟨f, m, S, rfl, rfl, hf, hsz, hm, hgo, hw⟩ := hrel
    subst hw
    have HM := Lib.hid hm
    have HGO := Lib.hid hgo
    have m0 : (0 : Int) ≤ (m : Int) := by omega
    have m1 : m < 1000 := Nat.lt_of_lt_of_le hm (Nat.pow_le_pow_right (by decide) hf)
    have m2 : (m : Int) ≤ 1000 := by omega
    clear hm hgo d0 d1 hd1 hd2 hq1 hq2
    by_cases hz : m = 0
    · subst hz
      have hR : S = R := by rw [← HGO.out, goD_zero]
      have HS := Lib.hid hR
      clear hR
      go_wp2_with fail
      go_ret
      rw [← HS.out]
      exact ⟨rfl, rfl⟩
    · have m3 : (0 : Int) < (m : Int) := by omega
      obtain ⟨d, hd⟩ : ∃ d, m % 10 = d := ⟨_, rfl⟩
      obtain ⟨q, hq⟩ : ∃ q, m / 10 = q := ⟨_, rfl⟩
      have hd1 : (m : Int) % 10 = (d : Int) := by omega
      have hd2 : (m : Int).tmod 10 = (d : Int) := by rw [Int.tmod_eq_emod_of_nonneg m0]; exact hd1
      have hq1 : (m : Int) / 10 = (q : Int) := by omega
      have hq2 : (m : Int).tdiv 10 = (q : Int) := by rw [Int.tdiv_eq_ediv_of_nonneg m0]; exact hq1
      have d0 : (0 : Int) ≤ (d : Int) := by omega
      have d1 : (d : Int) ≤ 9 := by omega
      have hqm : q < m := by omega
      obtain ⟨f, rfl⟩ : ∃ f', f = f' + 1 := ⟨f - 1, by
        rcases Nat.eq_zero_or_pos f with h0 | h0
        · subst h0; have := HM.out; simp at this; omega
        · omega⟩
      have hg2 : goD f q (dext d ++ S) = R := by
        have h := HGO.out
        unfold goD at h
        rw [if_neg hz, hq, hd] at h
        exact h
      have hq10 : q < 10 ^ f := by have h := HM.out; rw [Nat.pow_succ] at h; omega
      have HG2 := Lib.hid hg2
      have HQ10 := Lib.hid hq10
      have hes : ((⟨#[48, 49, 50, 51, 52, 53, 54, 55, 56, 57]⟩ : ByteArray).extract d (d + 1)).size = 1 := dext_size d (by omega)
      have hss : S.size ≤ 4 := by omega
      have hsn : (dext d ++ S).size + f ≤ 4 := by rw [ByteArray.size_append, dext_size d (by omega)]; omega
      have HSN := Lib.hid hsn
      clear hd hq hg2 hq10 hz HGO HM hsn
      go_wp2_with fail
      go_roundw
      case rel => exact ⟨f, q, dext d ++ S, rfl, rfl, by omega, HSN.out, HQ10.out, HG2.out, trivial⟩
      case measure => simp [intOf]; omega
/-! ### the document's text of an operation -/
def opt (b : Bool) (l : List UInt8) : List UInt8 := if b then l else []
def textL (x : OpR) : List UInt8 :=
  bytesOf' (Ut x.k.toNat).word ++ [32] ++ Lib.itoa x.a ++ opt (x.k == 17) ([32, 111, 102, 32] ++ Lib.itoa x.o) ++ opt (x.k == 25) ([32, 116, 111, 32] ++ Lib.itoa x.o) ++ opt (decide (0 ≤ x.t)) ([32, 105, 110, 32] ++ Lib.itoa x.t)
    ++ opt x.fl ([32] ++ bytesOf' (Ut x.k.toNat).flag) ++ opt x.fa [32, 102, 97, 105, 108, 115] ++ opt (decide (0 < (Ut x.k.toNat).args)) ([32, 98, 121, 32] ++ Lib.itoa x.g)
theorem jt_app (a b : List (List UInt8)) : Lib.joinTail [32] (a ++ b) = Lib.joinTail [32] a ++ Lib.joinTail [32] b := by simp [Lib.joinTail]
theorem jt_opt (b : Bool) (l : List ByteArray) : Lib.joinTail [32] ((if b = true then l else []).map bytesOf') = opt b (Lib.joinTail [32] (l.map bytesOf')) := by
  cases b <;> simp [opt, Lib.joinTail]
theorem dec_bytes (n : Int) : bytesOf' (dec n) = Lib.itoa n := by simp [bytesOf', dec]
theorem textL_eq (x : OpR) : Lib.join ((wordsO x).map bytesOf') [32] = textL x := by
  unfold wordsO textL
  rw [List.map_append, List.map_append, List.map_append, List.map_append, List.map_append, List.map_append]
  rw [show List.map bytesOf' [(Ut x.k.toNat).word, dec x.a] = bytesOf' (Ut x.k.toNat).word :: [Lib.itoa x.a] by simp [dec_bytes]]
  rw [List.cons_append, List.cons_append, List.cons_append, List.cons_append, List.cons_append, List.cons_append, Lib.join_cons]
  rw [jt_app, jt_app, jt_app, jt_app, jt_app, jt_app, jt_opt, jt_opt, jt_opt, jt_opt, jt_opt, jt_opt]
  simp only [List.map_cons, List.map_nil, dec_bytes, Lib.joinTail, List.flatten_cons, List.flatten_nil, List.append_nil, List.append_assoc]
  rfl
end Go.Proofs.YtmjpaaippilioaaDoor
