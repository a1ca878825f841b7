import Derived.Test.YtmjpaaippilioaaDoorPgS
namespace Go.Proofs.YtmjpaaippilioaaDoor
open Go.RowKit

/-! ### the text of an operation -/
set_option maxRecDepth 100000 in
theorem text_no (x : OpR) (k : Nat) (hk : x.k = k) (hk8 : k < 256) (hm : mayO Ut x = false) (w : World) (h1 : T1 w) : Calls Tryd.prog 48 #[x.V] w fun e w' => e = .returned (.string ⟨#[63]⟩) ∧ Frm w w' fun _ => False := by
  have hM : ∀ v, (Frm w v fun _ => False) → Calls Tryd.prog 46 #[x.V] v fun e w' => e = .returned (.bool false) ∧ Frm v w' fun _ => False := fun v hv => by
    have h2 := h1.new_ hv
    have := mayP_any Ut x k hk hk8 v h2.tabs h2.size
    rw [hm] at this
    exact this
  obtain ⟨xk, xa, xo, xt, xfl, xfa, xg⟩ := x
  have hk : xk = k := hk
  subst hk
  have k0 : (0 : Int) ≤ (k : Int) := by omega
  have k1 : (k : Int) < 256 := by omega
  have HM := Lib.hid hM
  clear hM hm h1
  go_enter Tryd.func48, Tryd.ntmps48
  go_upto_region 1 with fail
  refine at_world' ?_
  intro W hW
  have hF : Frm w W fun _ => False := by rw [hW]; exact ((Frm.refl _ _).alloc _)
  have p0 : W.cell? ⟨w.heap.size, 0, none⟩ = some (.int .u8 k) := by subst hW; go_simp
  have p1 : W.cell? ⟨w.heap.size, 1, none⟩ = some (.int .i64 xa) := by subst hW; go_simp
  have p2 : W.cell? ⟨w.heap.size, 2, none⟩ = some (.int .i64 xo) := by subst hW; go_simp
  have p3 : W.cell? ⟨w.heap.size, 3, none⟩ = some (.int .i64 xt) := by subst hW; go_simp
  have p4 : W.cell? ⟨w.heap.size, 4, none⟩ = some (.bool xfl) := by subst hW; go_simp
  have p5 : W.cell? ⟨w.heap.size, 5, none⟩ = some (.bool xfa) := by subst hW; go_simp
  have p6 : W.cell? ⟨w.heap.size, 6, none⟩ = some (.int .i64 xg) := by subst hW; go_simp
  clear hW
  go_wp2_with (go_at_call 46; refine (HM.out _ hF).mono ?_; rintro e w' ⟨rfl, hf⟩)
  go_ret
  exact ⟨rfl, hF.then_ hf⟩
theorem Pow.size {w : World} (h : Pow w) : 5 < w.heap.size := by
  unfold Pow Lib.TabIs World.var? at h
  rw [gPow] at h
  simp only [Option.bind_some] at h
  rcases Nat.lt_or_ge 5 w.heap.size with h' | h'
  · exact h'
  · rw [Array.getElem?_eq_none h'] at h; cases h
/-- The words of an operation. -/
def wordsO (x : OpR) : List ByteArray :=
  [(Ut x.k.toNat).word, dec x.a] ++ (if x.k == 17 then [⟨#[111, 102]⟩, dec x.o] else []) ++ (if x.k == 25 then [⟨#[116, 111]⟩, dec x.o] else []) ++ (if decide (0 ≤ x.t) then [⟨#[105, 110]⟩, dec x.t] else [])
    ++ (if x.fl then [(Ut x.k.toNat).flag] else []) ++ (if x.fa then [⟨#[102, 97, 105, 108, 115]⟩] else []) ++ (if decide (0 < (Ut x.k.toNat).args) then [⟨#[98, 121]⟩, dec x.g] else [])
def textO (x : OpR) : ByteArray := if mayO Ut x then ⟨(Lib.join ((wordsO x).map bytesOf') [32]).toArray⟩ else ⟨#[63]⟩
/-- One call of the closure. -/
theorem word_any (is : Bool) (word : ByteArray) (An : Option Addr) (k cn : Nat) (ns : List Int) (B bl : Nat) (xs : List ByteArray) (w0 w : World) (hp : Pow w) (h5 : 5 < B) (h : TL w0 B bl xs) (hw : Frm w0 w fun _ => False) (hB : B ≤ w.heap.size) (hbl : B ≤ bl) (hn : NsAt w w0.heap.size An k ns) (hk : k ≤ 1) (hx : xs.length ≤ 100) (hns : ∀ n ∈ ns, -9223372036854775808 ≤ n ∧ n ≤ 9223372036854775807) :
    Calls Tryd.prog 76 #[.bool is, .string word, .slice An k cn, .pointer (some ⟨bl, 0, none⟩)] w fun e w' => (∃ v, e = .returned v) ∧ TL w' B bl (xs ++ if is then word :: ns.map dec else []) ∧ Frm w w' fun j => B ≤ j := by
  cases is with
  | false =>
    refine (word_no word _ bl w).mono ?_
    rintro e w' ⟨he, rfl⟩
    refine ⟨he, ?_, Frm.refl _ _⟩
    rw [if_neg (by decide), List.append_nil]
    exact h.new_ hw
  | true =>
    rw [if_pos rfl]
    exact word_yes word An k cn ns B bl xs w0 w hp h5 h hw hB hbl hn hk hx hns
end Go.Proofs.YtmjpaaippilioaaDoor
