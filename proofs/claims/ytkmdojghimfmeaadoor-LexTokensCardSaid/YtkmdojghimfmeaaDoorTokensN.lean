/-
  The walk of the law LexTokens where the text does not lex or is too long: it answers true.
-/
import Derived.Test.YtkmdojghimfmeaaDoorRound
import Derived.Test.YtkmdojghimfmeaaDoorDigits
namespace Go.Proofs.YtkmdojghimfmeaaDoor
open Go.RowKit

theorem one_at {w : World} {a : Option Addr} {c : Nat} {t : TokV} (h : Rd w w.heap.size (.slice a 1 c) [t]) : ∃ b o, a = some ⟨b, o, none⟩ ∧ b < w.heap.size ∧ TokAt w b o t := by
  obtain ⟨a', c', hv, _, hr⟩ := h
  obtain ⟨b, o, ha, hb, hat⟩ := hr (by simp)
  have h0 := hat 0 t rfl
  rw [Nat.zero_mul, Nat.add_zero] at h0
  cases hv
  exact ⟨b, o, ha, hb, h0⟩
theorem digits_text (X : Nat) (hX : X ≤ 1099511627776) : ∃ D : ByteArray, D = ⟨(Lib.decDigits X).toArray⟩ ∧ D.size ≤ 13 ∧ Lx.words 0 D.data.toList = some [⟨2, Lib.decDigits X, X, 0⟩] ∧ Lx.words 0 ((⟨#[48]⟩ : ByteArray) ++ D).data.toList = none := by
  refine ⟨_, rfl, ?_, ?_, ?_⟩
  · rw [size_mk]; exact Lx.decDigits_length_le hX
  · rw [data_mk]; exact Lx.words_decDigits hX
  · rw [ByteArray.data_append, Array.toList_append, data_mk]
    exact Lx.words_zero_decDigits X

set_option maxRecDepth 100000 in
theorem lexTokens_big (s : ByteArray) (n : Int) (w : World) (hm : s.size ≤ 9223372036854775807) (hbig : 600 < s.size) (G : Glob w) :
    Calls Tryd.prog 8 #[.string s, .int .u64 n] w fun e w' => e = .returned (.bool true) ∧ Below w.heap.size w w' := by
  go_enter Tryd.func8, Tryd.ntmps8
  go_wp2_with fail
  refine (sanity_any _ G).mono ?_
  rintro e w1 ⟨rfl, hb1⟩
  go_wp2
  go_ret
  exact ⟨rfl, hb1⟩

set_option maxHeartbeats 1600000 in
set_option maxRecDepth 100000 in
theorem lexTokens_none (s : ByteArray) (n : Int) (X : Nat) (w : World) (hs : s.size ≤ 600) (hX : X ≤ 1099511627776) (hn : n.tmod 1099511627777 = X) (G : Glob w) (hw : Lx.words 0 s.data.toList = none) :
    Calls Tryd.prog 8 #[.string s, .int .u64 n] w fun e w' => e = .returned (.bool true) ∧ Below w.heap.size w w' := by
  have hs3 : s.size ≤ 3000 := by omega
  have HW := Lib.hid hw
  clear hw
  obtain ⟨D, hD, hD13, hD1, hD2⟩ := digits_text X hX
  have HD := Lib.hid hD
  have HD1 := Lib.hid hD1
  have HD2 := Lib.hid hD2
  have hDs : ((⟨#[48]⟩ : ByteArray) ++ D).size ≤ 3000 := by
    rw [ByteArray.size_append]
    show 1 + D.size ≤ 3000
    omega
  have HDS := Lib.hid hDs
  clear hD hD1 hD2 hDs
  go_enter Tryd.func8, Tryd.ntmps8
  go_wp2_with fail
  refine (sanity_any _ G).mono ?_
  rintro e w1 ⟨rfl, hb1⟩
  have G1 := G.below hb1
  go_wp2_with fail
  refine (words_none_any _ _ hs3 G1 HW.out).mono ?_
  rintro e w2 ⟨rfl, hb2⟩
  have G2 := G1.below hb2
  have HB := Lib.hid (Below.up hb1 hb2)
  clear hb1 hb2 G1
  go_wp2_with fail
  go_loopw [8] (fun i wr => i = .int .i64 0 ∧ Hid (wr = w2)) (fun _ _ => 0)
  case atStart => exact ⟨rfl, Lib.hid rfl⟩
  case round =>
    obtain ⟨rfl, HE⟩ := hrel
    have Gr : Glob wr := by rw [HE.out]; exact G2
    have HBr : Hid (Below w.heap.size w wr) := by rw [HE.out]; exact HB
    go_wp2_with fail
    refine (digits_any X _ hX).mono ?_
    rintro e w3 ⟨rfl, hb3⟩
    rw [← HD.out]
    have G3 := Gr.below hb3
    go_wp2_with fail
    refine (words_some_any D _ (by omega) G3 HD1.out).mono ?_
    rintro e w4 ⟨a4, c4, rfl, hr4, hb4⟩
    have G4 := G3.below hb4
    have HR4 := Lib.hid hr4
    have HB4 := Lib.hid (Below.up (Below.up HBr.out hb3) hb4)
    clear hr4 hb3 hb4
    go_wp2_with fail
    refine (words_none_any _ _ HDS.out G4 HD2.out).mono ?_
    rintro e w5 ⟨rfl, hb5⟩
    have HB5 := Lib.hid hb5
    obtain ⟨b5, o5, rfl, hb5l, r0, r1, r2, r3⟩ := one_at (HR4.out.below hb5)
    have r0' : w5.cell? ⟨b5, o5, none⟩ = some (.int .i64 2) := r0
    have r1' : w5.cell? ⟨b5, o5 + 1, none⟩ = some (.string D) := by rw [HD.out]; exact r1
    have r2' : w5.cell? ⟨b5, o5 + 2, none⟩ = some (.int .i64 (X : Int)) := r2
    have r3' : w5.cell? ⟨b5, o5 + 3, none⟩ = some (.int .i64 0) := r3
    have st1 : Tryd.prog.stoodInHeld 30 = false := by kernel_rfl
    have st2 : Tryd.prog.eqGuardType Tryd.prog.depth 30 = false := by kernel_rfl
    clear r0 r1 r2 r3 hb5
    go_wp2_with fail
    go_ret
    exact ⟨rfl, Below.up HB4.out HB5.out⟩
end Go.Proofs.YtkmdojghimfmeaaDoor
