/-
  The contract of lex.run at the two predicates it is called with: the length of the longest prefix whose bytes satisfy it.
-/
import Derived.Test.YtkmdojghimfmeaaDoorBase
import Derived.Laws.RangeAny
namespace Go.Proofs.YtkmdojghimfmeaaDoor
open Go.RowKit

theorem iter_below (w : World) (s : ByteArray) (p : Nat) : Below w.heap.size w (w.iter s p) := (Below.refl _ _).alloc (Nat.le_refl _) _
theorem byteI (P : UInt8 → Bool) (PI : Int → Bool) (h : ∀ c : UInt8, P c = PI c.toNat) (hh : ∀ r : Int, 128 ≤ r → PI r = false) (s : ByteArray) (pos : Nat) (hp : pos < s.size) :
    (P s[pos] = true → (Utf8.decode s pos).2 = 1) ∧ PI (Utf8.decode s pos).1 = P s[pos] := by
  by_cases ha : (s[pos]'hp).toNat < 128
  · rw [decode_ascii s pos hp ha]
    exact ⟨fun _ => rfl, (h _).symm⟩
  · have hd := (decode_high s pos hp (by omega)).1
    have e1 : P s[pos] = false := by rw [h]; exact hh _ (by omega)
    have e2 : PI (Utf8.decode s pos).1 = false := hh _ (by omega)
    exact ⟨(by rw [e1]; intro h; cases h), by rw [e1, e2]⟩
theorem takeWhile_len (P : UInt8 → Bool) (l : List UInt8) : ∀ (k : Nat), (∀ j c, j < k → l[j]? = some c → P c = true) → k ≤ l.length → (∀ c, l[k]? = some c → P c = false) → (l.takeWhile P).length = k := by
  induction l with
  | nil => intro k _ h _; simp at h; simp [h]
  | cons a r ih =>
    intro k h1 h2 h3
    cases k with
    | zero => have := h3 a rfl; simp [this]
    | succ k =>
      have ha := h1 0 a (by omega) rfl
      simp only [List.takeWhile_cons, ha, if_true, List.length_cons]
      rw [ih k (fun j c hj hc => h1 (j + 1) c (by omega) (by simpa using hc)) (by simpa using h2) (fun c hc => h3 c (by simpa using hc))]
theorem byte_at (s : ByteArray) (j : Nat) (h : j < s.size) : s.data.toList[j]? = some s[j] := by
  rw [Array.getElem?_toList]
  exact Array.getElem?_eq_getElem h
theorem byte_end (s : ByteArray) (j : Nat) (h : ¬ j < s.size) : s.data.toList[j]? = none := by
  rw [Array.getElem?_toList]
  exact Array.getElem?_eq_none (by simpa using h)
theorem digit_I (c : UInt8) : Lx.digit c = Lx.digitI c.toNat := by unfold Lx.digit Lx.digitI; rw [Bool.eq_iff_iff]; simp; omega
theorem letter_I (c : UInt8) : Lx.letter c = Lx.letterI c.toNat := by unfold Lx.letter Lx.letterI; rw [Bool.eq_iff_iff]; simp; omega
theorem within_I (c : UInt8) : Lx.within c = Lx.withinI c.toNat := by
  have h95 : (c == 95) = decide ((c.toNat : Int) = 95) := by
    rw [Bool.eq_iff_iff, beq_iff_eq, decide_eq_true_eq, ← UInt8.toNat_inj]
    have : (95 : UInt8).toNat = 95 := rfl
    omega
  unfold Lx.within
  rw [h95, letter_I, digit_I]
  unfold Lx.withinI Lx.letterI Lx.digitI
  rw [Bool.eq_iff_iff]
  simp only [Bool.or_eq_true, decide_eq_true_eq]
  omega
theorem digitI_high (r : Int) (h : 128 ≤ r) : Lx.digitI r = false := decide_eq_false (by omega)
theorem withinI_high (r : Int) (h : 128 ≤ r) : Lx.withinI r = false := decide_eq_false (by omega)

set_option maxRecDepth 100000 in
theorem run_digit (s : ByteArray) (w : World) :
    Calls Tryd.prog 29 #[.string s, .func (.func 31) #[] #[]] w fun e w' => e = .returned (.int .i64 (s.data.toList.takeWhile Lx.digit).length) ∧ Below w.heap.size w w' := by
  go_enter Tryd.func29, Tryd.ntmps29
  go_wp2
  go_loopw [] (fun w' => ∃ pos : Nat, w' = w.iter s pos ∧ pos ≤ s.size ∧ ∀ j c, j < pos → s.data.toList[j]? = some c → Lx.digit c = true) (fun w' => s.size - w'.iterPos w.heap.size)
  case atStart => exact ⟨0, rfl, Nat.zero_le _, fun j c h => absurd h (Nat.not_lt_zero _)⟩
  case round =>
    obtain ⟨pos, rfl, hle, hall⟩ := hrel
    by_cases hp : pos < s.size
    · have hnx : ∀ ty, (Instr.next (.pointer (some ⟨w.heap.size, 0, none⟩)) true ty).run Tryd.prog (w.iter s pos) = _ := fun ty => run_next_any w s pos ty hp
      obtain ⟨hb1, hb2⟩ := byteI Lx.digit Lx.digitI digit_I digitI_high s pos hp
      have hat := byte_at s pos hp
      have HA := Lib.hid hall
      have HB := Lib.hid hb1
      have HT := Lib.hid hat
      have HX := Lib.hid hb2
      clear hall hb1 hat hb2
      cases hc : Lx.digit s[pos] with
      | true =>
        have hr := HX.out.trans hc
        have hw1 := HB.out hc
        have HC := Lib.hid hc
        clear hc
        have HW := Lib.hid hw1
        clear hw1
        go_wp2_with (go_at_call 31; refine (digit_any _ _).mono ?_; rintro e w' ⟨rfl, rfl⟩)
        go_roundw
        case rel =>
          rw [HW.out]
          refine ⟨pos + 1, rfl, by omega, fun j c hj hjc => ?_⟩
          rcases Nat.lt_or_ge j pos with h | h
          · exact HA.out j c h hjc
          · obtain rfl : j = pos := by omega
            rw [HT.out] at hjc
            cases hjc
            exact HC.out
        case measure =>
          rw [HW.out]
          simp
          omega
      | false =>
        have hr := HX.out.trans hc
        have HC := Lib.hid hc
        clear hc
        go_wp2_with (go_at_call 31; refine (digit_any _ _).mono ?_; rintro e w' ⟨rfl, rfl⟩)
        go_ret
        refine ⟨ret_int ?_, iter_below _ _ _⟩
        rw [takeWhile_len Lx.digit s.data.toList pos HA.out (by simpa using hle) (fun c hc => by rw [HT.out] at hc; cases hc; exact HC.out)]
    · have hnx : ∀ ty, (Instr.next (.pointer (some ⟨w.heap.size, 0, none⟩)) true ty).run Tryd.prog (w.iter s pos) = _ := fun ty => run_next_end w s pos ty hp
      have HA := Lib.hid hall
      clear hall
      go_wp2
      go_ret
      refine ⟨ret_int ?_, iter_below _ _ _⟩
      rw [takeWhile_len Lx.digit s.data.toList pos HA.out (by simpa using hle) (fun c hc => by rw [byte_end s pos hp] at hc; cases hc)]
      have : pos = s.size := by omega
      rw [this]

set_option maxRecDepth 100000 in
theorem run_within (s : ByteArray) (w : World) :
    Calls Tryd.prog 29 #[.string s, .func (.func 30) #[] #[]] w fun e w' => e = .returned (.int .i64 (s.data.toList.takeWhile Lx.within).length) ∧ Below w.heap.size w w' := by
  go_enter Tryd.func29, Tryd.ntmps29
  go_wp2
  go_loopw [] (fun w' => ∃ pos : Nat, w' = w.iter s pos ∧ pos ≤ s.size ∧ ∀ j c, j < pos → s.data.toList[j]? = some c → Lx.within c = true) (fun w' => s.size - w'.iterPos w.heap.size)
  case atStart => exact ⟨0, rfl, Nat.zero_le _, fun j c h => absurd h (Nat.not_lt_zero _)⟩
  case round =>
    obtain ⟨pos, rfl, hle, hall⟩ := hrel
    by_cases hp : pos < s.size
    · have hnx : ∀ ty, (Instr.next (.pointer (some ⟨w.heap.size, 0, none⟩)) true ty).run Tryd.prog (w.iter s pos) = _ := fun ty => run_next_any w s pos ty hp
      obtain ⟨hb1, hb2⟩ := byteI Lx.within Lx.withinI within_I withinI_high s pos hp
      have hat := byte_at s pos hp
      have HA := Lib.hid hall
      have HB := Lib.hid hb1
      have HT := Lib.hid hat
      have HX := Lib.hid hb2
      clear hall hb1 hat hb2
      cases hc : Lx.within s[pos] with
      | true =>
        have hr := HX.out.trans hc
        have hw1 := HB.out hc
        have HC := Lib.hid hc
        clear hc
        have HW := Lib.hid hw1
        clear hw1
        go_wp2_with (go_at_call 30; refine (within_any _ _).mono ?_; rintro e w' ⟨rfl, rfl⟩)
        go_roundw
        case rel =>
          rw [HW.out]
          refine ⟨pos + 1, rfl, by omega, fun j c hj hjc => ?_⟩
          rcases Nat.lt_or_ge j pos with h | h
          · exact HA.out j c h hjc
          · obtain rfl : j = pos := by omega
            rw [HT.out] at hjc
            cases hjc
            exact HC.out
        case measure =>
          rw [HW.out]
          simp
          omega
      | false =>
        have hr := HX.out.trans hc
        have HC := Lib.hid hc
        clear hc
        go_wp2_with (go_at_call 30; refine (within_any _ _).mono ?_; rintro e w' ⟨rfl, rfl⟩)
        go_ret
        refine ⟨ret_int ?_, iter_below _ _ _⟩
        rw [takeWhile_len Lx.within s.data.toList pos HA.out (by simpa using hle) (fun c hc => by rw [HT.out] at hc; cases hc; exact HC.out)]
    · have hnx : ∀ ty, (Instr.next (.pointer (some ⟨w.heap.size, 0, none⟩)) true ty).run Tryd.prog (w.iter s pos) = _ := fun ty => run_next_end w s pos ty hp
      have HA := Lib.hid hall
      clear hall
      go_wp2
      go_ret
      refine ⟨ret_int ?_, iter_below _ _ _⟩
      rw [takeWhile_len Lx.within s.data.toList pos HA.out (by simpa using hle) (fun c hc => by rw [byte_end s pos hp] at hc; cases hc)]
      have : pos = s.size := by omega
      rw [this]
end Go.Proofs.YtkmdojghimfmeaaDoor
