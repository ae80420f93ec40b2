/-
  The contract of number of the reference: the value of a row of digits, or -1.
-/
import Derived.Test.YtkmdojghimfmeaaDoorSign
namespace Go.Proofs.YtkmdojghimfmeaaDoor
open Go.RowKit

theorem numVal_lt : ∀ (n : Nat) (w : List UInt8), w.length = n → (∀ c ∈ w, Lx.digit c = true) → Lx.numVal w < 10 ^ n := by
  intro n
  induction n with
  | zero => intro w hl _; rw [List.length_eq_zero_iff.1 hl]; decide
  | succ n ih =>
    intro w hl hd
    have h0 : w ≠ [] := by intro e; rw [e] at hl; simp at hl
    obtain ⟨r, c, rfl⟩ := Lx.snoc_of_ne h0
    have h1 := ih r (by simpa using hl) (fun x hx => hd x (by simp [hx]))
    have hc := Lx.digit_bounds (hd c (by simp))
    rw [Lx.numVal_snoc, Nat.pow_succ]
    omega
theorem numVal_take_lt (w : List UInt8) (hd : ∀ c ∈ w, Lx.digit c = true) (k : Nat) (hk : k ≤ w.length) (h13 : w.length ≤ 13) : Lx.numVal (w.take k) < 10000000000000 := by
  have h := numVal_lt k (w.take k) (by rw [List.length_take]; omega) (fun c hc => hd c (List.mem_of_mem_take hc))
  have hp : 10 ^ k ≤ 10 ^ 13 := Nat.pow_le_pow_right (by decide) (by omega)
  have e : (10 : Nat) ^ 13 = 10000000000000 := by decide
  omega
theorem take_snoc (s : ByteArray) (k : Nat) (h : k < s.size) : s.data.toList.take (k + 1) = s.data.toList.take k ++ [s[k]] := by
  rw [List.take_succ_eq_append_getElem (by simpa using h)]; rfl
def refNum (l : List UInt8) : Int := if Lx.numOk l then (Lx.numVal l : Int) else -1
theorem refNum_long {l : List UInt8} (h : 13 < l.length) : refNum l = -1 := by
  unfold refNum
  rw [if_neg]
  rw [Lx.numOk_eq]
  omega
theorem refNum_zero {l : List UInt8} (h : l.head? = some 48) (h1 : 1 < l.length) : refNum l = -1 := by
  unfold refNum
  rw [if_neg]
  rw [Lx.numOk_eq]
  intro hh
  exact hh.2.1 ⟨h, h1⟩
theorem refNum_big {l : List UInt8} (h : 1099511627776 < Lx.numVal l) : refNum l = -1 := by
  unfold refNum
  rw [if_neg]
  rw [Lx.numOk_eq]
  omega
theorem refNum_ok {l : List UInt8} (h : l.length ≤ 13) (hz : ¬ (l.head? = some 48 ∧ 1 < l.length)) (hb : Lx.numVal l ≤ 1099511627776) : refNum l = Lx.numVal l := by
  unfold refNum
  rw [if_pos]
  rw [Lx.numOk_eq]
  exact ⟨h, hz, hb⟩
theorem head_of {s : ByteArray} (h : 0 < s.size) : s.data.toList.head? = some s[0] := by
  rw [List.head?_eq_getElem?]
  exact byte_at s 0 h

set_option maxRecDepth 100000 in
theorem number_long (s : ByteArray) (w : World) (hs : s.size ≤ 3000) (h13 : 13 < s.size) :
    Calls Tryd.prog 22 #[.string s] w fun e w' => e = .returned (.int .i64 (refNum s.data.toList)) ∧ w = w' := by
  have H := Lib.hid (refNum_long (l := s.data.toList) h13)
  go_enter Tryd.func22, Tryd.ntmps22
  go_wp2
  go_ret
  exact ⟨ret_int H.out.symm, rfl⟩
set_option maxRecDepth 100000 in
theorem number_zero (s : ByteArray) (w : World) (h13 : s.size ≤ 13) (h1 : 1 < s.size) (h0 : (((s[0]'(by omega)).toNat : Int) == 48) = true) :
    Calls Tryd.prog 22 #[.string s] w fun e w' => e = .returned (.int .i64 (refNum s.data.toList)) ∧ w = w' := by
  have H := Lib.hid (refNum_zero (l := s.data.toList) (by rw [head_of (by omega)]; exact congrArg some (by have e := (beqU _ 48).symm.trans h0; exact eq_of_beq e)) h1)
  go_enter Tryd.func22, Tryd.ntmps22
  go_wp2
  go_ret
  exact ⟨ret_int H.out.symm, rfl⟩

set_option maxRecDepth 100000 in
theorem number_short (s : ByteArray) (w : World) (h13 : s.size ≤ 13) (hpos : 0 < s.size) (hd : ∀ c ∈ s.data.toList, Lx.digit c = true) (hz : ¬ (s.data.toList.head? = some 48 ∧ 1 < s.data.toList.length))
    (ht : (((s[0]'hpos).toNat : Int) == 48) = false ∨ decide (1 < (s.size : Int)) = false) :
    Calls Tryd.prog 22 #[.string s] w fun e w' => e = .returned (.int .i64 (refNum s.data.toList)) ∧ w = w' := by
  have HZ := Lib.hid hz
  clear hz
  have HD := Lib.hid hd
  clear hd
  cases h0 : (((s[0]'hpos).toNat : Int) == 48)
  all_goals cases h1 : decide (1 < (s.size : Int))
  case true.true => rcases ht with h | h <;> simp_all
  all_goals
    clear ht
    go_enter Tryd.func22, Tryd.ntmps22
    go_wp2
    go_loop [3, 4] (fun n i => ∃ k : Nat, k ≤ s.size ∧ i = .int .i64 k ∧ n = .int .i64 (Lx.numVal (s.data.toList.take k))) (fun _ i => s.size - (intOf i).toNat)
    case atStart => exact ⟨0, Nat.zero_le _, rfl, rfl⟩
    case round =>
      obtain ⟨k, hk, rfl, rfl⟩ := hrel
      have hb := numVal_take_lt s.data.toList HD.out k hk h13
      obtain ⟨V, hV⟩ : ∃ V, V = Lx.numVal (s.data.toList.take k) := ⟨_, rfl⟩
      rw [← hV] at hb ⊢
      by_cases hlt : k < s.size
      · have hbyte : (s[k].toNat : Int) < 256 := by have := s[k].toNat_lt; omega
        have hdig := Lx.digit_bounds (HD.out s[k] (by have := byte_at s k hlt; exact List.mem_of_getElem? this))
        have h48 : (48 : Int) ≤ (s[k].toNat : Int) := by omega
        have HN : Hid (Lx.numVal (s.data.toList.take (k + 1)) = 10 * V + (s[k].toNat - 48)) := by rw [take_snoc s k hlt, Lx.numVal_snoc, hV]; exact Lib.hid rfl
        have HG := Lib.hid hdig
        clear hV hdig
        go_wp2
        go_round
        case rel => exact ⟨k + 1, by omega, by go_num, by rw [HN.out]; have := HG.out; go_num⟩
        case measure => simp [intOf]; omega
      · have e : s.data.toList.take k = s.data.toList := List.take_of_length_le (by show s.size ≤ k; omega)
        rw [e] at hV
        have HV := Lib.hid hV
        clear hV
        by_cases hbig : 1099511627776 < V
        · go_wp2
          go_ret
          exact ⟨ret_int (refNum_big (by rw [← HV.out]; exact hbig)).symm, rfl⟩
        · go_wp2
          go_ret
          exact ⟨ret_int (by rw [refNum_ok h13 HZ.out (by rw [← HV.out]; omega), HV.out]), rfl⟩

theorem refnumber_any (s : ByteArray) (w : World) (hs : s.size ≤ 3000) (hpos : 0 < s.size) (hd : ∀ c ∈ s.data.toList, Lx.digit c = true) :
    Calls Tryd.prog 22 #[.string s] w fun e w' => e = .returned (.int .i64 (refNum s.data.toList)) ∧ w = w' := by
  by_cases h13 : 13 < s.size
  · exact number_long s w hs h13
  by_cases h1 : 1 < s.size
  · cases h0 : (((s[0]'hpos).toNat : Int) == 48) with
    | true => exact number_zero s w (by omega) h1 h0
    | false =>
      refine number_short s w (by omega) hpos hd ?_ (.inl h0)
      rintro ⟨hh, -⟩
      rw [head_of hpos] at hh
      have e := Option.some.inj hh
      have := beqU (s[0]'hpos) 48
      rw [e] at this h0
      rw [show (((48 : UInt8).toNat : Nat) : Int) = 48 from rfl] at h0
      exact absurd h0 (by decide)
  · exact number_short s w (by omega) hpos hd (fun h => h1 h.2) (.inr (decide_eq_false (by omega)))
end Go.Proofs.YtkmdojghimfmeaaDoor
