/-
  The contract of the law file's own function digits: a number's decimal digits.
-/
import Derived.Test.YtkmdojghimfmeaaDoorCallees
import Derived.Laws.BytesArg
namespace Go.Proofs.YtkmdojghimfmeaaDoor
open Go.RowKit

theorem ten_step {M y k : Nat} (h : y ≤ M / 10 ^ k) : y / 10 ≤ M / 10 ^ (k + 1) := by
  rw [Nat.pow_succ, ← Nat.div_div_eq_div_mul]
  exact Nat.div_le_div_right h
theorem conv_one (w : World) (c : Int) : (convert 46 9 (.slice (some ⟨w.heap.size, 0, none⟩) 1 1)).run Tryd.prog (w.alloc (.cells #[.int .u8 c] 5)) = .ok (.string ⟨#[UInt8.ofNat c.toNat]⟩) (w.alloc (.cells #[.int .u8 c] 5)) :=
  run_convert_bytes_arg (P := Tryd.prog) (w.alloc (.cells #[.int .u8 c] 5)) 46 5 Tryd.underlying46 Tryd.underlying5 w.heap.size 0 1 1 [c] rfl (fun i hi => by
    obtain rfl : i = 0 := by omega
    simp) 9 Tryd.underlying9
theorem byte_of (y : Nat) : UInt8.ofNat (48 + (y : Int) % 10).toNat = UInt8.ofNat (48 + y % 10) := by
  congr 1
theorem digits_done {x y : Nat} {S : ByteArray} (h : Lib.decDigits x = (Lib.decDigits y).dropLast ++ S.data.toList) (hy : y < 10) : S = ⟨(Lib.decDigits x).toArray⟩ := by
  rw [Lx.digits_end hy] at h
  rw [h, mk_data]

set_option maxRecDepth 100000 in
theorem digits_any (x : Nat) (w : World) (hx : x ≤ 1099511627776) :
    Calls Tryd.prog 17 #[.int .i64 x] w fun e w' => e = .returned (.string ⟨(Lib.decDigits x).toArray⟩) ∧ Below w.heap.size w w' := by
  go_enter Tryd.func17, Tryd.ntmps17
  obtain ⟨T, hT⟩ : ∃ T : ByteArray, T = ⟨#[UInt8.ofNat (48 + (x : Int) % 10).toNat]⟩ := ⟨_, rfl⟩
  have HT := Lib.hid hT
  clear hT
  go_wp2_with fail
  rw [conv_one, ← HT.out]
  go_wp2_with fail
  go_loopw [0, 3, 4] (fun nv sv kv wr => ∃ (y k : Nat) (S : ByteArray), nv = .int .i64 y ∧ kv = .int .i64 k ∧ sv = .string S ∧ k ≤ 20 ∧ y ≤ 1099511627776 ∧ S.size ≤ k + 1 ∧ Hid (y ≤ 1099511627776 / 10 ^ k) ∧ Hid (Lib.decDigits x = (Lib.decDigits y).dropLast ++ S.data.toList) ∧ Hid (Below w.heap.size w wr)) (fun _ _ kv _ => 20 - (intOf kv).toNat)
  case atStart =>
    refine ⟨x, 0, T, rfl, rfl, rfl, Nat.zero_le _, hx, by rw [HT.out]; exact Nat.le_refl _, Lib.hid (by simpa using hx), Lib.hid ?_, Lib.hid ((Below.refl _ _).alloc (Nat.le_refl _) _)⟩
    rw [HT.out, byte_of]
    exact Lx.digits_start x
  case round =>
    obtain ⟨y, k, S, rfl, rfl, rfl, hk, hy, hS, HY, HD, HB⟩ := hrel
    by_cases h10 : 9 < y
    · have hk20 : k < 20 := by
        rcases Nat.lt_or_ge k 20 with h | h
        · exact h
        · obtain rfl : k = 20 := by omega
          have := HY.out
          rw [show 1099511627776 / 10 ^ 20 = 0 from by decide] at this
          omega
      have hwz : w.heap.size ≤ wr.heap.size := HB.out.size
      obtain ⟨T2, hT2⟩ : ∃ T2 : ByteArray, T2 = ⟨#[UInt8.ofNat (48 + (y : Int) / 10 % 10).toNat]⟩ := ⟨_, rfl⟩
      have HT2 := Lib.hid hT2
      have hT2s : T2.size = 1 := by rw [hT2]; rfl
      have hT2l : T2.data.toList = [UInt8.ofNat (48 + y / 10 % 10)] := by
        rw [hT2]
        exact congrArg (fun c => [c]) (byte_of (y / 10))
      have HT2L := Lib.hid hT2l
      clear hT2 hT2l
      go_wp2_with fail
      rw [conv_one, ← HT2.out]
      go_wp2_with fail
      go_roundw
      case rel =>
        refine ⟨y / 10, k + 1, T2 ++ S, by simp, by go_num, rfl, by omega, by omega, ?_, Lib.hid (ten_step HY.out), Lib.hid ?_, Lib.hid (HB.out.alloc hwz _)⟩
        · rw [ByteArray.size_append]
          omega
        · rw [HD.out, Lx.digits_step (by omega), ByteArray.data_append, Array.toList_append, HT2L.out]
          rfl
      case measure => simp [intOf]; omega
    · have hS := digits_done HD.out (by omega)
      have HSS := Lib.hid hS
      clear hS
      go_wp2_with fail
      all_goals
        go_ret
        exact ⟨by rw [← HSS.out]; rfl, HB.out⟩
end Go.Proofs.YtkmdojghimfmeaaDoor
