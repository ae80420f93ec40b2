/-
  The contract of number of package lex.
-/
import Derived.Test.YtkmdojghimfmeaaDoorCallees
import Derived.WideLaws
namespace Go.Proofs.YtkmdojghimfmeaaDoor
open Go.RowKit

theorem bcell {W w1 : World} (hb : Below W.heap.size W w1) : (∀ b o, b < W.heap.size → w1.cell? ⟨b, o, none⟩ = W.cell? ⟨b, o, none⟩) ∧ (∀ b o, b < W.heap.size → w1.frozen? ⟨b, o, none⟩ = W.frozen? ⟨b, o, none⟩) :=
  ⟨fun b o h => hb.cell (p := ⟨b, o, none⟩) h, fun b o h => hb.frozen (p := ⟨b, o, none⟩) h⟩
theorem below_set4 {w w3 : World} {a b c d : Value} (hb : Below w.heap.size w w3) : Below w.heap.size w ((((w3.setCell ⟨w.heap.size, 0, none⟩ a).setCell ⟨w.heap.size, 1, none⟩ b).setCell ⟨w.heap.size, 2, none⟩ c).setCell ⟨w.heap.size, 3, none⟩ d) :=
  (((hb.setCell (p := ⟨w.heap.size, 0, none⟩) (Nat.le_refl _) _).setCell (p := ⟨w.heap.size, 1, none⟩) (Nat.le_refl _) _).setCell (p := ⟨w.heap.size, 2, none⟩) (Nat.le_refl _) _).setCell (p := ⟨w.heap.size, 3, none⟩) (Nat.le_refl _) _

theorem lexnum_Af (s : ByteArray) (k : Nat) (w : World) (hs : s.size ≤ 3000) (G : Glob w) (hk : k < s.size) 
    (hrun : ∀ W, Calls Tryd.prog 29 #[.string s, .func (.func 31) #[] #[]] W fun e w' => e = .returned (.int .i64 k) ∧ Below W.heap.size W w')
    (hu : Lib.atoiAll (s.extract 0 k).data.toList = .range) (fol : Bool) (hfol : Lx.withinI s[k].toNat = fol) :
    Calls Tryd.prog 32 #[.string s] w fun e w' => ∃ n : Int, e = .returned (.tuple #[.agg #[.int .i64 2, .string (s.extract 0 k), .int .i64 n, .int .i64 0], .bool (false)]) ∧ Below w.heap.size w w' := by
  have HR := Lib.hid hrun
  have HU := Lib.hid hu
  have HF := Lib.hid hfol
  clear hrun hu hfol
  have hby : (s[k].toNat : Int) ≤ 255 := by have := s[k].toNat_lt; omega
  go_enter Tryd.func32, Tryd.ntmps32
  go_wp2_with fail
  refine (HR.out _).mono ?_
  rintro e w1 ⟨rfl, hb1⟩
  obtain ⟨hc1, hf1⟩ := bcell hb1
  have hz1 : w.heap.size < w1.heap.size := by have := hb1.size; simp at this; omega
  have hx : (s.extract 0 k).size ≤ 3000 := by rw [ByteArray.size_extract]; omega
  go_wp2_with fail
  have G1 : Glob w1 := (G.below ((Below.refl _ _).alloc (Nat.le_refl _) _)).below hb1
  refine (atoi_range _ _ G1 hx HU.out).mono ?_
  rintro e w2 ⟨⟨n, N, rfl⟩, hb2⟩
  obtain ⟨hc2, hf2⟩ := bcell hb2
  clear hx
  go_wp2_with fail
  refine (within_any _ _).mono ?_
  rintro e w3 ⟨rfl, rfl⟩
  rw [HF.out]
  go_wp2
  refine bodyPost_ret (v := .tuple #[.agg #[.int .i64 2, .string (s.extract 0 k), .int .i64 n, .int .i64 0], .bool (false)]) (by simp [results, Tryd.results32, go_sem, hc1, hc2, hz1]) rfl ⟨n, rfl, ?_⟩
  exact below_set4 (Below.up (Below.up ((Below.refl _ _).alloc (Nat.le_refl _) _) hb1) hb2)

theorem lexnum_Ae (s : ByteArray) (k : Nat) (w : World) (hs : s.size ≤ 3000) (G : Glob w) (hk : k = s.size) 
    (hrun : ∀ W, Calls Tryd.prog 29 #[.string s, .func (.func 31) #[] #[]] W fun e w' => e = .returned (.int .i64 k) ∧ Below W.heap.size W w')
    (hu : Lib.atoiAll s.data.toList = .range) :
    Calls Tryd.prog 32 #[.string s] w fun e w' => ∃ n : Int, e = .returned (.tuple #[.agg #[.int .i64 2, .string s, .int .i64 n, .int .i64 0], .bool (false)]) ∧ Below w.heap.size w w' := by
  have HR := Lib.hid hrun
  have HU := Lib.hid hu
  clear hrun hu
  subst hk
  go_enter Tryd.func32, Tryd.ntmps32
  go_wp2_with fail
  refine (HR.out _).mono ?_
  rintro e w1 ⟨rfl, hb1⟩
  obtain ⟨hc1, hf1⟩ := bcell hb1
  have hz1 : w.heap.size < w1.heap.size := by have := hb1.size; simp at this; omega
  have hx : s.size ≤ 3000 := by omega
  go_wp2_with fail
  have G1 : Glob w1 := (G.below ((Below.refl _ _).alloc (Nat.le_refl _) _)).below hb1
  refine (atoi_range _ _ G1 hx HU.out).mono ?_
  rintro e w2 ⟨⟨n, N, rfl⟩, hb2⟩
  obtain ⟨hc2, hf2⟩ := bcell hb2
  clear hx
  go_wp2
  refine bodyPost_ret (v := .tuple #[.agg #[.int .i64 2, .string s, .int .i64 n, .int .i64 0], .bool (false)]) (by simp [results, Tryd.results32, go_sem, hc1, hc2, hz1]) rfl ⟨n, rfl, ?_⟩
  exact below_set4 (Below.up (Below.up ((Below.refl _ _).alloc (Nat.le_refl _) _) hb1) hb2)

theorem lexnum_Bf (s : ByteArray) (k : Nat) (w : World) (hs : s.size ≤ 3000) (hk : k < s.size) (h13 : 13 < k) 
    (hrun : ∀ W, Calls Tryd.prog 29 #[.string s, .func (.func 31) #[] #[]] W fun e w' => e = .returned (.int .i64 k) ∧ Below W.heap.size W w')
    (u : Nat) (hu : Lib.atoiAll (s.extract 0 k).data.toList = .ok (u : Int)) (fol : Bool) (hfol : Lx.withinI s[k].toNat = fol) :
    Calls Tryd.prog 32 #[.string s] w fun e w' => e = .returned (.tuple #[.agg #[.int .i64 2, .string (s.extract 0 k), .int .i64 u, .int .i64 0], .bool (false)]) ∧ Below w.heap.size w w' := by
  have HR := Lib.hid hrun
  have HU := Lib.hid hu
  have HF := Lib.hid hfol
  clear hrun hu hfol
  have hby : (s[k].toNat : Int) ≤ 255 := by have := s[k].toNat_lt; omega
  go_enter Tryd.func32, Tryd.ntmps32
  go_wp2_with fail
  refine (HR.out _).mono ?_
  rintro e w1 ⟨rfl, hb1⟩
  obtain ⟨hc1, hf1⟩ := bcell hb1
  have hz1 : w.heap.size < w1.heap.size := by have := hb1.size; simp at this; omega
  have hx : (s.extract 0 k).size ≤ 3000 := by rw [ByteArray.size_extract]; omega
  go_wp2_with fail
  refine (atoi_ok _ _ _ hx HU.out).mono ?_
  rintro e w2 ⟨rfl, hb2⟩
  obtain ⟨hc2, hf2⟩ := bcell hb2
  clear hx
  go_wp2_with fail
  refine (within_any _ _).mono ?_
  rintro e w3 ⟨rfl, rfl⟩
  rw [HF.out]
  go_wp2
  refine bodyPost_ret (v := .tuple #[.agg #[.int .i64 2, .string (s.extract 0 k), .int .i64 u, .int .i64 0], .bool (false)]) (by simp [results, Tryd.results32, go_sem, hc1, hc2, hz1]) rfl ⟨rfl, ?_⟩
  exact below_set4 (Below.up (Below.up ((Below.refl _ _).alloc (Nat.le_refl _) _) hb1) hb2)

theorem lexnum_Be (s : ByteArray) (k : Nat) (w : World) (hs : s.size ≤ 3000) (hk : k = s.size) (h13 : 13 < k) 
    (hrun : ∀ W, Calls Tryd.prog 29 #[.string s, .func (.func 31) #[] #[]] W fun e w' => e = .returned (.int .i64 k) ∧ Below W.heap.size W w')
    (u : Nat) (hu : Lib.atoiAll s.data.toList = .ok (u : Int)) :
    Calls Tryd.prog 32 #[.string s] w fun e w' => e = .returned (.tuple #[.agg #[.int .i64 2, .string s, .int .i64 u, .int .i64 0], .bool (false)]) ∧ Below w.heap.size w w' := by
  have HR := Lib.hid hrun
  have HU := Lib.hid hu
  clear hrun hu
  subst hk
  go_enter Tryd.func32, Tryd.ntmps32
  go_wp2_with fail
  refine (HR.out _).mono ?_
  rintro e w1 ⟨rfl, hb1⟩
  obtain ⟨hc1, hf1⟩ := bcell hb1
  have hz1 : w.heap.size < w1.heap.size := by have := hb1.size; simp at this; omega
  have hx : s.size ≤ 3000 := by omega
  go_wp2_with fail
  refine (atoi_ok _ _ _ hx HU.out).mono ?_
  rintro e w2 ⟨rfl, hb2⟩
  obtain ⟨hc2, hf2⟩ := bcell hb2
  clear hx
  go_wp2
  refine bodyPost_ret (v := .tuple #[.agg #[.int .i64 2, .string s, .int .i64 u, .int .i64 0], .bool (false)]) (by simp [results, Tryd.results32, go_sem, hc1, hc2, hz1]) rfl ⟨rfl, ?_⟩
  exact below_set4 (Below.up (Below.up ((Below.refl _ _).alloc (Nat.le_refl _) _) hb1) hb2)

theorem lexnum_Cf (s : ByteArray) (k : Nat) (w : World) (hk : k < s.size) (h13 : k ≤ 13) 
    (hrun : ∀ W, Calls Tryd.prog 29 #[.string s, .func (.func 31) #[] #[]] W fun e w' => e = .returned (.int .i64 k) ∧ Below W.heap.size W w')
    (u : Nat) (hu : Lib.atoiAll (s.extract 0 k).data.toList = .ok (u : Int)) (hmax : 1099511627776 < (u : Int)) (fol : Bool) (hfol : Lx.withinI s[k].toNat = fol) :
    Calls Tryd.prog 32 #[.string s] w fun e w' => e = .returned (.tuple #[.agg #[.int .i64 2, .string (s.extract 0 k), .int .i64 u, .int .i64 0], .bool (false)]) ∧ Below w.heap.size w w' := by
  have HR := Lib.hid hrun
  have HU := Lib.hid hu
  have HF := Lib.hid hfol
  clear hrun hu hfol
  have hby : (s[k].toNat : Int) ≤ 255 := by have := s[k].toNat_lt; omega
  go_enter Tryd.func32, Tryd.ntmps32
  go_wp2_with fail
  refine (HR.out _).mono ?_
  rintro e w1 ⟨rfl, hb1⟩
  obtain ⟨hc1, hf1⟩ := bcell hb1
  have hz1 : w.heap.size < w1.heap.size := by have := hb1.size; simp at this; omega
  have hx : (s.extract 0 k).size ≤ 3000 := by rw [ByteArray.size_extract]; omega
  go_wp2_with fail
  refine (atoi_ok _ _ _ hx HU.out).mono ?_
  rintro e w2 ⟨rfl, hb2⟩
  obtain ⟨hc2, hf2⟩ := bcell hb2
  clear hx
  go_wp2_with fail
  refine (within_any _ _).mono ?_
  rintro e w3 ⟨rfl, rfl⟩
  rw [HF.out]
  go_wp2
  refine bodyPost_ret (v := .tuple #[.agg #[.int .i64 2, .string (s.extract 0 k), .int .i64 u, .int .i64 0], .bool (false)]) (by simp [results, Tryd.results32, go_sem, hc1, hc2, hz1]) rfl ⟨rfl, ?_⟩
  exact below_set4 (Below.up (Below.up ((Below.refl _ _).alloc (Nat.le_refl _) _) hb1) hb2)

theorem lexnum_Ce (s : ByteArray) (k : Nat) (w : World) (hk : k = s.size) (h13 : k ≤ 13) 
    (hrun : ∀ W, Calls Tryd.prog 29 #[.string s, .func (.func 31) #[] #[]] W fun e w' => e = .returned (.int .i64 k) ∧ Below W.heap.size W w')
    (u : Nat) (hu : Lib.atoiAll s.data.toList = .ok (u : Int)) (hmax : 1099511627776 < (u : Int)) :
    Calls Tryd.prog 32 #[.string s] w fun e w' => e = .returned (.tuple #[.agg #[.int .i64 2, .string s, .int .i64 u, .int .i64 0], .bool (false)]) ∧ Below w.heap.size w w' := by
  have HR := Lib.hid hrun
  have HU := Lib.hid hu
  clear hrun hu
  subst hk
  go_enter Tryd.func32, Tryd.ntmps32
  go_wp2_with fail
  refine (HR.out _).mono ?_
  rintro e w1 ⟨rfl, hb1⟩
  obtain ⟨hc1, hf1⟩ := bcell hb1
  have hz1 : w.heap.size < w1.heap.size := by have := hb1.size; simp at this; omega
  have hx : s.size ≤ 3000 := by omega
  go_wp2_with fail
  refine (atoi_ok _ _ _ hx HU.out).mono ?_
  rintro e w2 ⟨rfl, hb2⟩
  obtain ⟨hc2, hf2⟩ := bcell hb2
  clear hx
  go_wp2
  refine bodyPost_ret (v := .tuple #[.agg #[.int .i64 2, .string s, .int .i64 u, .int .i64 0], .bool (false)]) (by simp [results, Tryd.results32, go_sem, hc1, hc2, hz1]) rfl ⟨rfl, ?_⟩
  exact below_set4 (Below.up (Below.up ((Below.refl _ _).alloc (Nat.le_refl _) _) hb1) hb2)

theorem lexnum_Df (s : ByteArray) (k : Nat) (w : World) (G : Glob w) (hk : k < s.size) (h13 : k ≤ 13) 
    (hrun : ∀ W, Calls Tryd.prog 29 #[.string s, .func (.func 31) #[] #[]] W fun e w' => e = .returned (.int .i64 k) ∧ Below W.heap.size W w')
    (u : Nat) (hu : Lib.atoiAll (s.extract 0 k).data.toList = .ok (u : Int)) (hmax : (u : Int) ≤ 1099511627776) (hit : (Lib.decDigits u == (s.extract 0 k).toList) = false) (fol : Bool) (hfol : Lx.withinI s[k].toNat = fol) :
    Calls Tryd.prog 32 #[.string s] w fun e w' => e = .returned (.tuple #[.agg #[.int .i64 2, .string (s.extract 0 k), .int .i64 u, .int .i64 0], .bool (false)]) ∧ Below w.heap.size w w' := by
  have HR := Lib.hid hrun
  have HU := Lib.hid hu
  have HF := Lib.hid hfol
  clear hrun hu hfol
  have hby : (s[k].toNat : Int) ≤ 255 := by have := s[k].toNat_lt; omega
  go_enter Tryd.func32, Tryd.ntmps32
  go_wp2_with fail
  refine (HR.out _).mono ?_
  rintro e w1 ⟨rfl, hb1⟩
  obtain ⟨hc1, hf1⟩ := bcell hb1
  have hz1 : w.heap.size < w1.heap.size := by have := hb1.size; simp at this; omega
  have hx : (s.extract 0 k).size ≤ 3000 := by rw [ByteArray.size_extract]; omega
  go_wp2_with fail
  refine (atoi_ok _ _ _ hx HU.out).mono ?_
  rintro e w2 ⟨rfl, hb2⟩
  obtain ⟨hc2, hf2⟩ := bcell hb2
  have hz2 : w.heap.size < w2.heap.size := by have := hb2.size; omega
  clear hx
  go_wp2_with fail
  refine (within_any _ _).mono ?_
  rintro e w3 ⟨rfl, rfl⟩
  rw [HF.out]
  have G2 : Glob w2 := ((G.below ((Below.refl _ _).alloc (Nat.le_refl _) _)).below hb1).below hb2
  go_wp2_with fail
  refine (itoa_any _ _ G2 (by omega)).mono ?_
  rintro e w3 ⟨rfl, hb3⟩
  obtain ⟨hc3, hf3⟩ := bcell hb3
  go_wp2
  refine bodyPost_ret (v := .tuple #[.agg #[.int .i64 2, .string (s.extract 0 k), .int .i64 u, .int .i64 0], .bool (false)]) (by simp [results, Tryd.results32, go_sem, hc1, hc2, hc3, hz1, hz2]) rfl ⟨rfl, ?_⟩
  exact below_set4 (Below.up (Below.up (Below.up ((Below.refl _ _).alloc (Nat.le_refl _) _) hb1) hb2) hb3)

theorem lexnum_De (s : ByteArray) (k : Nat) (w : World) (G : Glob w) (hk : k = s.size) (h13 : k ≤ 13) 
    (hrun : ∀ W, Calls Tryd.prog 29 #[.string s, .func (.func 31) #[] #[]] W fun e w' => e = .returned (.int .i64 k) ∧ Below W.heap.size W w')
    (u : Nat) (hu : Lib.atoiAll s.data.toList = .ok (u : Int)) (hmax : (u : Int) ≤ 1099511627776) (hit : (Lib.decDigits u == s.toList) = false) :
    Calls Tryd.prog 32 #[.string s] w fun e w' => e = .returned (.tuple #[.agg #[.int .i64 2, .string s, .int .i64 u, .int .i64 0], .bool (false)]) ∧ Below w.heap.size w w' := by
  have HR := Lib.hid hrun
  have HU := Lib.hid hu
  clear hrun hu
  subst hk
  go_enter Tryd.func32, Tryd.ntmps32
  go_wp2_with fail
  refine (HR.out _).mono ?_
  rintro e w1 ⟨rfl, hb1⟩
  obtain ⟨hc1, hf1⟩ := bcell hb1
  have hz1 : w.heap.size < w1.heap.size := by have := hb1.size; simp at this; omega
  have hx : s.size ≤ 3000 := by omega
  go_wp2_with fail
  refine (atoi_ok _ _ _ hx HU.out).mono ?_
  rintro e w2 ⟨rfl, hb2⟩
  obtain ⟨hc2, hf2⟩ := bcell hb2
  have hz2 : w.heap.size < w2.heap.size := by have := hb2.size; omega
  clear hx
  have G2 : Glob w2 := ((G.below ((Below.refl _ _).alloc (Nat.le_refl _) _)).below hb1).below hb2
  go_wp2_with fail
  refine (itoa_any _ _ G2 (by omega)).mono ?_
  rintro e w3 ⟨rfl, hb3⟩
  obtain ⟨hc3, hf3⟩ := bcell hb3
  go_wp2
  refine bodyPost_ret (v := .tuple #[.agg #[.int .i64 2, .string s, .int .i64 u, .int .i64 0], .bool (false)]) (by simp [results, Tryd.results32, go_sem, hc1, hc2, hc3, hz1, hz2]) rfl ⟨rfl, ?_⟩
  exact below_set4 (Below.up (Below.up (Below.up ((Below.refl _ _).alloc (Nat.le_refl _) _) hb1) hb2) hb3)

theorem lexnum_Ef (s : ByteArray) (k : Nat) (w : World) (G : Glob w) (hk : k < s.size) (h13 : k ≤ 13) 
    (hrun : ∀ W, Calls Tryd.prog 29 #[.string s, .func (.func 31) #[] #[]] W fun e w' => e = .returned (.int .i64 k) ∧ Below W.heap.size W w')
    (u : Nat) (hu : Lib.atoiAll (s.extract 0 k).data.toList = .ok (u : Int)) (hmax : (u : Int) ≤ 1099511627776) (hit : (⟨(Lib.decDigits u).toArray⟩ : ByteArray) = (s.extract 0 k)) (fol : Bool) (hfol : Lx.withinI s[k].toNat = fol) :
    Calls Tryd.prog 32 #[.string s] w fun e w' => e = .returned (.tuple #[.agg #[.int .i64 2, .string (s.extract 0 k), .int .i64 u, .int .i64 0], .bool (!fol)]) ∧ Below w.heap.size w w' := by
  have HR := Lib.hid hrun
  have HU := Lib.hid hu
  have HI := Lib.hid hit
  have HF := Lib.hid hfol
  clear hrun hu hit hfol
  have hby : (s[k].toNat : Int) ≤ 255 := by have := s[k].toNat_lt; omega
  go_enter Tryd.func32, Tryd.ntmps32
  go_wp2_with fail
  refine (HR.out _).mono ?_
  rintro e w1 ⟨rfl, hb1⟩
  obtain ⟨hc1, hf1⟩ := bcell hb1
  have hz1 : w.heap.size < w1.heap.size := by have := hb1.size; simp at this; omega
  have hx : (s.extract 0 k).size ≤ 3000 := by rw [ByteArray.size_extract]; omega
  go_wp2_with fail
  refine (atoi_ok _ _ _ hx HU.out).mono ?_
  rintro e w2 ⟨rfl, hb2⟩
  obtain ⟨hc2, hf2⟩ := bcell hb2
  have hz2 : w.heap.size < w2.heap.size := by have := hb2.size; omega
  clear hx
  go_wp2_with fail
  refine (within_any _ _).mono ?_
  rintro e w3 ⟨rfl, rfl⟩
  rw [HF.out]
  have G2 : Glob w2 := ((G.below ((Below.refl _ _).alloc (Nat.le_refl _) _)).below hb1).below hb2
  go_wp2_with fail
  refine (itoa_any _ _ G2 (by omega)).mono ?_
  rintro e w3 ⟨rfl, hb3⟩
  rw [HI.out]
  obtain ⟨hc3, hf3⟩ := bcell hb3
  go_wp2
  refine bodyPost_ret (v := .tuple #[.agg #[.int .i64 2, .string (s.extract 0 k), .int .i64 u, .int .i64 0], .bool (!fol)]) (by simp [results, Tryd.results32, go_sem, hc1, hc2, hc3, hz1, hz2]) rfl ⟨rfl, ?_⟩
  exact below_set4 (Below.up (Below.up (Below.up ((Below.refl _ _).alloc (Nat.le_refl _) _) hb1) hb2) hb3)

theorem lexnum_Ee (s : ByteArray) (k : Nat) (w : World) (G : Glob w) (hk : k = s.size) (h13 : k ≤ 13) 
    (hrun : ∀ W, Calls Tryd.prog 29 #[.string s, .func (.func 31) #[] #[]] W fun e w' => e = .returned (.int .i64 k) ∧ Below W.heap.size W w')
    (u : Nat) (hu : Lib.atoiAll s.data.toList = .ok (u : Int)) (hmax : (u : Int) ≤ 1099511627776) (hit : (⟨(Lib.decDigits u).toArray⟩ : ByteArray) = s) :
    Calls Tryd.prog 32 #[.string s] w fun e w' => e = .returned (.tuple #[.agg #[.int .i64 2, .string s, .int .i64 u, .int .i64 0], .bool (true)]) ∧ Below w.heap.size w w' := by
  have HR := Lib.hid hrun
  have HU := Lib.hid hu
  have HI := Lib.hid hit
  clear hrun hu hit
  subst hk
  go_enter Tryd.func32, Tryd.ntmps32
  go_wp2_with fail
  refine (HR.out _).mono ?_
  rintro e w1 ⟨rfl, hb1⟩
  obtain ⟨hc1, hf1⟩ := bcell hb1
  have hz1 : w.heap.size < w1.heap.size := by have := hb1.size; simp at this; omega
  have hx : s.size ≤ 3000 := by omega
  go_wp2_with fail
  refine (atoi_ok _ _ _ hx HU.out).mono ?_
  rintro e w2 ⟨rfl, hb2⟩
  obtain ⟨hc2, hf2⟩ := bcell hb2
  have hz2 : w.heap.size < w2.heap.size := by have := hb2.size; omega
  clear hx
  have G2 : Glob w2 := ((G.below ((Below.refl _ _).alloc (Nat.le_refl _) _)).below hb1).below hb2
  go_wp2_with fail
  refine (itoa_any _ _ G2 (by omega)).mono ?_
  rintro e w3 ⟨rfl, hb3⟩
  rw [HI.out]
  obtain ⟨hc3, hf3⟩ := bcell hb3
  go_wp2
  refine bodyPost_ret (v := .tuple #[.agg #[.int .i64 2, .string s, .int .i64 u, .int .i64 0], .bool (true)]) (by simp [results, Tryd.results32, go_sem, hc1, hc2, hc3, hz1, hz2]) rfl ⟨rfl, ?_⟩
  exact below_set4 (Below.up (Below.up (Below.up ((Below.refl _ _).alloc (Nat.le_refl _) _) hb1) hb2) hb3)
end Go.Proofs.YtkmdojghimfmeaaDoor
