/-
  The library contracts in the words of this seat: each says what the call returns and that what lay in memory before is as it was.
-/
import Derived.Test.YtkmdojghimfmeaaDoorNumber
import Derived.Test.YtkmdojghimfmeaaDoorShelf
import Derived.WalkSmall
namespace Go.Proofs.YtkmdojghimfmeaaDoor
open Go.RowKit

/-- The package-level variables that the calls read. -/
structure Glob (w : World) : Prop where
  tab : w.var? Tryd.prog "internal/strconv.uint64pow10" = some ((Lib.pow10Tab.map fun z => Value.int .u64 z).toArray)
  err : ∃ tp p, w.var? Tryd.prog "strconv.ErrRange" = some #[.iface tp p]

theorem var_below {n : String} {g : Nat} {cs : Array Value} {w w' : World} (hg : Tryd.prog.globalNamed n = some g) (h : w.var? Tryd.prog n = some cs) (hb : Below w.heap.size w w') : w'.var? Tryd.prog n = some cs := by
  have hlt : g < w.heap.size := by
    have h' := h
    unfold World.var? at h'
    rw [hg] at h'
    simp only [Option.bind_some] at h'
    rcases Nat.lt_or_ge g w.heap.size with h1 | h1
    · exact h1
    · rw [Array.getElem?_eq_none h1] at h'; cases h'
  exact var?_below hb hg hlt h
theorem gPow : Tryd.prog.globalNamed "internal/strconv.uint64pow10" = some 5 := by kernel_rfl
theorem gErr : Tryd.prog.globalNamed "strconv.ErrRange" = some 4 := by kernel_rfl
theorem Glob.below {w w' : World} (h : Glob w) (hb : Below w.heap.size w w') : Glob w' := by
  obtain ⟨tp, p, he⟩ := h.err
  exact ⟨var_below gPow h.tab hb, tp, p, var_below gErr he hb⟩
theorem Below.up {w w1 w2 : World} (h : Below w.heap.size w w1) (k : Below w1.heap.size w1 w2) : Below w.heap.size w w2 := h.trans (k.mono h.size)

theorem below_grow (w : World) (k : Nat) (os : Array Obj) : Below w.heap.size w (Go.Sort.grow (w.drewN k) os) :=
  ⟨rfl, rfl, rfl, by show w.heap.size ≤ (w.heap ++ os).size; rw [Array.size_append]; omega, fun i hi => by show (w.heap ++ os)[i]? = w.heap[i]?; rw [Array.getElem?_append_left hi]⟩

theorem data_mk (l : List UInt8) : (⟨l.toArray⟩ : ByteArray).data.toList = l := by simp
theorem size_mk (l : List UInt8) : (⟨l.toArray⟩ : ByteArray).size = l.length := by simp [ByteArray.size]
theorem mk_data (s : ByteArray) : (⟨s.data.toList.toArray⟩ : ByteArray) = s := Lib.mk_data s

theorem atoi_ok (s : ByteArray) (u : Int) (w : World) (hs : s.size ≤ 3000) (h : Lib.atoiAll s.data.toList = .ok u) :
    Calls Tryd.prog 41 #[.string s] w fun e w' => e = .returned (.tuple #[.int .i64 u, .nilIface]) ∧ Below w.heap.size w w' :=
  (Tryd.strconv_Atoi_ok s (by omega) u h w).mono fun _ _ ⟨he, hw⟩ => ⟨he, by
    rcases hw with rfl | ⟨t, rfl⟩
    · exact Below.refl _ _
    · exact Lib.bytesWorld_below _ _ _⟩
theorem atoi_range (s : ByteArray) (w : World) (G : Glob w) (hs : s.size ≤ 3000) (h : Lib.atoiAll s.data.toList = .range) :
    Calls Tryd.prog 41 #[.string s] w fun e w' => (∃ n N, e = .returned (.tuple #[.int .i64 n, .iface 88 (.pointer (some ⟨N, 0, none⟩))])) ∧ Below w.heap.size w w' := by
  obtain ⟨tp, p, he⟩ := G.err
  exact (Tryd.strconv_Atoi_range_var s (by omega) h tp p w he).mono fun _ _ ⟨N, h1, _, _, h2⟩ => ⟨⟨_, N, h1⟩, h2⟩
theorem itoa_any (n : Nat) (w : World) (G : Glob w) (h : n ≤ 9223372036854775807) :
    Calls Tryd.prog 42 #[.int .i64 n] w fun e w' => e = .returned (.string ⟨(Lib.decDigits n).toArray⟩) ∧ Below w.heap.size w w' :=
  (Tryd.strconv_Itoa n (by omega) (by omega) w G.tab).mono fun _ _ ⟨he, k, os, hw⟩ => ⟨by rw [he, Lib.itoa_nonneg], by rw [hw]; exact below_grow _ _ _⟩
theorem hasPrefix_any (s p : ByteArray) (w : World) :
    Calls Tryd.prog 34 #[.string s, .string p] w fun e w' => e = .returned (.bool (p.data.toList.isPrefixOf s.data.toList)) ∧ w = w' :=
  (Tryd.strings_HasPrefix s p w).mono fun _ _ ⟨he, hw⟩ => ⟨he, hw.symm⟩
theorem blank_contains (c : UInt8) : [32, 9, 10].contains c = Lx.blank c := by
  unfold Lx.blank
  simp only [List.contains, List.elem]
  cases c == 32 <;> cases c == 9 <;> cases c == 10 <;> rfl
theorem trim_any (s : ByteArray) (w : World) :
    Calls Tryd.prog 18 #[.string s, .string ⟨#[32, 9, 10]⟩] w fun e w' => e = .returned (.string ⟨(s.data.toList.dropWhile Lx.blank).toArray⟩) ∧ Below w.heap.size w w' := by
  have h := Any.strings_TrimLeft_laid Tryd.lays161 (by kernel_rfl) s ⟨#[32, 9, 10]⟩ w (by decide) (ascii_of_all (by decide))
  refine h.mono fun e w' ⟨he, hb⟩ => ⟨he.trans ?_, hb⟩
  have e : Lib.trimLeftS s.data.toList [32, 9, 10] = s.data.toList.dropWhile Lx.blank := by
    unfold Lib.trimLeftS
    congr 1
    funext c
    exact blank_contains c
  exact congrArg (fun l : List UInt8 => Ending.returned (.string ⟨l.toArray⟩)) e
end Go.Proofs.YtkmdojghimfmeaaDoor
