/-
  A slice of tokens handed in as an argument, opened to the tokens that it reads as.
-/
import Derived.Test.YtkmdojghimfmeaaDoorShowWalk
import Derived.Test.YtkmdojghimfmeaaDoorFrame
import Derived.Deep.Slices
import Derived.Deep.Fields
import Derived.Carry
namespace Go.Proofs.YtkmdojghimfmeaaDoor
open Go.ChangeShapes Go.WideShapes Go.ChangeAt Go.RowKit Go.Deep
open Go.ChangeMaps (open_string shut_string)

theorem u30 : ∃ f0 f1 f2 f3 : Field, Tryd.prog.underlying 30 = some (.struct #[f0, f1, f2, f3]) ∧ f0.offset = 0 ∧ f1.offset = 1 ∧ f2.offset = 2 ∧ f3.offset = 3 ∧ f0.type = 3 ∧ f1.type = 9 ∧ f2.type = 3 ∧ f3.type = 3 :=
  ⟨_, _, _, _, Tryd.underlying30, rfl, rfl, rfl, rfl, rfl, rfl, rfl, rfl⟩
theorem cells30 : Tryd.prog.cellsOf 30 = 4 := by kernel_rfl
theorem cells3 : Tryd.prog.cellsOf 3 = 1 := by kernel_rfl
theorem laidOut : laidOutB Tryd.prog = true := by kernel_rfl

set_option maxRecDepth 100000 in
/-- One token, read field by field. -/
theorem open_tok {H : Type} {enc : TypeId × Value → H} {W : World} {base n : Nat} {spare : Nat → Bool} {held : Bool} {cs : List Value} {x : DataW H × List MemPlace} (h : DataW.trod enc Tryd.prog W base spare held n 30 cs = some x) :
    ∃ t : TokV, cs = [.int .i64 t.kind, .string t.text, .int .i64 t.num, .int .i64 t.pos] ∧ t.text.size ≤ maxLen := by
  obtain ⟨f0, f1, f2, f3, hu, o0, o1, o2, o3, t0, t1, t2, t3⟩ := u30
  obtain ⟨xs, n', _, _, hlen, hxl, hf⟩ := DataW.trod_struct hu h
  rw [cells30] at hlen
  match cs, hlen with
  | [c0, c1, c2, c3], _ =>
    match xs, hxl with
    | [y0, y1, y2, y3], _ =>
      have h0 := hf 0 f0 rfl
      have h1 := hf 1 f1 rfl
      have h2 := hf 2 f2 rfl
      have h3 := hf 3 f3 rfl
      rw [o0, t0, cells3] at h0
      rw [o1, t1, cells9] at h1
      rw [o2, t2, cells3] at h2
      rw [o3, t3, cells3] at h3
      obtain ⟨k, e0, _⟩ := DataW.trod_int (x := y0) Tryd.underlying3 h0
      obtain ⟨s, e1, _, hs⟩ := DataW.trod_string (x := y1) Tryd.underlying9 h1
      obtain ⟨m, e2, _⟩ := DataW.trod_int (x := y2) Tryd.underlying3 h2
      obtain ⟨p, e3, _⟩ := DataW.trod_int (x := y3) Tryd.underlying3 h3
      simp at e0 e1 e2 e3
      subst e0 e1 e2 e3
      exact ⟨⟨k, s, m, p⟩, rfl, hs⟩

set_option maxRecDepth 100000 in
/-- A slice of tokens handed in, opened. -/
theorem open_toks {H : Type} {enc : TypeId × Value → H} {W : World} {base : Nat} {v : Value} {d : DataW H} {p : List MemPlace} (hv : Value.okWide Tryd.prog W .any base 23 v) (h : DataW.Trod enc Tryd.prog W 0 (fun _ => true) true 23 v d p) :
    ∃ ts : List TokV, Rd W W.heap.size v ts ∧ ts.length ≤ maxLen ∧ ∀ t ∈ ts, t.text.size ≤ maxLen := by
  obtain ⟨a0, len0, cap0, rfl⟩ := okWide_slice Tryd.underlying23 hv
  obtain ⟨fuel, hf⟩ := h
  rcases open_slice Tryd.underlying23 hf with ⟨hcs, _⟩ | ⟨a, len, cap, m, n, D, Pl, hcs, _, hl, hm, hmm, _, hi⟩
  · simp [Value.cells] at hcs
    obtain ⟨rfl, rfl, rfl⟩ := hcs
    exact ⟨[], ⟨none, 0, rfl, Nat.le_refl _, fun h => absurd rfl h⟩, Nat.zero_le _, fun t ht => by cases ht⟩
  · simp [Value.cells] at hcs
    obtain ⟨rfl, rfl, rfl⟩ := hcs
    have hlm : len0 ≤ m := by simp at hmm; omega
    have one : ∀ i, i < len0 → ∃ t : TokV, t.text.size ≤ maxLen ∧ W.cell? (a.add (i * 4)) = some (.int .i64 t.kind) ∧ W.cell? (a.add (i * 4 + 1)) = some (.string t.text) ∧ W.cell? (a.add (i * 4 + 2)) = some (.int .i64 t.num) ∧ W.cell? (a.add (i * 4 + 3)) = some (.int .i64 t.pos) := by
      intro i hil
      obtain ⟨cs', hc, ht⟩ := hi i (by omega)
      rw [cells30] at hc
      obtain ⟨t, rfl, hts⟩ := open_tok ht
      obtain ⟨_, _, hat⟩ := World.cells?_some hc
      have a0 := hat 0 (by omega)
      have a1 := hat 1 (by omega)
      have a2 := hat 2 (by omega)
      have a3 := hat 3 (by omega)
      rw [add_add] at a0 a1 a2 a3
      exact ⟨t, hts, a0, a1, a2, a3⟩
    let T : Nat → TokV := fun i => if h : i < len0 then (one i h).choose else ⟨0, ⟨#[]⟩, 0, 0⟩
    have hT : ∀ i, i < len0 → (T i).text.size ≤ maxLen ∧ W.cell? (a.add (i * 4)) = some (.int .i64 (T i).kind) ∧ W.cell? (a.add (i * 4 + 1)) = some (.string (T i).text) ∧ W.cell? (a.add (i * 4 + 2)) = some (.int .i64 (T i).num) ∧ W.cell? (a.add (i * 4 + 3)) = some (.int .i64 (T i).pos) := by
      intro i h
      have := (one i h).choose_spec
      simp only [T, h, dif_pos]
      exact this
    refine ⟨(List.range len0).map T, ⟨some a, cap0, by simp, by simpa using hl, fun h0 => ?_⟩, by simp; omega, ?_⟩
    · have hpos : 0 < len0 := by
        rcases Nat.eq_zero_or_pos len0 with h | h
        · subst h; exact absurd rfl h0
        · exact h
      obtain ⟨b, o, spot⟩ := a
      have h00 := (hT 0 hpos).2.1
      rw [Nat.zero_mul] at h00
      have hsp : spot = none := by simpa [Addr.add] using World.cell?_spot h00
      subst hsp
      have hadd : ∀ j, (⟨b, o, none⟩ : Addr).add j = ⟨b, o + j, none⟩ := fun j => by unfold Addr.add; split <;> simp_all
      refine ⟨b, o, rfl, ?_, fun i t ht => ?_⟩
      · rcases Nat.lt_or_ge b W.heap.size with h | h
        · exact h
        · rw [hadd] at h00
          unfold World.cell? at h00
          rw [Array.getElem?_eq_none h] at h00
          cases h00
      · rw [List.getElem?_map] at ht
        have hil : i < len0 := by
          rcases Nat.lt_or_ge i len0 with h | h
          · exact h
          · rw [List.getElem?_eq_none (by simpa using h)] at ht; cases ht
        rw [List.getElem?_range hil] at ht
        obtain rfl : T i = t := Option.some.inj ht
        obtain ⟨_, c0, c1, c2, c3⟩ := hT i hil
        rw [hadd] at c0 c1 c2 c3
        exact ⟨c0, c1, c2, c3⟩
    · intro t ht
      obtain ⟨i, hi, rfl⟩ := List.mem_map.1 ht
      exact (hT i (List.mem_range.1 hi)).1
end Go.Proofs.YtkmdojghimfmeaaDoor
