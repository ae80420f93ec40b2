/-
  The contract of Words of package lex.
-/
import Derived.Test.YtkmdojghimfmeaaDoorFirst
import Derived.Laws.AppendOwn
import Derived.OwnWalk
namespace Go.Proofs.YtkmdojghimfmeaaDoor
open Go.RowKit

def tokCells (ts : List Lx.Tok) : List Value := ts.flatMap fun t => [.int .i64 t.kind, .string ⟨t.text.toArray⟩, .int .i64 t.num, .int .i64 t.pos]
theorem tokCells_snoc (ts : List Lx.Tok) (t : Lx.Tok) : tokCells (ts ++ [t]) = tokCells ts ++ [.int .i64 t.kind, .string ⟨t.text.toArray⟩, .int .i64 t.num, .int .i64 t.pos] := by simp [tokCells]

/-- What Words gives. -/
def WordsPost (l : List UInt8) (w : World) (e : Ending) (w' : World) : Prop :=
  Below w.heap.size w w' ∧ match Lx.words 0 l with
    | none => e = .returned (.tuple #[.slice none 0 0, .int .i64 3])
    | some ts => ∃ v, e = .returned (.tuple #[v, .int .i64 0]) ∧ w'.ownsRow w.heap.size 30 4 v ts.length (tokCells ts)

theorem own_below {w w1 : World} {base e size n : Nat} {v : Value} {xs : List Value} (h : w.ownsRow base e size v n xs) (hb : Below w.heap.size w w1) : w1.ownsRow base e size v n xs :=
  h.kept (row := none) ⟨hb.os, hb.tape, hb.output, hb.size, fun i hi _ => hb.block i hi⟩ (by cases v.ownBlock <;> simp)
theorem own_form {w : World} {base e size n : Nat} {v : Value} {xs : List Value} (h : w.ownsRow base e size v n xs) (hn : 0 < n) : ∃ g cap, v = .slice (some ⟨g, 0, none⟩) n cap ∧ base ≤ g ∧ g < w.heap.size := by
  rcases h.2 with ⟨_, h0⟩ | ⟨g, cap, cur, hv, hb, hh, _⟩
  · omega
  · exact ⟨g, cap, hv, hb, (Array.getElem?_eq_some_iff.1 hh).1⟩
theorem info30 : (Tryd.prog.info? 30).map (fun i => (i.zero, i.size, i.bytes)) = some (some (.agg #[.int .i64 0, .string ⟨#[]⟩, .int .i64 0, .int .i64 0]), 4, 40) := by kernel_rfl

/-- The loop's state: the tokens so far, the offset, and what is left. -/
structure St (l : List UInt8) (base : Nat) (w wr : World) (v : Value) (S : ByteArray) (done : List Lx.Tok) (p : Nat) : Prop where
  own : wr.ownsRow base 30 4 v done.length (tokCells done)
  below : Below w.heap.size w wr
  rest : l.drop p = S.data.toList
  size : p + S.size = l.length
  few : done.length ≤ p
  all : Lx.words 0 l = (Lx.words p S.data.toList).map (done ++ ·)
  head : ∀ c r, S.data.toList = c :: r → Lx.blank c = false

def strLen : Value → Nat
  | .string s => s.size
  | _ => 0

theorem words_start (l : List UInt8) : ∃ p, l.drop p = l.dropWhile Lx.blank ∧ p + (l.dropWhile Lx.blank).length = l.length ∧ Lx.words 0 l = Lx.words p (l.dropWhile Lx.blank) := by
  refine ⟨(l.takeWhile Lx.blank).length, Lx.drop_takeWhile _ _, ?_, ?_⟩
  · have h1 : (l.drop (l.takeWhile Lx.blank).length).length = l.length - (l.takeWhile Lx.blank).length := List.length_drop
    rw [Lx.drop_takeWhile] at h1
    have h2 := Lx.takeWhile_length_le Lx.blank l
    omega
  · have h := Lx.words_dropWhile 0 l
    rw [Nat.zero_add] at h
    exact h
theorem dropWhile_head (l : List UInt8) : ∀ c r, l.dropWhile Lx.blank = c :: r → Lx.blank c = false := by
  induction l with
  | nil => intro c r h; cases h
  | cons a t ih =>
    intro c r h
    simp only [List.dropWhile_cons] at h
    split at h
    · exact ih c r h
    · rename_i hb
      cases h
      simpa using hb

theorem St.start {l : List UInt8} {base : Nat} {w w1 : World} {S0 : ByteArray} (hb : Below w.heap.size w w1) (hS : S0 = ⟨(l.dropWhile Lx.blank).toArray⟩) : ∃ p, St l base w w1 (.slice none 0 0) S0 [] p := by
  obtain ⟨p, h1, h2, h3⟩ := words_start l
  have hd : S0.data.toList = l.dropWhile Lx.blank := by rw [hS, data_mk]
  refine ⟨p, ⟨World.ownsRow_nil _ _ _ _, hb, by rw [h1, hd], ?_, Nat.zero_le _, ?_, ?_⟩⟩
  · rw [← h2, ← hd]; rfl
  · rw [h3, hd]
    cases Lx.words p (l.dropWhile Lx.blank) <;> rfl
  · rw [hd]; exact dropWhile_head l

theorem St.none {l : List UInt8} {base : Nat} {w wr : World} {v : Value} {S : ByteArray} {done : List Lx.Tok} {p : Nat} (h : St l base w wr v S done p) (h0 : 0 < S.size) (ht : Lx.tok1 S.data.toList = none) : (Lx.words p S.data.toList).map (done ++ ·) = none := by
  have hl := list_cons h0
  have hb := h.head _ _ hl
  rw [hl] at ht ⊢
  rw [Lx.words_none p _ _ hb ht]
  rfl
theorem St.step {l : List UInt8} {base : Nat} {w wr : World} {v : Value} {S : ByteArray} {done : List Lx.Tok} {p : Nat} (h : St l base w wr v S done p) (h0 : 0 < S.size) {k n : Nat} {t : List UInt8} (ht : Lx.tok1 S.data.toList = some (k, t, n)) :
    Lx.words 0 l = (Lx.words (p + t.length) (S.data.toList.drop t.length)).map ((done ++ [⟨k, t, n, p⟩]) ++ ·) := by
  rw [h.all]
  have hl := list_cons h0
  have hb := h.head _ _ hl
  rw [hl] at ht ⊢
  rw [Lx.words_some p _ _ hb ht]
  cases Lx.words (p + t.length) ((S[0] :: S.data.toList.drop 1).drop t.length) with
  | none => rfl
  | some ts => simp

theorem St.next {l : List UInt8} {base : Nat} {w wr w4 : World} {v v' : Value} {S S2 T : ByteArray} {done : List Lx.Tok} {p : Nat} (h : St l base w wr v S done p) (h0 : 0 < S.size) {k n : Nat} {t : List UInt8} (ht : Lx.tok1 S.data.toList = some (k, t, n))
    (hT : (⟨t.toArray⟩ : ByteArray) = T) (hTs : T.size = t.length) (hS2 : (⟨((S.extract T.size S.size).data.toList.dropWhile Lx.blank).toArray⟩ : ByteArray) = S2)
    (own : w4.ownsRow base 30 4 v' (done.length + 1) (tokCells done ++ [.int .i64 k, .string T, .int .i64 n, .int .i64 p])) (below : Below w.heap.size w w4) :
    ∃ p', St l base w w4 v' S2 (done ++ [⟨k, t, n, p⟩]) p' ∧ S2.size < S.size := by
  have htx := Lx.tok1_text ht
  have hSl : S.data.toList.length = S.size := rfl
  have hr : (S.extract T.size S.size).data.toList = S.data.toList.drop t.length := by
    rw [Lib.extract_data, hTs]
    exact List.take_of_length_le (by rw [List.length_drop]; omega)
  rw [hr] at hS2
  have hS2d : S2.data.toList = (S.data.toList.drop t.length).dropWhile Lx.blank := by rw [← hS2, data_mk]
  have hS2s : S2.size = ((S.data.toList.drop t.length).dropWhile Lx.blank).length := by rw [← hS2]; exact size_mk _
  have hstep := h.step h0 ht
  have hsz := h.size
  have hfew := h.few
  have hrest := h.rest
  generalize hq : S.data.toList.drop t.length = q at *
  have hql : q.length = S.size - t.length := by rw [← hq, List.length_drop, hSl]
  have hbl := Lx.takeWhile_length_le Lx.blank q
  have hdw := Lx.drop_takeWhile Lx.blank q
  have hdl : (q.dropWhile Lx.blank).length = q.length - (q.takeWhile Lx.blank).length := by rw [← hdw, List.length_drop]
  refine ⟨p + t.length + (q.takeWhile Lx.blank).length, ⟨?_, below, ?_, ?_, ?_, ?_, ?_⟩, by omega⟩
  · rw [tokCells_snoc, List.length_append]
    rw [← hT] at own
    exact own
  · rw [hS2d, ← hdw, ← hq, ← hrest, List.drop_drop, List.drop_drop]
  · omega
  · rw [List.length_append]; simp only [List.length_singleton]; omega
  · rw [hstep, hS2d, Lx.words_dropWhile]
  · rw [hS2d]; exact dropWhile_head q
theorem cell_four_new (w : World) {B : Nat} (hB : B = w.heap.size) (a b c d : Value) (t : TypeId) : ∀ j u, [a, b, c, d][j]? = some u → (w.alloc (.cells #[a, b, c, d] t)).cell? ((⟨B, 0, none⟩ : Addr).add j) = some u := by
  subst hB
  intro j u hj
  match j, hj with
  | 0, hj => simp at hj; subst hj; simp [Addr.add]
  | 1, hj => simp at hj; subst hj; simp [Addr.add]
  | 2, hj => simp at hj; subst hj; simp [Addr.add]
  | 3, hj => simp at hj; subst hj; simp [Addr.add]
  | j + 4, hj => simp at hj
theorem four_one (a : Int) (b : ByteArray) (c d : Int) : ∀ u ∈ [Value.int .i64 a, .string b, .int .i64 c, .int .i64 d], u.oneCell' = true := by
  intro u hu
  simp only [List.mem_cons, List.not_mem_nil, or_false] at hu
  rcases hu with rfl | rfl | rfl | rfl <;> rfl

set_option maxRecDepth 100000 in
theorem lexwords_any (s : ByteArray) (w : World) (hs : s.size ≤ 3000) (G : Glob w) : Calls Tryd.prog 10 #[.string s] w (WordsPost s.data.toList w) := by
  obtain ⟨i0, hi, hz0, hz1, hz2⟩ := info_parts info30
  have HI := Lib.hid (And.intro hi (And.intro hz0 (And.intro hz1 hz2)))
  clear hi hz0 hz1 hz2
  go_enter Tryd.func10, Tryd.ntmps10
  go_wp2_with fail
  refine (trim_any _ _).mono ?_
  rintro e w1 ⟨rfl, hb1⟩
  generalize hS : (⟨(s.data.toList.dropWhile Lx.blank).toArray⟩ : ByteArray) = S0
  have HS := Lib.hid hS
  clear hS
  go_wp2_with fail
  go_loopw [4, 5] (fun v sv wr => ∃ (ao : Option Addr) (c p : Nat) (S : ByteArray) (done : List Lx.Tok), v = .slice ao done.length c ∧ sv = .string S ∧ St s.data.toList w.heap.size w wr v S done p) (fun _ sv _ => strLen sv)
  case atStart =>
    obtain ⟨p, h⟩ := St.start hb1 HS.out.symm
    exact ⟨none, 0, p, S0, [], rfl, rfl, h⟩
  case round =>
    obtain ⟨ao, c, p, S, done, rfl, rfl, hst⟩ := hrel
    have HT := Lib.hid hst
    have hsz : p + S.size = s.size := hst.size
    have hfw : done.length ≤ p := hst.few
    have hbw := Lib.hid hst.below
    have hwz : w.heap.size ≤ wr.heap.size := hst.below.size
    clear hst
    by_cases h0 : S.size = 0
    · obtain rfl : S = ⟨#[]⟩ := by
        rw [← mk_data S, List.eq_nil_of_length_eq_zero (l := S.data.toList) h0]
      go_wp2
      go_ret2
      refine ⟨hbw.out, ?_⟩
      rw [HT.out.all]
      exact ⟨_, rfl, by simpa using HT.out.own⟩
    · have hne : S.toList.isEmpty = false := by
        rw [toList_eq]
        cases h : S.data.toList with
        | nil => exact absurd (congrArg List.length h) h0
        | cons a t => rfl
      have hpos : 0 < S.size := by omega
      have hS3 : S.size ≤ 3000 := by omega
      have GR : Glob wr := G.below hbw.out
      have hlc := list_cons hpos
      cases ht : Lx.tok1 S.data.toList with
      | none =>
        have HK := Lib.hid ht
        clear ht
        go_wp2_with fail
        refine (first_any S _ hS3 GR hpos).mono ?_
        rintro e w2 ⟨hb2, hm⟩
        rw [HK.out] at hm
        obtain ⟨a, b, c, rfl⟩ := hm
        go_wp2
        go_ret2
        refine ⟨(hbw.out.trans (hb2.mono hwz)).alloc (Nat.le_trans hwz hb2.size) _, ?_⟩
        rw [HT.out.all, St.none HT.out hpos HK.out]
        exact rfl
      | some x =>
        obtain ⟨k, t, n⟩ := x
        have HK := Lib.hid ht
        have htx := Lx.tok1_text ht
        have ht1 : 1 ≤ t.length := htx.1
        have ht2 : t.length ≤ S.size := htx.2.1
        clear ht htx
        go_wp2_with fail
        refine (first_any S _ hS3 GR hpos).mono ?_
        rintro e w2 ⟨hb2, hm⟩
        rw [HK.out] at hm
        obtain rfl := hm
        have hz2 : wr.heap.size ≤ w2.heap.size := hb2.size
        have HO2 := Lib.hid (own_below HT.out.own hb2)
        have HB2 := Lib.hid (hbw.out.trans (hb2.mono hwz))
        clear hb2
        generalize hTv : (⟨t.toArray⟩ : ByteArray) = T
        have HTv := Lib.hid hTv
        have hTs : T.size = t.length := by rw [← hTv]; exact size_mk t
        clear hTv
        have hTle : T.size ≤ S.size := by omega
        have HTs := Lib.hid hTs
        clear hTs hlc
        go_wp2_with (at_builtin; rw [show ((s.size : Int) - (S.size : Int)) = (p : Int) from by omega]; refine wpList_append_own _ rfl (.tmp 30) (.tmp 32) 23 rfl w.heap.size 30 i0 _ 4 40 Tryd.underlying23 HI.out.1 HI.out.2.1 HI.out.2.2.1 HI.out.2.2.2 rfl (by decide) _ _ _ rfl ((HO2.out.alloc _).alloc _) ⟨w2.heap.size + 1, 0, none⟩ 1 1 [.int .i64 k, .string T, .int .i64 n, .int .i64 p] rfl rfl ?_ ?_ ?_ ?_ ?_ ?_)
        · exact cell_four_new _ (by simp) _ _ _ _ _
        · exact four_one _ _ _ _
        · unfold maxLen; omega
        · omega
        · simp; omega
        intro v' w3 hown hgrow _
        obtain ⟨g, cap, rfl, hg1, hg2⟩ := own_form hown (by omega)
        have hbox : w3.cell? ⟨w2.heap.size, 1, none⟩ = some (.string T) := hgrow.cell (by simp) (fun e => absurd (HO2.out.lt _ e.symm).2 (Nat.lt_irrefl _))
        have hz3 : w2.heap.size < w3.heap.size := by have := hgrow.size; simp at this; omega
        have HO3 := Lib.hid hown
        have HB3 := Lib.hid (((HB2.out.alloc (Nat.le_trans hwz hz2) _).alloc (by simp; omega) _).grown hgrow (by simp; omega) (fun j hj => (HO2.out.lt j hj).1))
        clear hown hgrow
        go_wp2_with fail
        refine (trim_any _ _).mono ?_
        rintro e w4 ⟨rfl, hb4⟩
        generalize hS2 : (⟨((S.extract T.size S.size).data.toList.dropWhile Lx.blank).toArray⟩ : ByteArray) = S2
        obtain ⟨p', hst, hlt⟩ := HT.out.next hpos HK.out HTv.out HTs.out hS2 (own_below HO3.out hb4) (HB3.out.trans (hb4.mono (by omega)))
        have HN := Lib.hid hst
        clear hst hS2
        go_wp2
        go_roundw
        case rel => exact ⟨some ⟨g, 0, none⟩, cap, p', S2, done ++ [⟨k, t, n, p⟩], by simp, rfl, HN.out⟩
        case measure => exact hlt
end Go.Proofs.YtkmdojghimfmeaaDoor
