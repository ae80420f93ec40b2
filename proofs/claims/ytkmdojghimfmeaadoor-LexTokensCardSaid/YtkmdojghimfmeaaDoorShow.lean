/-
  The contracts of Show of package lex and of the reference: the spellings, joined by blanks.
-/
import Derived.Test.YtkmdojghimfmeaaDoorSame
namespace Go.Proofs.YtkmdojghimfmeaaDoor
open Go.RowKit

def textCells (ts : List TokV) : List Value := ts.map fun t => .string t.text
def shown (ts : List TokV) : List UInt8 := Lib.join (ts.map (·.text.data.toList)) [32]
theorem info9 : (Tryd.prog.info? 9).map (fun i => (i.zero, i.size, i.bytes)) = some (some (.string ⟨#[]⟩), 1, 16) := by kernel_rfl

theorem join_snoc (xs : List (List UInt8)) (x sep : List UInt8) (h : xs ≠ []) : Lib.join (xs ++ [x]) sep = Lib.join xs sep ++ sep ++ x := by
  cases xs with
  | nil => exact absurd rfl h
  | cons y r =>
    rw [List.cons_append, Lib.join_cons, Lib.join_cons]
    simp [Lib.joinTail]
theorem shown_nil : shown [] = [] := rfl
theorem shown_one (t : TokV) : shown [t] = t.text.data.toList := Lib.join_one _ _
theorem shown_snoc (ts : List TokV) (t : TokV) (h : ts ≠ []) : shown (ts ++ [t]) = shown ts ++ [32] ++ t.text.data.toList := by
  unfold shown
  rw [List.map_append, List.map_singleton, join_snoc _ _ _ (by intro e; exact h (List.map_eq_nil_iff.1 e))]
theorem shown_count : ∀ ts : List TokV, ts.length ≤ (shown ts).length + 1
  | [] => Nat.zero_le _
  | t :: r => by
    unfold shown
    rw [List.map_cons, Lib.join_cons, List.length_append]
    have : r.length ≤ (Lib.joinTail [32] (r.map (·.text.data.toList))).length := by
      unfold Lib.joinTail
      clear t
      induction r with
      | nil => exact Nat.zero_le _
      | cons a r ih => simp only [List.map_cons, List.flatten_cons, List.length_append, List.length_cons, List.length_nil] at ih ⊢; omega
    simp only [List.length_cons]
    omega
theorem shown_le : ∀ (n : Nat) (ts : List TokV), ts.length = n → (∀ t ∈ ts, t.text.size ≤ 3000) → (shown ts).length ≤ n * 3001 := by
  intro n
  induction n with
  | zero => intro ts h _; rw [List.length_eq_zero_iff.1 h]; simp [shown_nil]
  | succ n ih =>
    intro ts h hb
    by_cases h0 : ts = []
    · subst h0; simp at h
    obtain ⟨r, t, rfl⟩ : ∃ r t, ts = r ++ [t] := ⟨ts.dropLast, ts.getLast h0, (List.dropLast_concat_getLast h0).symm⟩
    have hr := ih r (by simpa using h) (fun x hx => hb x (by simp [hx]))
    have ht : t.text.data.toList.length ≤ 3000 := hb t (by simp)
    by_cases hr0 : r = []
    · subst hr0
      rw [List.nil_append, shown_one]
      omega
    · rw [shown_snoc r t hr0, List.length_append, List.length_append]
      simp only [List.length_singleton]
      omega

theorem cell_one_at (w : World) {B : Nat} (hB : B = w.heap.size) (a : Value) (t : TypeId) : ∀ j u, [a][j]? = some u → (w.alloc (.cells #[a] t)).cell? ((⟨B, 0, none⟩ : Addr).add j) = some u := by
  subst hB
  intro j u hj
  match j, hj with
  | 0, hj => simp at hj; subst hj; simp [Addr.add]
  | j + 1, hj => simp at hj
theorem text_take {ts : List TokV} {k : Nat} {t : TokV} (h : ts[k]? = some t) : textCells (ts.take (k + 1)) = textCells (ts.take k) ++ [.string t.text] := by
  unfold textCells
  rw [List.take_add_one, h, List.map_append]
  rfl
/-- strings.Join of a row of the call's own. -/
theorem join_own {wr : World} {base k : Nat} {ov : Value} {ts : List TokV} (h : wr.ownsRow base 9 1 ov k (textCells ts)) (hk : ts.length = k) (hlen : (shown ts).length < 140737488355328) :
    Calls Tryd.prog 23 #[ov, .string ⟨#[32]⟩] wr fun e w' => e = .returned (.string ⟨(shown ts).toArray⟩) ∧ Below wr.heap.size wr w' := by
  subst hk
  by_cases h0 : ts = []
  · subst h0
    rcases h.2 with ⟨rfl, _⟩ | ⟨g, cap, cur, rfl, _⟩
    · exact (Tryd.strings_Join_none _ _ _ _).mono fun e w' ⟨he, hw⟩ => ⟨he, hw ▸ Below.refl _ _⟩
    · exact (Tryd.strings_Join_none _ _ _ _).mono fun e w' ⟨he, hw⟩ => ⟨he, hw ▸ Below.refl _ _⟩
  · have hpos : 0 < ts.length := List.length_pos_iff.2 h0
    rcases h.2 with ⟨_, hz⟩ | ⟨g, cap, cur, rfl, hb, hh, hc, hmax, _⟩
    · omega
    · have hcells := h.cells (g := g) rfl
      have hadd : ∀ j, (⟨g, 0, none⟩ : Addr).add j = ⟨g, j, none⟩ := fun j => by unfold Addr.add; split <;> simp_all
      have hl := h.1
      have hcnt : ts.length ≤ (shown ts).length + 1 := shown_count ts
      have hJ := Tryd.strings_Join g 0 cap (ts.map (·.text)) ⟨#[32]⟩ wr (fun j x hx => by
        have := hcells j (.string x) (by unfold textCells; rw [List.getElem?_map] at hx ⊢; cases hi : ts[j]? with
          | none => rw [hi] at hx; cases hx
          | some y => rw [hi] at hx; simp only [Option.map_some, Option.some.injEq] at hx ⊢; rw [hx])
        rw [hadd] at this
        rw [Nat.zero_add]
        exact this) (Array.getElem?_eq_some_iff.1 hh).1 (by rw [List.length_map]; omega) (by rw [List.length_map]; exact hc) (by rw [List.map_map]; exact Nat.le_of_lt hlen)
      rw [List.length_map, List.map_map] at hJ
      exact hJ

theorem lexshow_any (v : Value) (ts : List TokV) (w : World) (hr : Rd w w.heap.size v ts) (hn : ts.length ≤ 3000) (hb : ∀ t ∈ ts, t.text.size ≤ 3000) :
    Calls Tryd.prog 13 #[v] w fun e w' => e = .returned (.string ⟨(shown ts).toArray⟩) ∧ Below w.heap.size w w' := by
  obtain ⟨i0, hi, hz0, hz1, hz2⟩ := info_parts info9
  have HI := Lib.hid (And.intro hi (And.intro hz0 (And.intro hz1 hz2)))
  have hsl := shown_le ts.length ts rfl hb
  clear hi hz0 hz1 hz2 hb
  obtain ⟨a, c, rfl, hc, hrd⟩ := hr
  obtain ⟨n, hlen⟩ : ∃ n, n = ts.length := ⟨_, rfl⟩
  rw [← hlen] at hc hn hsl ⊢
  have HR := Lib.hid hrd
  have HL := Lib.hid hlen
  clear hrd hlen
  go_enter Tryd.func13, Tryd.ntmps13
  go_wp2_with fail
  go_loopw [3, 8] (fun ov i wr => ∃ (k : Nat) (ao : Option Addr) (co : Nat), k ≤ n ∧ i = .int .i64 k ∧ ov = .slice ao k co ∧ Below w.heap.size w wr ∧ wr.ownsRow w.heap.size 9 1 ov k (textCells (ts.take k))) (fun _ i _ => n - (intOf i).toNat)
  case atStart => exact ⟨0, none, 0, Nat.zero_le _, rfl, rfl, Below.refl _ _, World.ownsRow_nil _ _ _ _⟩
  case round =>
    obtain ⟨k, ao, co, hk, rfl, rfl, hbw, hown⟩ := hrel
    have HB := Lib.hid hbw
    have HO := Lib.hid hown
    have hwz : w.heap.size ≤ wr.heap.size := hbw.size
    clear hbw hown
    by_cases hlt : k < n
    · obtain ⟨b, o, rfl, hbl, hat⟩ := HR.out (by intro e; have := HL.out; rw [e] at this; simp at this; omega)
      obtain ⟨t, ht⟩ : ∃ t, ts[k]? = some t := ⟨_, List.getElem?_eq_getElem (by have := HL.out; omega)⟩
      obtain ⟨p0, p1, p2, p3⟩ := (hat k t ht).below hbl HB.out
      have HTK := Lib.hid ht
      clear hat ht
      go_wp2_with (at_builtin; refine wpList_append_own _ rfl (.tmp 12) (.tmp 15) 34 rfl w.heap.size 9 i0 _ 1 16 Tryd.underlying34 HI.out.1 HI.out.2.1 HI.out.2.2.1 HI.out.2.2.2 rfl (by decide) _ _ _ rfl ((HO.out.alloc _).alloc _) ⟨wr.heap.size + 1, 0, none⟩ 1 1 [.string t.text] rfl rfl ?_ ?_ ?_ ?_ ?_ ?_)
      · exact cell_one_at _ (by simp) _ _
      · intro u hu; simp only [List.mem_singleton] at hu; subst hu; rfl
      · unfold maxLen; omega
      · omega
      · simp; omega
      intro v' w3 hown hgrow _
      obtain ⟨g, cap, rfl, hg1, hg2⟩ := own_form hown (by omega)
      have HO3 : Hid (w3.ownsRow w.heap.size 9 1 (.slice (some ⟨g, 0, none⟩) (k + 1) cap) (k + 1) (textCells (ts.take (k + 1)))) := by
        rw [text_take HTK.out]
        exact Lib.hid hown
      have HB3 := Lib.hid (((HB.out.alloc hwz _).alloc (by simp; omega) _).grown hgrow (by simp; omega) (fun j hj => (HO.out.lt j hj).1))
      clear hown hgrow
      go_wp2
      go_roundw
      case rel => exact ⟨k + 1, some ⟨g, 0, none⟩, cap, by omega, by go_num, rfl, HB3.out, HO3.out⟩
      case measure => simp [intOf]; omega
    · obtain rfl : k = n := by omega
      have hJ := join_own HO.out (by rw [List.take_of_length_le (by have := HL.out; omega)]; exact HL.out.symm) (by rw [List.take_of_length_le (by have := HL.out; omega)]; have : k * 3001 ≤ 3000 * 3001 := Nat.mul_le_mul_right _ hn; omega)
      rw [List.take_of_length_le (by have := HL.out; omega)] at hJ
      have HJ := Lib.hid hJ
      clear hJ
      go_wp2_with fail
      refine HJ.out.mono ?_
      rintro e w4 ⟨rfl, hb4⟩
      go_wp2
      go_ret
      exact ⟨rfl, HB.out.trans (hb4.mono hwz)⟩

/-! ### Show of the reference -/
theorem ret_string {a b : ByteArray} (h : a = b) : Ending.returned (.string a) = .returned (.string b) := by rw [h]
theorem shown_take_succ {ts : List TokV} {k : Nat} {t : TokV} (h : ts[k]? = some t) (h0 : 0 < k) : shown (ts.take (k + 1)) = shown (ts.take k) ++ [32] ++ t.text.data.toList := by
  rw [List.take_add_one, h]
  refine shown_snoc _ t ?_
  intro e
  have := congrArg List.length e
  have hlt := (List.getElem?_eq_some_iff.1 h).1
  rw [List.length_take, List.length_nil] at this
  omega
theorem shown_take_one {ts : List TokV} {t : TokV} (h : ts[0]? = some t) : shown (ts.take 1) = t.text.data.toList := by
  rw [show 1 = 0 + 1 from rfl, List.take_add_one, h]
  exact shown_one t
theorem mem_of_at {ts : List TokV} {k : Nat} {t : TokV} (h : ts[k]? = some t) : t ∈ ts := List.mem_of_getElem? h

theorem refshow_any (v : Value) (ts : List TokV) (w : World) (hr : Rd w w.heap.size v ts) (hn : ts.length ≤ 3000) (hb : ∀ t ∈ ts, t.text.size ≤ 3000) :
    Calls Tryd.prog 14 #[v] w fun e w' => e = .returned (.string ⟨(shown ts).toArray⟩) ∧ Below w.heap.size w w' := by
  obtain ⟨a, c, rfl, hc, hrd⟩ := hr
  obtain ⟨n, hlen⟩ : ∃ n, n = ts.length := ⟨_, rfl⟩
  rw [← hlen] at hc hn ⊢
  have HR := Lib.hid hrd
  have HL := Lib.hid hlen
  have HBd := Lib.hid hb
  clear hrd hlen hb
  go_enter Tryd.func14, Tryd.ntmps14
  go_wp2_with fail
  go_loop [3, 4] (fun sv i => ∃ (k : Nat) (S : ByteArray), k ≤ n ∧ i = .int .i64 k ∧ sv = .string S ∧ S.data.toList = shown (ts.take k)) (fun _ i => n - (intOf i).toNat)
  case atStart => exact ⟨0, ⟨#[]⟩, Nat.zero_le _, rfl, rfl, rfl⟩
  case round =>
    obtain ⟨k, S, hk, rfl, rfl, hS⟩ := hrel
    have hsz : S.size ≤ 9003000 := by
      have h1 := shown_le k (ts.take k) (by rw [List.length_take]; have := HL.out; omega) (fun t ht => HBd.out t (List.mem_of_mem_take ht))
      have h2 : S.size = (shown (ts.take k)).length := by rw [← hS]; rfl
      have h3 : k * 3001 ≤ 3000 * 3001 := Nat.mul_le_mul_right _ (by omega)
      omega
    have HS := Lib.hid hS
    clear hS
    by_cases hlt : k < n
    · obtain ⟨b, o, rfl, hbl, hat⟩ := HR.out (by intro e; have := HL.out; rw [e] at this; simp at this; omega)
      obtain ⟨t, ht⟩ : ∃ t, ts[k]? = some t := ⟨_, List.getElem?_eq_getElem (by have := HL.out; omega)⟩
      obtain ⟨p0, p1, p2, p3⟩ := hat k t ht
      have htb : t.text.size ≤ 3000 := HBd.out t (mem_of_at ht)
      have HTK := Lib.hid ht
      clear hat ht
      by_cases h0 : 0 < k
      · go_wp2
        go_round
        case rel =>
          refine ⟨k + 1, _, by omega, by go_num, rfl, ?_⟩
          rw [shown_take_succ HTK.out h0, ← HS.out]
          simp
        case measure => simp [intOf]; omega
      · obtain rfl : k = 0 := by omega
        go_wp2
        go_round
        case rel =>
          refine ⟨1, _, by omega, by go_num, rfl, ?_⟩
          rw [shown_take_one HTK.out]
          have h := HS.out
          rw [List.take_zero, shown_nil] at h
          simp [h]
        case measure => simp [intOf]; omega
    · obtain rfl : k = n := by omega
      have h := HS.out
      rw [List.take_of_length_le (by have := HL.out; omega)] at h
      have HT := Lib.hid h
      clear h
      go_wp2
      go_ret
      exact ⟨ret_string (by rw [← HT.out, mk_data]), Below.refl _ _⟩
end Go.Proofs.YtkmdojghimfmeaaDoor
