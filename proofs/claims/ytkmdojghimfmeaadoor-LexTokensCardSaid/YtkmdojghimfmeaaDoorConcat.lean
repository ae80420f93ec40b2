/-
  The walk of the law LexConcat: whatever the two texts and the number, it answers true.
-/
import Derived.Test.YtkmdojghimfmeaaDoorRound
import Derived.Laws.AppendOwnNone
namespace Go.Proofs.YtkmdojghimfmeaaDoor
open Go.RowKit

/-- The slice value .slice a n c lies in a block of its own or is nil; its cells are those of the tokens. -/
def Lie (w : World) (a : Option Addr) (c : Nat) (ts : List Lx.Tok) : Prop :=
  (a = none ∧ c = 0 ∧ ts = []) ∨ ∃ g, a = some ⟨g, 0, none⟩ ∧ g < w.heap.size ∧ ∀ j u, (tokCells ts)[j]? = some u → w.cell? ((⟨g, 0, none⟩ : Addr).add j) = some u
theorem add_block (a : Addr) (j : Nat) : (a.add j).block = a.block := by unfold Addr.add; split <;> rfl
theorem Lie.below {w w' : World} {a : Option Addr} {c : Nat} {ts : List Lx.Tok} (h : Lie w a c ts) (hb : Below w.heap.size w w') : Lie w' a c ts := by
  rcases h with h | ⟨g, ha, hg, hc⟩
  · exact .inl h
  · refine .inr ⟨g, ha, Nat.lt_of_lt_of_le hg hb.size, fun j u hj => ?_⟩
    rw [hb.cell (p := (⟨g, 0, none⟩ : Addr).add j) (by rw [add_block]; exact hg)]
    exact hc j u hj
theorem words_some_row (s : ByteArray) (w : World) (hs : s.size ≤ 3000) (G : Glob w) {ts : List Lx.Tok} (h : Lx.words 0 s.data.toList = some ts) :
    Calls Tryd.prog 10 #[.string s] w fun e w' => ∃ a c, e = .returned (.tuple #[.slice a ts.length c, .int .i64 0]) ∧ Rd w' w'.heap.size (.slice a ts.length c) (ts.map toV) ∧ Lie w' a c ts ∧ Below w.heap.size w w' :=
  (lexwords_any s w hs G).mono fun e w' ⟨hb, hm⟩ => by
    rw [h] at hm
    obtain ⟨v, he, hown⟩ := hm
    have hr := Rd.of_own hown
    rcases hown.2 with ⟨rfl, hz⟩ | ⟨g, cap, cur, rfl, _, hh, hc, _⟩
    · refine ⟨none, 0, by rw [he, hz], by rw [hz]; exact hr, .inl ⟨rfl, rfl, List.length_eq_zero_iff.1 hz⟩, hb⟩
    · exact ⟨_, cap, he, hr, .inr ⟨g, rfl, (Array.getElem?_eq_some_iff.1 hh).1, hown.cells (g := g) rfl⟩, hb⟩

theorem tokCells_append (ts us : List Lx.Tok) : tokCells (ts ++ us) = tokCells ts ++ tokCells us := by simp [tokCells]
theorem tokCells_one (t : Lx.Tok) : tokCells [t] = [.int .i64 t.kind, .string ⟨t.text.toArray⟩, .int .i64 t.num, .int .i64 t.pos] := rfl
theorem tokCells_cells (ts : List Lx.Tok) : ∀ u ∈ tokCells ts, u.oneCell' = true := by
  intro u hu
  unfold tokCells at hu
  obtain ⟨t, _, ht⟩ := List.mem_flatMap.1 hu
  simp only [List.mem_cons, List.not_mem_nil, or_false] at ht
  rcases ht with rfl | rfl | rfl | rfl <;> rfl

def sep : Nat → ByteArray
  | 0 => ⟨#[32]⟩
  | 1 => ⟨#[9]⟩
  | _ => ⟨#[10]⟩
def sepB : Nat → UInt8
  | 0 => 32
  | 1 => 9
  | _ => 10
theorem sepB_blank (r : Nat) : Lx.blank (sepB r) = true := by
  match r with
  | 0 => decide
  | 1 => decide
  | r + 2 => exact (by decide : Lx.blank 10 = true)
theorem sep_data (r : Nat) : (sep r).data.toList = [sepB r] := by
  match r with
  | 0 => rfl
  | 1 => rfl
  | r + 2 => rfl
theorem sep_size (r : Nat) : (sep r).size = 1 := by
  show (sep r).data.toList.length = 1
  rw [sep_data]; rfl
theorem sep_cell (w : World) (t : TypeId) {r : Nat} (h : r < 3) : (w.alloc (.cells #[.string ⟨#[32]⟩, .string ⟨#[9]⟩, .string ⟨#[10]⟩] t)).cell? ⟨w.heap.size, r, none⟩ = some (.string (sep r)) := by
  match r, h with
  | 0, _ => simp [sep]
  | 1, _ => simp [sep]
  | 2, _ => simp [sep]

set_option maxRecDepth 100000 in
theorem wpList_append_lie {w : World} {ops : Array Oper} {rest : List Oper} {o : Oper} {a : Act} {Q : Exit → Act → World → Prop} (hgd : o.guard = none) (s x : Operand)
    (ho : o.op = .call { callee := .builtin .append, args := #[s, x], argTypes := #[23, 23] })
    (base : Nat) (i : TypeInfo) (z : Value) (hi : Tryd.prog.info? 30 = some i) (hz : i.zero = some z) (hsize : i.size = 4) (hby : i.bytes = 40) (hzs : z.cells.size = 4)
    (v : Value) (n : Nat) (xs : List Value) (hs : a.eval s = v) (hown : w.ownsRow base 30 4 v n xs) (a0 : Option Addr) (c0 : Nat) (ts : List Lx.Tok) (hx : a.eval x = .slice a0 ts.length c0) (hL : Lie w a0 c0 ts)
    (hn : n + ts.length ≤ 3000) (hbase : base ≤ w.heap.size)
    (h : ∀ v' w', w'.ownsRow base 30 4 v' (n + ts.length) (xs ++ tokCells ts) → w.grownBy w' v.ownBlock → wpList Tryd.prog ops Q rest (a.put o.dst v') w') : wpList Tryd.prog ops Q (o :: rest) a w := by
  rcases hL with ⟨rfl, rfl, rfl⟩ | ⟨g, rfl, hg, hc⟩
  · refine wpList_append_own_none hgd s x 23 ho base 30 i 4 Tryd.underlying23 hi v n xs hs hown hx (h v w ?_ ⟨rfl, rfl, rfl, Nat.le_refl _, fun _ _ _ => rfl⟩)
    rw [show tokCells [] = [] from rfl, List.append_nil]
    exact hown
  · exact wpList_append_own w hgd s x 23 ho base 30 i z 4 40 Tryd.underlying23 hi hz hsize hby hzs (by decide) v n xs hs hown ⟨g, 0, none⟩ ts.length c0 (tokCells ts) hx (tokCells_length ts) hc (tokCells_cells ts) (by unfold maxLen; omega) (by omega) hbase
      (fun v' w' h1 h2 _ => h v' w' h1 h2)
theorem own_empty (w : World) : (w.alloc (.cells #[] 30)).ownsRow w.heap.size 30 4 (.slice (some ⟨w.heap.size, 0, none⟩) 0 0) 0 [] :=
  ⟨rfl, .inr ⟨w.heap.size, 0, #[], rfl, Nat.le_refl _, heap_alloc_new w _, Nat.le_refl _, by decide, rfl, rfl⟩⟩

theorem lies_pos {l : List UInt8} : ∀ {a : Nat} {ts : List Lx.Tok}, Lx.Lies l a ts → ∀ t ∈ ts, t.pos ≤ l.length
  | _, [], _, t, ht => by cases ht
  | _, x :: r, ⟨_, h2, _, _, _, h6⟩, t, ht => by
    rcases List.mem_cons.1 ht with rfl | h
    · omega
    · exact lies_pos h6 t h

set_option maxRecDepth 100000 in
theorem lexConcat_both (s0 s1 : ByteArray) (n : Int) (r : Nat) (w : World) (hr : n.tmod 3 = r) (hr3 : r < 3) (h0 : s0.size ≤ 600) (h1 : s1.size ≤ 600) (G : Glob w)
    {ts us : List Lx.Tok} (hw0 : Lx.words 0 s0.data.toList = some ts) (hw1 : Lx.words 0 s1.data.toList = some us) :
    Calls Tryd.prog 7 #[.string s0, .string s1, .int .u8 n] w fun e w' => e = .returned (.bool true) ∧ Below w.heap.size w w' := by
  obtain ⟨i0, hi, hz0, hz1, hz2⟩ := info_parts info30
  have HI := Lib.hid (And.intro hi (And.intro hz0 (And.intro hz1 hz2)))
  clear hi hz0 hz1 hz2
  have hc0 : ts.length ≤ s0.size := words_tally 0 _ _ hw0
  have hc1 : us.length ≤ s1.size := words_tally 0 _ _ hw1
  obtain ⟨S, hS⟩ : ∃ S : ByteArray, S = s0 ++ sep r ++ s1 := ⟨_, rfl⟩
  have hSl : S.data.toList = s0.data.toList ++ sepB r :: s1.data.toList := by rw [hS]; simp [sep_data]
  have hSs : S.size = s0.size + 1 + s1.size := by
    show S.data.toList.length = _
    rw [hSl]
    simp
    show _ = s0.data.toList.length + 1 + s1.data.toList.length
    simp
    omega
  have hwS := Lx.words_concat_both (sepB_blank r) hw0 hw1
  rw [← hSl] at hwS
  have HS := Lib.hid hS
  have HW0 := Lib.hid hw0
  have HW1 := Lib.hid hw1
  have HWS := Lib.hid hwS
  have HPS : Hid (∀ t ∈ us, t.pos ≤ s1.size) := Lib.hid (lies_pos (Lx.words_lies s1.data.toList 0 s1.data.toList rfl (Nat.zero_le _) us hw1))
  have hsz0 : s0.data.toList.length = s0.size := rfl
  obtain ⟨vs, hvs⟩ : ∃ vs, vs = us.map (Lx.shift (s0.data.toList.length + 1)) := ⟨_, rfl⟩
  have HV := Lib.hid hvs
  clear hS hSl hw0 hw1 hwS hvs
  go_enter Tryd.func7, Tryd.ntmps7
  go_wp2_with fail
  refine (sanity_any _ G).mono ?_
  rintro e w1 ⟨rfl, hb1⟩
  have G1 := G.below hb1
  have HB1 := Lib.hid hb1
  clear hb1
  go_wp2_with fail
  have hba : Below w1.heap.size w1 (w1.alloc (.cells #[.string ⟨#[32]⟩, .string ⟨#[9]⟩, .string ⟨#[10]⟩] 9)) := (Below.refl _ _).alloc (Nat.le_refl _) _
  have HBA := Lib.hid hba
  have HSC := Lib.hid (sep_cell w1 9 hr3)
  have hna : w1.heap.size < (w1.alloc (.cells #[.string ⟨#[32]⟩, .string ⟨#[9]⟩, .string ⟨#[10]⟩] 9)).heap.size := by simp
  have G2 := G1.below hba
  clear hba
  obtain ⟨wa, hwa⟩ : ∃ wa, wa = w1.alloc (.cells #[.string ⟨#[32]⟩, .string ⟨#[9]⟩, .string ⟨#[10]⟩] 9) := ⟨_, rfl⟩
  rw [← hwa] at HBA HSC hna G2 ⊢
  clear hwa
  refine (words_some_row _ _ (by omega) G2 HW0.out).mono ?_
  rintro e w2 ⟨a0, c0, rfl, hr2, hl2, hb2⟩
  have G3 := G2.below hb2
  have HL2 := Lib.hid hl2
  have HB2 := Lib.hid hb2
  clear hr2 hl2 hb2
  go_wp2_with fail
  refine (words_some_row _ _ (by omega) G3 HW1.out).mono ?_
  rintro e w3 ⟨a1, c1, rfl, hr3', hl3, hb3⟩
  have G4 := G3.below hb3
  have HR3 := Lib.hid hr3'
  have HB3 := Lib.hid hb3
  have hcell : w3.cell? ⟨w1.heap.size, r, none⟩ = some (.string (sep r)) := by
    rw [hb3.cell (p := ⟨w1.heap.size, r, none⟩) (Nat.lt_of_lt_of_le hna HB2.out.size), HB2.out.cell (p := ⟨w1.heap.size, r, none⟩) hna]
    exact HSC.out
  have hs1 := sep_size r
  have hs2 : (s0 ++ sep r).size = s0.size + 1 := by rw [ByteArray.size_append, hs1]
  clear hr3' hl3 hb3
  go_wp2_with fail
  rw [← HS.out]
  refine (words_some_any _ _ (by omega) G4 HWS.out).mono ?_
  rintro e w4 ⟨a2, c2, rfl, hr4, hb4⟩
  have HR4 := Lib.hid hr4
  have HB4 := Lib.hid hb4
  have HL4 := Lib.hid ((HL2.out.below HB3.out).below hb4)
  have HRU := Lib.hid (HR3.out.below hb4)
  have HB04 := Lib.hid (Below.up (Below.up (Below.up (Below.up HB1.out HBA.out) HB2.out) HB3.out) hb4)
  clear hr4 hb4 hcell hs2
  have hbe : Below w4.heap.size w4 (w4.alloc (.cells #[] 30)) := (Below.refl _ _).alloc (Nat.le_refl _) _
  have HLE := Lib.hid (HL4.out.below hbe)
  have HBE := Lib.hid hbe
  clear hbe
  go_wp2_with (at_builtin; refine wpList_append_lie rfl (.tmp 68) (.tmp 69) rfl w4.heap.size i0 _ HI.out.1 HI.out.2.1 HI.out.2.2.1 HI.out.2.2.2 rfl _ 0 [] rfl (own_empty w4) a0 c0 ts rfl HLE.out ?_ ?_ ?_)
  · omega
  · simp
  intro v5 w5 hown hgrow
  have HO5 := Lib.hid hown
  have HB5 := Lib.hid (HBE.out.grown hgrow (by simp) (fun j hj => ((own_empty w4).lt j hj).1))
  clear hown hgrow
  obtain ⟨m, hm⟩ : ∃ m, m = us.length := ⟨_, rfl⟩
  obtain ⟨n0, hn0⟩ : ∃ n0, n0 = ts.length := ⟨_, rfl⟩
  rw [← hm] at HRU
  have HM := Lib.hid hm
  have HN0 := Lib.hid hn0
  rw [← hm] at hc1
  rw [← hn0] at hc0
  rw [← hn0] at HO5
  have HLV : Hid (vs.length = m) := Lib.hid (by rw [HV.out, List.length_map, HM.out])
  have HR4' : Hid (Rd w4 w4.heap.size (.slice a2 (n0 + m) c2) ((ts ++ vs).map toV)) := Lib.hid (by
    have h := HR4.out
    rw [← HV.out, List.length_append, HLV.out, ← hn0] at h
    exact h)
  rw [← hm, ← hn0]
  clear hm hn0
  go_wp2_with fail
  go_loopw [15, 16] (fun v i wr => ∃ k : Nat, k ≤ m ∧ i = .int .i64 k ∧ Hid (Below w4.heap.size w4 wr) ∧ Hid (wr.ownsRow w4.heap.size 30 4 v (n0 + k) (tokCells (ts ++ vs.take k)))) (fun _ i _ => m - (intOf i).toNat)
  case atStart => exact ⟨0, Nat.zero_le _, rfl, HB5, by rw [List.take_zero, List.append_nil]; exact HO5⟩
  case round =>
    obtain ⟨k, hk, rfl, HBr, HOr⟩ := hrel
    by_cases hlt : k < m
    · obtain ⟨t, ht⟩ : ∃ t, us[k]? = some t := ⟨_, List.getElem?_eq_getElem (by have := HM.out; omega)⟩
      obtain ⟨av, cv, hv0, _, hr0⟩ := HRU.out
      obtain ⟨b, o, ha, hbl, hat⟩ := hr0 (by intro e; rw [List.map_eq_nil_iff] at e; have := HM.out; rw [e] at this; simp at this; omega)
      have hva : a1 = some ⟨b, o, none⟩ := by cases hv0; exact ha
      subst hva
      obtain ⟨p0, p1, p2, p3⟩ := (hat k (toV t) (by rw [List.getElem?_map, ht]; rfl)).below hbl HBr.out
      have hblr : b < wr.heap.size := Nat.lt_of_lt_of_le hbl HBr.out.size
      have htp : t.pos ≤ s1.size := HPS.out t (List.mem_of_getElem? ht)
      have hvk : vs[k]? = some (Lx.shift (s0.data.toList.length + 1) t) := by rw [HV.out, List.getElem?_map, ht]; rfl
      have htake : tokCells (ts ++ vs.take (k + 1)) = tokCells (ts ++ vs.take k) ++ [.int .i64 (toV t).kind, .string (toV t).text, .int .i64 (toV t).num, .int .i64 ((t.pos : Int) + (s0.size : Int) + 1)] := by
        rw [List.take_add_one, hvk, ← List.append_assoc, tokCells_append]
        congr 1
      have HTK := Lib.hid htake
      have p3' : wr.cell? ⟨b, o + k * 4 + 3, none⟩ = some (.int .i64 (t.pos : Int)) := p3
      have hwz : w4.heap.size ≤ wr.heap.size := HBr.out.size
      clear hat hv0 hr0 ha ht hvk htake p3
      go_wp2_with (at_builtin; refine wpList_append_own _ rfl (.tmp 88) (.tmp 90) 23 rfl w4.heap.size 30 i0 _ 4 40 Tryd.underlying23 HI.out.1 HI.out.2.1 HI.out.2.2.1 HI.out.2.2.2 rfl (by decide) _ _ _ rfl ((HOr.out.alloc _).alloc _) ⟨wr.heap.size + 1, 0, none⟩ 1 1 [.int .i64 (toV t).kind, .string (toV t).text, .int .i64 (toV t).num, .int .i64 ((t.pos : Int) + (s0.size : Int) + 1)] rfl rfl ?_ ?_ ?_ ?_ ?_ ?_)
      · exact cell_four_new _ (by simp) _ _ _ _ _
      · exact four_one _ _ _ _
      · unfold maxLen; omega
      · omega
      · simp; omega
      intro v' w6 hown hgrow _
      have HO6 : Hid (w6.ownsRow w4.heap.size 30 4 v' (n0 + (k + 1)) (tokCells (ts ++ vs.take (k + 1)))) := by
        rw [HTK.out]
        exact Lib.hid hown
      have HB6 := Lib.hid (((HBr.out.alloc hwz _).alloc (by simp; omega) _).grown hgrow (by simp; omega) (fun j hj => (HOr.out.lt j hj).1))
      clear hown hgrow
      go_wp2_with fail
      go_roundw
      case rel => exact ⟨k + 1, by omega, by go_num, HB6, HO6⟩
      case measure => simp [intOf]; omega
    · obtain rfl : k = m := by omega
      have hown := HOr.out
      rw [List.take_of_length_le (by have := HLV.out; omega)] at hown
      have hlen : (ts ++ vs).length = n0 + k := by rw [List.length_append, HLV.out, HN0.out]
      rw [← hlen] at hown
      have HRW := Lib.hid (Rd.of_own hown)
      clear hown
      go_wp2_with fail
      refine (same_any (HR4'.out.below HBr.out) HRW.out (by rw [List.length_map]; omega) rfl).mono ?_
      rintro e w7 ⟨rfl, hb7⟩
      go_wp2
      go_ret
      exact ⟨rfl, Below.up (Below.up HB04.out HBr.out) hb7⟩
set_option maxRecDepth 100000 in
theorem lexConcat_ff (s0 s1 : ByteArray) (n : Int) (r : Nat) (w : World) (hr : n.tmod 3 = r) (hr3 : r < 3) (h0 : s0.size ≤ 600) (h1 : s1.size ≤ 600) (G : Glob w)
    (hw0 : Lx.words 0 s0.data.toList = none) (hw1 : Lx.words 0 s1.data.toList = none) :
    Calls Tryd.prog 7 #[.string s0, .string s1, .int .u8 n] w fun e w' => e = .returned (.bool true) ∧ Below w.heap.size w w' := by
  obtain ⟨S, hS⟩ : ∃ S : ByteArray, S = s0 ++ sep r ++ s1 := ⟨_, rfl⟩
  have hSl : S.data.toList = s0.data.toList ++ sepB r :: s1.data.toList := by rw [hS]; simp [sep_data]
  have hSs : S.size = s0.size + 1 + s1.size := by
    show S.data.toList.length = _
    rw [hSl]
    simp
    show _ = s0.data.toList.length + 1 + s1.data.toList.length
    simp
    omega
  have hwS := Lx.words_concat_fail (y := s1.data.toList) (a := s0.data.toList) (sepB_blank r) (.inl hw0)
  rw [← hSl] at hwS
  have HS := Lib.hid hS
  have HW0 := Lib.hid hw0
  have HW1 := Lib.hid hw1
  have HWS := Lib.hid hwS
  clear hS hSl hw0 hw1 hwS
  go_enter Tryd.func7, Tryd.ntmps7
  go_wp2_with fail
  refine (sanity_any _ G).mono ?_
  rintro e w1 ⟨rfl, hb1⟩
  have G1 := G.below hb1
  have HB1 := Lib.hid hb1
  clear hb1
  go_wp2_with fail
  have hba : Below w1.heap.size w1 (w1.alloc (.cells #[.string ⟨#[32]⟩, .string ⟨#[9]⟩, .string ⟨#[10]⟩] 9)) := (Below.refl _ _).alloc (Nat.le_refl _) _
  have HBA := Lib.hid hba
  have HSC := Lib.hid (sep_cell w1 9 hr3)
  have hna : w1.heap.size < (w1.alloc (.cells #[.string ⟨#[32]⟩, .string ⟨#[9]⟩, .string ⟨#[10]⟩] 9)).heap.size := by simp
  have G2 := G1.below hba
  clear hba
  obtain ⟨wa, hwa⟩ : ∃ wa, wa = w1.alloc (.cells #[.string ⟨#[32]⟩, .string ⟨#[9]⟩, .string ⟨#[10]⟩] 9) := ⟨_, rfl⟩
  rw [← hwa] at HBA HSC hna G2 ⊢
  clear hwa
  refine (words_none_any _ _ (by omega) G2 HW0.out).mono ?_
  rintro e w2 ⟨rfl, hb2⟩
  have G3 := G2.below hb2
  have HB2 := Lib.hid hb2
  clear hb2
  go_wp2_with fail
  refine (words_none_any _ _ (by omega) G3 HW1.out).mono ?_
  rintro e w3 ⟨rfl, hb3⟩
  have G4 := G3.below hb3
  have HB3 := Lib.hid hb3
  have hcell : w3.cell? ⟨w1.heap.size, r, none⟩ = some (.string (sep r)) := by
    rw [hb3.cell (p := ⟨w1.heap.size, r, none⟩) (Nat.lt_of_lt_of_le hna HB2.out.size), HB2.out.cell (p := ⟨w1.heap.size, r, none⟩) hna]
    exact HSC.out
  have hs1 := sep_size r
  have hs2 : (s0 ++ sep r).size = s0.size + 1 := by rw [ByteArray.size_append, hs1]
  clear hb3
  go_wp2_with fail
  rw [← HS.out]
  refine (words_none_any _ _ (by omega) G4 HWS.out).mono ?_
  rintro e w4 ⟨rfl, hb4⟩
  go_wp2
  go_ret
  exact ⟨rfl, Below.up (Below.up (Below.up (Below.up HB1.out HBA.out) HB2.out) HB3.out) hb4⟩

set_option maxRecDepth 100000 in
theorem lexConcat_fs (s0 s1 : ByteArray) (n : Int) (r : Nat) (w : World) (hr : n.tmod 3 = r) (hr3 : r < 3) (h0 : s0.size ≤ 600) (h1 : s1.size ≤ 600) (G : Glob w) {us : List Lx.Tok}
    (hw0 : Lx.words 0 s0.data.toList = none) (hw1 : Lx.words 0 s1.data.toList = some us) :
    Calls Tryd.prog 7 #[.string s0, .string s1, .int .u8 n] w fun e w' => e = .returned (.bool true) ∧ Below w.heap.size w w' := by
  have hc1 : us.length ≤ s1.size := words_tally 0 _ _ hw1
  obtain ⟨S, hS⟩ : ∃ S : ByteArray, S = s0 ++ sep r ++ s1 := ⟨_, rfl⟩
  have hSl : S.data.toList = s0.data.toList ++ sepB r :: s1.data.toList := by rw [hS]; simp [sep_data]
  have hSs : S.size = s0.size + 1 + s1.size := by
    show S.data.toList.length = _
    rw [hSl]
    simp
    show _ = s0.data.toList.length + 1 + s1.data.toList.length
    simp
    omega
  have hwS := Lx.words_concat_fail (y := s1.data.toList) (a := s0.data.toList) (sepB_blank r) (.inl hw0)
  rw [← hSl] at hwS
  have HS := Lib.hid hS
  have HW0 := Lib.hid hw0
  have HW1 := Lib.hid hw1
  have HWS := Lib.hid hwS
  clear hS hSl hw0 hw1 hwS
  go_enter Tryd.func7, Tryd.ntmps7
  go_wp2_with fail
  refine (sanity_any _ G).mono ?_
  rintro e w1 ⟨rfl, hb1⟩
  have G1 := G.below hb1
  have HB1 := Lib.hid hb1
  clear hb1
  go_wp2_with fail
  have hba : Below w1.heap.size w1 (w1.alloc (.cells #[.string ⟨#[32]⟩, .string ⟨#[9]⟩, .string ⟨#[10]⟩] 9)) := (Below.refl _ _).alloc (Nat.le_refl _) _
  have HBA := Lib.hid hba
  have HSC := Lib.hid (sep_cell w1 9 hr3)
  have hna : w1.heap.size < (w1.alloc (.cells #[.string ⟨#[32]⟩, .string ⟨#[9]⟩, .string ⟨#[10]⟩] 9)).heap.size := by simp
  have G2 := G1.below hba
  clear hba
  obtain ⟨wa, hwa⟩ : ∃ wa, wa = w1.alloc (.cells #[.string ⟨#[32]⟩, .string ⟨#[9]⟩, .string ⟨#[10]⟩] 9) := ⟨_, rfl⟩
  rw [← hwa] at HBA HSC hna G2 ⊢
  clear hwa
  refine (words_none_any _ _ (by omega) G2 HW0.out).mono ?_
  rintro e w2 ⟨rfl, hb2⟩
  have G3 := G2.below hb2
  have HB2 := Lib.hid hb2
  clear hb2
  go_wp2_with fail
  refine (words_some_any _ _ (by omega) G3 HW1.out).mono ?_
  rintro e w3 ⟨a1, c1, rfl, _, hb3⟩
  have G4 := G3.below hb3
  have HB3 := Lib.hid hb3
  have hcell : w3.cell? ⟨w1.heap.size, r, none⟩ = some (.string (sep r)) := by
    rw [hb3.cell (p := ⟨w1.heap.size, r, none⟩) (Nat.lt_of_lt_of_le hna HB2.out.size), HB2.out.cell (p := ⟨w1.heap.size, r, none⟩) hna]
    exact HSC.out
  have hs1 := sep_size r
  have hs2 : (s0 ++ sep r).size = s0.size + 1 := by rw [ByteArray.size_append, hs1]
  clear hb3
  go_wp2_with fail
  rw [← HS.out]
  refine (words_none_any _ _ (by omega) G4 HWS.out).mono ?_
  rintro e w4 ⟨rfl, hb4⟩
  go_wp2
  go_ret
  exact ⟨rfl, Below.up (Below.up (Below.up (Below.up HB1.out HBA.out) HB2.out) HB3.out) hb4⟩

set_option maxRecDepth 100000 in
theorem lexConcat_sf (s0 s1 : ByteArray) (n : Int) (r : Nat) (w : World) (hr : n.tmod 3 = r) (hr3 : r < 3) (h0 : s0.size ≤ 600) (h1 : s1.size ≤ 600) (G : Glob w) {ts : List Lx.Tok}
    (hw0 : Lx.words 0 s0.data.toList = some ts) (hw1 : Lx.words 0 s1.data.toList = none) :
    Calls Tryd.prog 7 #[.string s0, .string s1, .int .u8 n] w fun e w' => e = .returned (.bool true) ∧ Below w.heap.size w w' := by
  have hc0 : ts.length ≤ s0.size := words_tally 0 _ _ hw0
  obtain ⟨S, hS⟩ : ∃ S : ByteArray, S = s0 ++ sep r ++ s1 := ⟨_, rfl⟩
  have hSl : S.data.toList = s0.data.toList ++ sepB r :: s1.data.toList := by rw [hS]; simp [sep_data]
  have hSs : S.size = s0.size + 1 + s1.size := by
    show S.data.toList.length = _
    rw [hSl]
    simp
    show _ = s0.data.toList.length + 1 + s1.data.toList.length
    simp
    omega
  have hwS := Lx.words_concat_fail (y := s1.data.toList) (a := s0.data.toList) (sepB_blank r) (.inr hw1)
  rw [← hSl] at hwS
  have HS := Lib.hid hS
  have HW0 := Lib.hid hw0
  have HW1 := Lib.hid hw1
  have HWS := Lib.hid hwS
  clear hS hSl hw0 hw1 hwS
  go_enter Tryd.func7, Tryd.ntmps7
  go_wp2_with fail
  refine (sanity_any _ G).mono ?_
  rintro e w1 ⟨rfl, hb1⟩
  have G1 := G.below hb1
  have HB1 := Lib.hid hb1
  clear hb1
  go_wp2_with fail
  have hba : Below w1.heap.size w1 (w1.alloc (.cells #[.string ⟨#[32]⟩, .string ⟨#[9]⟩, .string ⟨#[10]⟩] 9)) := (Below.refl _ _).alloc (Nat.le_refl _) _
  have HBA := Lib.hid hba
  have HSC := Lib.hid (sep_cell w1 9 hr3)
  have hna : w1.heap.size < (w1.alloc (.cells #[.string ⟨#[32]⟩, .string ⟨#[9]⟩, .string ⟨#[10]⟩] 9)).heap.size := by simp
  have G2 := G1.below hba
  clear hba
  obtain ⟨wa, hwa⟩ : ∃ wa, wa = w1.alloc (.cells #[.string ⟨#[32]⟩, .string ⟨#[9]⟩, .string ⟨#[10]⟩] 9) := ⟨_, rfl⟩
  rw [← hwa] at HBA HSC hna G2 ⊢
  clear hwa
  refine (words_some_any _ _ (by omega) G2 HW0.out).mono ?_
  rintro e w2 ⟨a0, c0, rfl, _, hb2⟩
  have G3 := G2.below hb2
  have HB2 := Lib.hid hb2
  clear hb2
  go_wp2_with fail
  refine (words_none_any _ _ (by omega) G3 HW1.out).mono ?_
  rintro e w3 ⟨rfl, hb3⟩
  have G4 := G3.below hb3
  have HB3 := Lib.hid hb3
  have hcell : w3.cell? ⟨w1.heap.size, r, none⟩ = some (.string (sep r)) := by
    rw [hb3.cell (p := ⟨w1.heap.size, r, none⟩) (Nat.lt_of_lt_of_le hna HB2.out.size), HB2.out.cell (p := ⟨w1.heap.size, r, none⟩) hna]
    exact HSC.out
  have hs1 := sep_size r
  have hs2 : (s0 ++ sep r).size = s0.size + 1 := by rw [ByteArray.size_append, hs1]
  clear hb3
  go_wp2_with fail
  rw [← HS.out]
  refine (words_none_any _ _ (by omega) G4 HWS.out).mono ?_
  rintro e w4 ⟨rfl, hb4⟩
  go_wp2
  go_ret
  exact ⟨rfl, Below.up (Below.up (Below.up (Below.up HB1.out HBA.out) HB2.out) HB3.out) hb4⟩

set_option maxRecDepth 100000 in
theorem lexConcat_big (s0 s1 : ByteArray) (n : Int) (w : World) (hm0 : s0.size ≤ 9223372036854775807) (hm1 : s1.size ≤ 9223372036854775807) (hbig : 600 < s0.size ∨ 600 < s1.size) (G : Glob w) :
    Calls Tryd.prog 7 #[.string s0, .string s1, .int .u8 n] w fun e w' => e = .returned (.bool true) ∧ Below w.heap.size w w' := by
  by_cases h0 : 600 < s0.size
  · go_enter Tryd.func7, Tryd.ntmps7
    go_wp2_with fail
    refine (sanity_any _ G).mono ?_
    rintro e w1 ⟨rfl, hb1⟩
    go_wp2
    go_ret
    exact ⟨rfl, hb1⟩
  · have h1 : 600 < s1.size := by omega
    go_enter Tryd.func7, Tryd.ntmps7
    go_wp2_with fail
    refine (sanity_any _ G).mono ?_
    rintro e w1 ⟨rfl, hb1⟩
    go_wp2
    go_ret
    exact ⟨rfl, hb1⟩

theorem lexConcat_walk (s0 s1 : ByteArray) (n : Int) (w : World) (hm0 : s0.size ≤ 9223372036854775807) (hm1 : s1.size ≤ 9223372036854775807) (hn : 0 ≤ n) (G : Glob w) :
    Calls Tryd.prog 7 #[.string s0, .string s1, .int .u8 n] w fun e w' => e = .returned (.bool true) ∧ Below w.heap.size w w' := by
  by_cases hbig : 600 < s0.size ∨ 600 < s1.size
  · exact lexConcat_big s0 s1 n w hm0 hm1 hbig G
  · obtain ⟨r, hr, hr3⟩ : ∃ r : Nat, n.tmod 3 = r ∧ r < 3 := by
      refine ⟨(n.tmod 3).toNat, ?_, ?_⟩
      · rw [Int.tmod_eq_emod_of_nonneg hn]; omega
      · rw [Int.tmod_eq_emod_of_nonneg hn]; omega
    have h0 : s0.size ≤ 600 := by omega
    have h1 : s1.size ≤ 600 := by omega
    cases hw0 : Lx.words 0 s0.data.toList with
    | none =>
      cases hw1 : Lx.words 0 s1.data.toList with
      | none => exact lexConcat_ff s0 s1 n r w hr hr3 h0 h1 G hw0 hw1
      | some us => exact lexConcat_fs s0 s1 n r w hr hr3 h0 h1 G hw0 hw1
    | some ts =>
      cases hw1 : Lx.words 0 s1.data.toList with
      | none => exact lexConcat_sf s0 s1 n r w hr hr3 h0 h1 G hw0 hw1
      | some us => exact lexConcat_both s0 s1 n r w hr hr3 h0 h1 G hw0 hw1
end Go.Proofs.YtkmdojghimfmeaaDoor
