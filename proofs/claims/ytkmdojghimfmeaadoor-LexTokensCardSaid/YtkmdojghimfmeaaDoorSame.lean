/-
  Token lists in memory, and the contracts of Same and Alike of the reference.
-/
import Derived.Test.YtkmdojghimfmeaaDoorLexWords
import Derived.Deep.QuietTactic
import Derived.BigQuiet
import Derived.Laws.StructEq
namespace Go.Proofs.YtkmdojghimfmeaaDoor
open Go.RowKit

structure TokV where
  kind : Int
  text : ByteArray
  num : Int
  pos : Int
def toV (t : Lx.Tok) : TokV := ⟨t.kind, ⟨t.text.toArray⟩, t.num, t.pos⟩
/-- The token t lies at block b from offset o on. -/
def TokAt (w : World) (b o : Nat) (t : TokV) : Prop :=
  w.cell? ⟨b, o, none⟩ = some (.int .i64 t.kind) ∧ w.cell? ⟨b, o + 1, none⟩ = some (.string t.text) ∧ w.cell? ⟨b, o + 2, none⟩ = some (.int .i64 t.num) ∧ w.cell? ⟨b, o + 3, none⟩ = some (.int .i64 t.pos)
/-- The slice value v reads as the tokens ts; they lie below block B. -/
def Rd (w : World) (B : Nat) (v : Value) (ts : List TokV) : Prop :=
  ∃ (a : Option Addr) (c : Nat), v = .slice a ts.length c ∧ ts.length ≤ c ∧ (ts ≠ [] → ∃ b o, a = some ⟨b, o, none⟩ ∧ b < B ∧ ∀ i t, ts[i]? = some t → TokAt w b (o + i * 4) t)

theorem TokAt.below {w wr : World} {B b o : Nat} {t : TokV} (h : TokAt w b o t) (hb : b < B) (hw : Below B w wr) : TokAt wr b o t :=
  ⟨(hw.cell (p := ⟨b, o, none⟩) hb).trans h.1, (hw.cell (p := ⟨b, o + 1, none⟩) hb).trans h.2.1, (hw.cell (p := ⟨b, o + 2, none⟩) hb).trans h.2.2.1, (hw.cell (p := ⟨b, o + 3, none⟩) hb).trans h.2.2.2⟩
theorem same_eq (b1 o1 b2 o2 n c1 c2 : Nat) (ts us : List TokV) (w : World) (h1 : ts.length = n) (h2 : us.length = n) (hn : n ≤ 3000) 
    (r1 : ∀ i t, ts[i]? = some t → TokAt w b1 (o1 + i * 4) t) (r2 : ∀ i t, us[i]? = some t → TokAt w b2 (o2 + i * 4) t) (he : ts = us) (hB1 : b1 < w.heap.size) (hB2 : b2 < w.heap.size) :
    Calls Tryd.prog 12 #[.slice (some ⟨b1, o1, none⟩) n c1, .slice (some ⟨b2, o2, none⟩) n c2] w fun e w' => e = .returned (.bool true) ∧ Below w.heap.size w w' := by
  go_enter Tryd.func12, Tryd.ntmps12
  go_wp2_with fail
  go_loopw [5] (fun i wr => ∃ k : Nat, k ≤ n ∧ i = .int .i64 k ∧ Below w.heap.size w wr) (fun i _ => n - (intOf i).toNat)
  case atStart => exact ⟨0, Nat.zero_le _, rfl, Below.refl _ _⟩
  case round =>
    obtain ⟨k, hk, rfl, hb⟩ := hrel
    by_cases hlt : k < n
    · obtain ⟨t, ht⟩ : ∃ t, ts[k]? = some t := ⟨_, List.getElem?_eq_getElem (by omega)⟩
      obtain ⟨p0, p1, p2, p3⟩ := (r1 k t ht).below hB1 hb
      obtain ⟨q0, q1, q2, q3⟩ := (r2 k t (he ▸ ht)).below hB2 hb
      clear r1 r2 he ht
      have st1 : Tryd.prog.stoodInHeld 30 = false := by kernel_rfl
      have st2 : Tryd.prog.eqGuardType Tryd.prog.depth 30 = false := by kernel_rfl
      go_wp2_with fail
      go_quiet (fail)
      all_goals
        go_wp2
        go_roundw
        case rel => exact ⟨k + 1, by omega, by go_num, below_drewN hb _⟩
        case measure => simp [intOf]; omega
    · go_wp2_with fail
      go_ret
      exact ⟨rfl, hb⟩
theorem same_none (a1 a2 : Option Addr) (c1 c2 : Nat) (w : World) : Calls Tryd.prog 12 #[.slice a1 0 c1, .slice a2 0 c2] w fun e w' => e = .returned (.bool true) ∧ Below w.heap.size w w' := by
  go_enter Tryd.func12, Tryd.ntmps12
  go_wp2_with fail
  go_loopw [5] (fun i wr => i = .int .i64 0 ∧ Below w.heap.size w wr) (fun _ _ => 0)
  case atStart => exact ⟨rfl, Below.refl _ _⟩
  case round =>
    obtain ⟨rfl, hb⟩ := hrel
    go_wp2_with fail
    go_ret
    exact ⟨rfl, hb⟩
theorem same_any {v1 v2 : Value} {ts us : List TokV} {w : World} (h1 : Rd w w.heap.size v1 ts) (h2 : Rd w w.heap.size v2 us) (hn : ts.length ≤ 3000) (he : ts = us) :
    Calls Tryd.prog 12 #[v1, v2] w fun e w' => e = .returned (.bool true) ∧ Below w.heap.size w w' := by
  subst he
  obtain ⟨a1, c1, rfl, hc1, r1⟩ := h1
  obtain ⟨a2, c2, rfl, hc2, r2⟩ := h2
  by_cases h0 : ts = []
  · subst h0
    exact same_none a1 a2 c1 c2 w
  · obtain ⟨b1, o1, rfl, hb1, k1⟩ := r1 h0
    obtain ⟨b2, o2, rfl, hb2, k2⟩ := r2 h0
    exact same_eq b1 o1 b2 o2 ts.length c1 c2 ts ts w rfl rfl hn k1 k2 rfl hb1 hb2

/-- The same but for the offset. -/
def AlikeV (t u : TokV) : Prop := t.kind = u.kind ∧ t.text = u.text ∧ t.num = u.num
theorem alike_eq (b1 o1 b2 o2 n c1 c2 : Nat) (ts us : List TokV) (w : World) (h1 : ts.length = n) (h2 : us.length = n) (hn : n ≤ 3000)
    (r1 : ∀ i t, ts[i]? = some t → TokAt w b1 (o1 + i * 4) t) (r2 : ∀ i t, us[i]? = some t → TokAt w b2 (o2 + i * 4) t) (he : ∀ (i : Nat) t u, ts[i]? = some t → us[i]? = some u → AlikeV t u) (hB1 : b1 < w.heap.size) (hB2 : b2 < w.heap.size) :
    Calls Tryd.prog 16 #[.slice (some ⟨b1, o1, none⟩) n c1, .slice (some ⟨b2, o2, none⟩) n c2] w fun e w' => e = .returned (.bool true) ∧ Below w.heap.size w w' := by
  have HE := Lib.hid he
  clear he
  go_enter Tryd.func16, Tryd.ntmps16
  go_wp2_with fail
  go_loopw [5] (fun i wr => ∃ k : Nat, k ≤ n ∧ i = .int .i64 k ∧ Below w.heap.size w wr) (fun i _ => n - (intOf i).toNat)
  case atStart => exact ⟨0, Nat.zero_le _, rfl, Below.refl _ _⟩
  case round =>
    obtain ⟨k, hk, rfl, hb⟩ := hrel
    by_cases hlt : k < n
    · obtain ⟨t, ht⟩ : ∃ t, ts[k]? = some t := ⟨_, List.getElem?_eq_getElem (by omega)⟩
      obtain ⟨u, hu⟩ : ∃ u, us[k]? = some u := ⟨_, List.getElem?_eq_getElem (by omega)⟩
      obtain ⟨p0, p1, p2, p3⟩ := (r1 k t ht).below hB1 hb
      obtain ⟨q0, q1, q2, q3⟩ := (r2 k u hu).below hB2 hb
      obtain ⟨e1, e2, e3⟩ := HE.out k t u ht hu
      rw [← e1] at q0
      rw [← e2] at q1
      rw [← e3] at q2
      clear r1 r2 ht hu e1 e2 e3
      go_wp2_with fail
      go_quiet (fail)
      all_goals
        go_wp2
        go_roundw
        case rel => exact ⟨k + 1, by omega, by go_num, below_drewN hb _⟩
        case measure => simp [intOf]; omega
    · go_wp2_with fail
      go_ret
      exact ⟨rfl, hb⟩
theorem alike_none (a1 a2 : Option Addr) (c1 c2 : Nat) (w : World) : Calls Tryd.prog 16 #[.slice a1 0 c1, .slice a2 0 c2] w fun e w' => e = .returned (.bool true) ∧ Below w.heap.size w w' := by
  go_enter Tryd.func16, Tryd.ntmps16
  go_wp2_with fail
  go_loopw [5] (fun i wr => i = .int .i64 0 ∧ Below w.heap.size w wr) (fun _ _ => 0)
  case atStart => exact ⟨rfl, Below.refl _ _⟩
  case round =>
    obtain ⟨rfl, hb⟩ := hrel
    go_wp2_with fail
    go_ret
    exact ⟨rfl, hb⟩
theorem alike_any {v1 v2 : Value} {ts us : List TokV} {w : World} (h1 : Rd w w.heap.size v1 ts) (h2 : Rd w w.heap.size v2 us) (hn : ts.length ≤ 3000) (hl : us.length = ts.length) (he : ∀ (i : Nat) t u, ts[i]? = some t → us[i]? = some u → AlikeV t u) :
    Calls Tryd.prog 16 #[v1, v2] w fun e w' => e = .returned (.bool true) ∧ Below w.heap.size w w' := by
  obtain ⟨a1, c1, rfl, hc1, r1⟩ := h1
  obtain ⟨a2, c2, rfl, hc2, r2⟩ := h2
  by_cases h0 : ts = []
  · subst h0
    rw [hl]
    exact alike_none a1 a2 c1 c2 w
  · obtain ⟨b1, o1, rfl, hb1, k1⟩ := r1 h0
    obtain ⟨b2, o2, rfl, hb2, k2⟩ := r2 (fun e => h0 (List.eq_nil_of_length_eq_zero (by rw [← hl, e]; rfl)))
    rw [hl]
    exact alike_eq b1 o1 b2 o2 ts.length c1 c2 ts us w rfl hl hn k1 k2 he hb1 hb2

/-! ### What an owned row of tokens reads as -/
theorem tokCells_at : ∀ (ts : List Lx.Tok) (i : Nat) (t : Lx.Tok), ts[i]? = some t →
    (tokCells ts)[i * 4]? = some (.int .i64 t.kind) ∧ (tokCells ts)[i * 4 + 1]? = some (.string ⟨t.text.toArray⟩) ∧ (tokCells ts)[i * 4 + 2]? = some (.int .i64 t.num) ∧ (tokCells ts)[i * 4 + 3]? = some (.int .i64 t.pos)
  | [], i, t, h => by simp at h
  | a :: r, 0, t, h => by
    simp only [List.getElem?_cons_zero, Option.some.injEq] at h
    subst h
    exact ⟨rfl, rfl, rfl, rfl⟩
  | a :: r, i + 1, t, h => by
    have hr := tokCells_at r i t (by simpa using h)
    have e : tokCells (a :: r) = [.int .i64 a.kind, .string ⟨a.text.toArray⟩, .int .i64 a.num, .int .i64 a.pos] ++ tokCells r := rfl
    rw [e]
    have key : ∀ j, ([Value.int .i64 a.kind, .string ⟨a.text.toArray⟩, .int .i64 a.num, .int .i64 a.pos] ++ tokCells r)[(i + 1) * 4 + j]? = (tokCells r)[i * 4 + j]? := by
      intro j
      rw [List.getElem?_append_right (by simp; omega)]
      congr 1
      simp
      omega
    exact ⟨(key 0).trans hr.1, (key 1).trans hr.2.1, (key 2).trans hr.2.2.1, (key 3).trans hr.2.2.2⟩
theorem Rd.of_own {w : World} {base : Nat} {v : Value} {ts : List Lx.Tok} (h : w.ownsRow base 30 4 v ts.length (tokCells ts)) : Rd w w.heap.size v (ts.map toV) := by
  by_cases h0 : ts = []
  · subst h0
    rcases h.2 with ⟨rfl, _⟩ | ⟨g, cap, cur, rfl, _, _, hc, _⟩
    · exact ⟨none, 0, rfl, Nat.le_refl _, fun h => absurd rfl h⟩
    · exact ⟨_, cap, rfl, Nat.zero_le _, fun h => absurd rfl h⟩
  · have hpos : 0 < ts.length := List.length_pos_iff.2 h0
    rcases h.2 with ⟨_, hz⟩ | ⟨g, cap, cur, rfl, hb, hh, hc, _⟩
    · omega
    · have hcells := h.cells (g := g) rfl
      have hadd : ∀ j, (⟨g, 0, none⟩ : Addr).add j = ⟨g, j, none⟩ := fun j => by unfold Addr.add; split <;> simp_all
      refine ⟨some ⟨g, 0, none⟩, cap, by rw [List.length_map], by rw [List.length_map]; exact hc, fun _ => ⟨g, 0, rfl, (Array.getElem?_eq_some_iff.1 hh).1, fun i t hit => ?_⟩⟩
      rw [List.getElem?_map] at hit
      cases hi : ts[i]? with
      | none => rw [hi] at hit; cases hit
      | some x =>
        rw [hi] at hit
        simp only [Option.map_some, Option.some.injEq] at hit
        subst hit
        obtain ⟨a0, a1, a2, a3⟩ := tokCells_at ts i x hi
        have k0 := hcells _ _ a0
        have k1 := hcells _ _ a1
        have k2 := hcells _ _ a2
        have k3 := hcells _ _ a3
        rw [hadd] at k0 k1 k2 k3
        rw [Nat.zero_add]
        exact ⟨k0, k1, k2, k3⟩
theorem Rd.below {w w' : World} {v : Value} {ts : List TokV} (h : Rd w w.heap.size v ts) (hb : Below w.heap.size w w') : Rd w' w'.heap.size v ts := by
  obtain ⟨a, c, hv, hc, hr⟩ := h
  refine ⟨a, c, hv, hc, fun h0 => ?_⟩
  obtain ⟨b, o, ha, hB, hk⟩ := hr h0
  exact ⟨b, o, ha, Nat.lt_of_lt_of_le hB hb.size, fun i t hit => (hk i t hit).below hB hb⟩
end Go.Proofs.YtkmdojghimfmeaaDoor
