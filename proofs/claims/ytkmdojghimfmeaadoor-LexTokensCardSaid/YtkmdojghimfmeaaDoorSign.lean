/-
  The contract of sign of the reference: the length of the operator at an offset.
-/
import Derived.Test.YtkmdojghimfmeaaDoorRun
import Derived.WalkSpells
import Derived.WalkLawsBesides
namespace Go.Proofs.YtkmdojghimfmeaaDoor
open Go.RowKit

theorem beq2 (c d x y : UInt8) : ([c, d] == [x, y]) = (c == x && d == y) := by simp [List.cons_beq_cons]
theorem beqU (c x : UInt8) : (((c.toNat : Nat) : Int) == ((x.toNat : Nat) : Int)) = (c == x) := by
  rw [Bool.eq_iff_iff, beq_iff_eq, beq_iff_eq, ← UInt8.toNat_inj]
  omega
theorem toList_eq (s : ByteArray) : s.toList = s.data.toList := Lib.toList_data s
theorem extract_two {s : ByteArray} {p : Nat} {c d : UInt8} {r : List UInt8} (h : s.data.toList.drop p = c :: d :: r) : (s.extract p (p + 2)).toList = [c, d] := by
  rw [toList_eq, Lib.extract_data, h, show p + 2 - p = 2 from by omega]
  rfl
theorem drop_two {s : ByteArray} {p : Nat} (hp : p + 2 ≤ s.size) : ∃ c d r, s.data.toList.drop p = c :: d :: r := by
  have hl : (s.data.toList.drop p).length = s.size - p := by rw [List.length_drop]; rfl
  match h : s.data.toList.drop p, hl with
  | [], hl => simp at hl; omega
  | [c], hl => simp at hl; omega
  | c :: d :: r, _ => exact ⟨c, d, r, rfl⟩
theorem drop_one {s : ByteArray} {p : Nat} (hp : p < s.size) : s.data.toList.drop p = s[p] :: s.data.toList.drop (p + 1) :=
  List.drop_eq_getElem_cons (i := p) (l := s.data.toList) (by simpa using hp)
theorem signLen_two {c d : UInt8} {r : List UInt8} (h : Lx.two c d = true) : Lx.signLen (c :: d :: r) = 2 := by simp [Lx.signLen, h]
theorem signLen_one {c d : UInt8} {r : List UInt8} (h : Lx.two c d = false) (h1 : Lx.one c = true) : Lx.signLen (c :: d :: r) = 1 := by simp [Lx.signLen, h, h1]
theorem signLen_no {c d : UInt8} {r : List UInt8} (h : Lx.two c d = false) (h1 : Lx.one c = false) : Lx.signLen (c :: d :: r) = 0 := by simp [Lx.signLen, h, h1]

theorem one_40 {c : UInt8} (h : (c == 40) = true) : Lx.one c = true := by unfold Lx.one; rw [h]; simp
theorem one_41 {c : UInt8} (h : (c == 41) = true) : Lx.one c = true := by unfold Lx.one; rw [h]; simp
theorem one_93 {c : UInt8} (h : (c == 93) = true) : Lx.one c = true := by unfold Lx.one; rw [h]; simp
theorem one_59 {c : UInt8} (h : (c == 59) = true) : Lx.one c = true := by unfold Lx.one; rw [h]; simp
theorem one_44 {c : UInt8} (h : (c == 44) = true) : Lx.one c = true := by unfold Lx.one; rw [h]; simp
theorem one_124 {c : UInt8} (h : (c == 124) = true) : Lx.one c = true := by unfold Lx.one; rw [h]; simp
theorem one_61 {c : UInt8} (h : (c == 61) = true) : Lx.one c = true := by unfold Lx.one; rw [h]; simp
theorem one_60 {c : UInt8} (h : (c == 60) = true) : Lx.one c = true := by unfold Lx.one; rw [h]; simp
theorem one_43 {c : UInt8} (h : (c == 43) = true) : Lx.one c = true := by unfold Lx.one; rw [h]; simp
theorem one_45 {c : UInt8} (h : (c == 45) = true) : Lx.one c = true := by unfold Lx.one; rw [h]; simp
theorem one_42 {c : UInt8} (h : (c == 42) = true) : Lx.one c = true := by unfold Lx.one; rw [h]; simp
theorem one_33 {c : UInt8} (h : (c == 33) = true) : Lx.one c = true := by unfold Lx.one; rw [h]; simp
theorem one_no {c : UInt8} (h40 : (c == 40) = false) (h41 : (c == 41) = false) (h93 : (c == 93) = false) (h59 : (c == 59) = false) (h44 : (c == 44) = false) (h124 : (c == 124) = false) (h61 : (c == 61) = false) (h60 : (c == 60) = false) (h43 : (c == 43) = false) (h45 : (c == 45) = false) (h42 : (c == 42) = false) (h33 : (c == 33) = false) : Lx.one c = false := by unfold Lx.one; rw [h40, h41, h93, h59, h44, h124, h61, h60, h43, h45, h42, h33]; rfl
theorem two_no {c d : UInt8} (h0 : ([c, d] == [59, 59]) = false) (h1 : ([c, d] == [124, 124]) = false) (h2 : ([c, d] == [38, 38]) = false) (h3 : ([c, d] == [61, 61]) = false) (h4 : ([c, d] == [46, 91]) = false) (h5 : ([c, d] == [58, 61]) = false) (h6 : ([c, d] == [45, 62]) = false) : Lx.two c d = false := by
  rw [beq2] at h0 h1 h2 h3 h4 h5 h6
  unfold Lx.two
  rw [h0, h1, h2, h3, h4, h5, h6]
  rfl
theorem two_0 {c d : UInt8} (h : ([c, d] == [59, 59]) = true) : Lx.two c d = true := by rw [beq2] at h; unfold Lx.two; rw [h]; simp
theorem two_1 {c d : UInt8} (h : ([c, d] == [124, 124]) = true) : Lx.two c d = true := by rw [beq2] at h; unfold Lx.two; rw [h]; simp
theorem two_2 {c d : UInt8} (h : ([c, d] == [38, 38]) = true) : Lx.two c d = true := by rw [beq2] at h; unfold Lx.two; rw [h]; simp
theorem two_3 {c d : UInt8} (h : ([c, d] == [61, 61]) = true) : Lx.two c d = true := by rw [beq2] at h; unfold Lx.two; rw [h]; simp
theorem two_4 {c d : UInt8} (h : ([c, d] == [46, 91]) = true) : Lx.two c d = true := by rw [beq2] at h; unfold Lx.two; rw [h]; simp
theorem two_5 {c d : UInt8} (h : ([c, d] == [58, 61]) = true) : Lx.two c d = true := by rw [beq2] at h; unfold Lx.two; rw [h]; simp
theorem two_6 {c d : UInt8} (h : ([c, d] == [45, 62]) = true) : Lx.two c d = true := by rw [beq2] at h; unfold Lx.two; rw [h]; simp
theorem signLen_single {c : UInt8} (h1 : Lx.one c = true) : Lx.signLen [c] = 1 := by simp [Lx.signLen, h1]
theorem signLen_none {c : UInt8} (h1 : Lx.one c = false) : Lx.signLen [c] = 0 := by simp [Lx.signLen, h1]

set_option maxRecDepth 100000 in
set_option maxHeartbeats 1000000 in
theorem sign_rest (s : ByteArray) (p : Nat) (w : World) (hs : s.size ≤ 3000) (hp : p + 2 ≤ s.size) (c d : UInt8) (r : List UInt8) (hl : s.data.toList.drop p = c :: d :: r) (hlt : p < s.size) (hc : s[p] = c)
    (h0 : ((s.extract p (p + 2)).toList == [59, 59]) = false) (h1 : ((s.extract p (p + 2)).toList == [124, 124]) = false) (h2 : ((s.extract p (p + 2)).toList == [38, 38]) = false) (h3 : ((s.extract p (p + 2)).toList == [61, 61]) = false) (h4 : ((s.extract p (p + 2)).toList == [46, 91]) = false) (h5 : ((s.extract p (p + 2)).toList == [58, 61]) = false) (h6 : ((s.extract p (p + 2)).toList == [45, 62]) = false) :
    Calls Tryd.prog 21 #[.string s, .int .i64 p] w fun e w' => e = .returned (.int .i64 (Lx.signLen (s.data.toList.drop p))) ∧ w = w' := by
  have hT := extract_two hl
  have hN := two_no (hT ▸ h0) (hT ▸ h1) (hT ▸ h2) (hT ▸ h3) (hT ▸ h4) (hT ▸ h5) (hT ▸ h6)
  subst hc
  have HL := Lib.hid hl
  have HN := Lib.hid hN
  clear hl hT hN
  cases g0 : (((s[p]'hlt).toNat : Int) == 40) with
  | true =>
    go_enter Tryd.func21, Tryd.ntmps21
    go_wp2
    go_ret
    exact ⟨ret_int (by rw [HL.out, signLen_one HN.out (one_40 ((beqU _ _).symm.trans g0))]; rfl), rfl⟩
  | false =>
    cases g1 : (((s[p]'hlt).toNat : Int) == 41) with
    | true =>
      go_enter Tryd.func21, Tryd.ntmps21
      go_wp2
      go_ret
      exact ⟨ret_int (by rw [HL.out, signLen_one HN.out (one_41 ((beqU _ _).symm.trans g1))]; rfl), rfl⟩
    | false =>
      cases g2 : (((s[p]'hlt).toNat : Int) == 93) with
      | true =>
        go_enter Tryd.func21, Tryd.ntmps21
        go_wp2
        go_ret
        exact ⟨ret_int (by rw [HL.out, signLen_one HN.out (one_93 ((beqU _ _).symm.trans g2))]; rfl), rfl⟩
      | false =>
        cases g3 : (((s[p]'hlt).toNat : Int) == 59) with
        | true =>
          go_enter Tryd.func21, Tryd.ntmps21
          go_wp2
          go_ret
          exact ⟨ret_int (by rw [HL.out, signLen_one HN.out (one_59 ((beqU _ _).symm.trans g3))]; rfl), rfl⟩
        | false =>
          cases g4 : (((s[p]'hlt).toNat : Int) == 44) with
          | true =>
            go_enter Tryd.func21, Tryd.ntmps21
            go_wp2
            go_ret
            exact ⟨ret_int (by rw [HL.out, signLen_one HN.out (one_44 ((beqU _ _).symm.trans g4))]; rfl), rfl⟩
          | false =>
            cases g5 : (((s[p]'hlt).toNat : Int) == 124) with
            | true =>
              go_enter Tryd.func21, Tryd.ntmps21
              go_wp2
              go_ret
              exact ⟨ret_int (by rw [HL.out, signLen_one HN.out (one_124 ((beqU _ _).symm.trans g5))]; rfl), rfl⟩
            | false =>
              cases g6 : (((s[p]'hlt).toNat : Int) == 61) with
              | true =>
                go_enter Tryd.func21, Tryd.ntmps21
                go_wp2
                go_ret
                exact ⟨ret_int (by rw [HL.out, signLen_one HN.out (one_61 ((beqU _ _).symm.trans g6))]; rfl), rfl⟩
              | false =>
                cases g7 : (((s[p]'hlt).toNat : Int) == 60) with
                | true =>
                  go_enter Tryd.func21, Tryd.ntmps21
                  go_wp2
                  go_ret
                  exact ⟨ret_int (by rw [HL.out, signLen_one HN.out (one_60 ((beqU _ _).symm.trans g7))]; rfl), rfl⟩
                | false =>
                  cases g8 : (((s[p]'hlt).toNat : Int) == 43) with
                  | true =>
                    go_enter Tryd.func21, Tryd.ntmps21
                    go_wp2
                    go_ret
                    exact ⟨ret_int (by rw [HL.out, signLen_one HN.out (one_43 ((beqU _ _).symm.trans g8))]; rfl), rfl⟩
                  | false =>
                    cases g9 : (((s[p]'hlt).toNat : Int) == 45) with
                    | true =>
                      go_enter Tryd.func21, Tryd.ntmps21
                      go_wp2
                      go_ret
                      exact ⟨ret_int (by rw [HL.out, signLen_one HN.out (one_45 ((beqU _ _).symm.trans g9))]; rfl), rfl⟩
                    | false =>
                      cases g10 : (((s[p]'hlt).toNat : Int) == 42) with
                      | true =>
                        go_enter Tryd.func21, Tryd.ntmps21
                        go_wp2
                        go_ret
                        exact ⟨ret_int (by rw [HL.out, signLen_one HN.out (one_42 ((beqU _ _).symm.trans g10))]; rfl), rfl⟩
                      | false =>
                        cases g11 : (((s[p]'hlt).toNat : Int) == 33) with
                        | true =>
                          go_enter Tryd.func21, Tryd.ntmps21
                          go_wp2
                          go_ret
                          exact ⟨ret_int (by rw [HL.out, signLen_one HN.out (one_33 ((beqU _ _).symm.trans g11))]; rfl), rfl⟩
                        | false =>
                          go_enter Tryd.func21, Tryd.ntmps21
                          go_wp2
                          go_ret
                          exact ⟨ret_int (by rw [HL.out, signLen_no HN.out (one_no ((beqU _ _).symm.trans g0) ((beqU _ _).symm.trans g1) ((beqU _ _).symm.trans g2) ((beqU _ _).symm.trans g3) ((beqU _ _).symm.trans g4) ((beqU _ _).symm.trans g5) ((beqU _ _).symm.trans g6) ((beqU _ _).symm.trans g7) ((beqU _ _).symm.trans g8) ((beqU _ _).symm.trans g9) ((beqU _ _).symm.trans g10) ((beqU _ _).symm.trans g11))]; rfl), rfl⟩

set_option maxRecDepth 100000 in
set_option maxHeartbeats 1000000 in
theorem sign_two (s : ByteArray) (p : Nat) (w : World) (hs : s.size ≤ 3000) (hp : p + 2 ≤ s.size) :
    Calls Tryd.prog 21 #[.string s, .int .i64 p] w fun e w' => e = .returned (.int .i64 (Lx.signLen (s.data.toList.drop p))) ∧ w = w' := by
  obtain ⟨c, d, r, hl⟩ := drop_two hp
  have hlt : p < s.size := by omega
  have hc : s[p] = c := by
    have := drop_one hlt
    rw [hl] at this
    exact (List.cons.inj this).1.symm
  have HT := Lib.hid (extract_two hl)
  have HL := Lib.hid hl
  have HC := Lib.hid hc
  clear hl hc
  cases h0 : ((s.extract p (p + 2)).toList == [59, 59]) with
  | true =>
    go_enter Tryd.func21, Tryd.ntmps21
    go_wp2
    go_ret
    exact ⟨ret_int (by rw [HL.out, signLen_two (two_0 (HT.out ▸ h0))]; rfl), rfl⟩
  | false =>
    cases h1 : ((s.extract p (p + 2)).toList == [124, 124]) with
    | true =>
      go_enter Tryd.func21, Tryd.ntmps21
      go_wp2
      go_ret
      exact ⟨ret_int (by rw [HL.out, signLen_two (two_1 (HT.out ▸ h1))]; rfl), rfl⟩
    | false =>
      cases h2 : ((s.extract p (p + 2)).toList == [38, 38]) with
      | true =>
        go_enter Tryd.func21, Tryd.ntmps21
        go_wp2
        go_ret
        exact ⟨ret_int (by rw [HL.out, signLen_two (two_2 (HT.out ▸ h2))]; rfl), rfl⟩
      | false =>
        cases h3 : ((s.extract p (p + 2)).toList == [61, 61]) with
        | true =>
          go_enter Tryd.func21, Tryd.ntmps21
          go_wp2
          go_ret
          exact ⟨ret_int (by rw [HL.out, signLen_two (two_3 (HT.out ▸ h3))]; rfl), rfl⟩
        | false =>
          cases h4 : ((s.extract p (p + 2)).toList == [46, 91]) with
          | true =>
            go_enter Tryd.func21, Tryd.ntmps21
            go_wp2
            go_ret
            exact ⟨ret_int (by rw [HL.out, signLen_two (two_4 (HT.out ▸ h4))]; rfl), rfl⟩
          | false =>
            cases h5 : ((s.extract p (p + 2)).toList == [58, 61]) with
            | true =>
              go_enter Tryd.func21, Tryd.ntmps21
              go_wp2
              go_ret
              exact ⟨ret_int (by rw [HL.out, signLen_two (two_5 (HT.out ▸ h5))]; rfl), rfl⟩
            | false =>
              cases h6 : ((s.extract p (p + 2)).toList == [45, 62]) with
              | true =>
                go_enter Tryd.func21, Tryd.ntmps21
                go_wp2
                go_ret
                exact ⟨ret_int (by rw [HL.out, signLen_two (two_6 (HT.out ▸ h6))]; rfl), rfl⟩
              | false =>
                exact sign_rest s p w hs hp c d r HL.out hlt HC.out h0 h1 h2 h3 h4 h5 h6

set_option maxRecDepth 100000 in
set_option maxHeartbeats 1000000 in
theorem sign_last (s : ByteArray) (p : Nat) (w : World) (hs : s.size ≤ 3000) (hp : ¬ p + 2 ≤ s.size) (hlt : p < s.size) :
    Calls Tryd.prog 21 #[.string s, .int .i64 p] w fun e w' => e = .returned (.int .i64 (Lx.signLen (s.data.toList.drop p))) ∧ w = w' := by
  have hl : s.data.toList.drop p = [s[p]] := by
    rw [drop_one hlt, List.drop_eq_nil_of_le (by show s.size ≤ p + 1; omega)]
  have HL := Lib.hid hl
  clear hl
  cases g0 : (((s[p]'hlt).toNat : Int) == 40) with
  | true =>
    go_enter Tryd.func21, Tryd.ntmps21
    go_wp2
    go_ret
    exact ⟨ret_int (by rw [HL.out]; exact (congrArg Nat.cast (signLen_single (one_40 ((beqU _ _).symm.trans g0)))).symm), rfl⟩
  | false =>
    cases g1 : (((s[p]'hlt).toNat : Int) == 41) with
    | true =>
      go_enter Tryd.func21, Tryd.ntmps21
      go_wp2
      go_ret
      exact ⟨ret_int (by rw [HL.out]; exact (congrArg Nat.cast (signLen_single (one_41 ((beqU _ _).symm.trans g1)))).symm), rfl⟩
    | false =>
      cases g2 : (((s[p]'hlt).toNat : Int) == 93) with
      | true =>
        go_enter Tryd.func21, Tryd.ntmps21
        go_wp2
        go_ret
        exact ⟨ret_int (by rw [HL.out]; exact (congrArg Nat.cast (signLen_single (one_93 ((beqU _ _).symm.trans g2)))).symm), rfl⟩
      | false =>
        cases g3 : (((s[p]'hlt).toNat : Int) == 59) with
        | true =>
          go_enter Tryd.func21, Tryd.ntmps21
          go_wp2
          go_ret
          exact ⟨ret_int (by rw [HL.out]; exact (congrArg Nat.cast (signLen_single (one_59 ((beqU _ _).symm.trans g3)))).symm), rfl⟩
        | false =>
          cases g4 : (((s[p]'hlt).toNat : Int) == 44) with
          | true =>
            go_enter Tryd.func21, Tryd.ntmps21
            go_wp2
            go_ret
            exact ⟨ret_int (by rw [HL.out]; exact (congrArg Nat.cast (signLen_single (one_44 ((beqU _ _).symm.trans g4)))).symm), rfl⟩
          | false =>
            cases g5 : (((s[p]'hlt).toNat : Int) == 124) with
            | true =>
              go_enter Tryd.func21, Tryd.ntmps21
              go_wp2
              go_ret
              exact ⟨ret_int (by rw [HL.out]; exact (congrArg Nat.cast (signLen_single (one_124 ((beqU _ _).symm.trans g5)))).symm), rfl⟩
            | false =>
              cases g6 : (((s[p]'hlt).toNat : Int) == 61) with
              | true =>
                go_enter Tryd.func21, Tryd.ntmps21
                go_wp2
                go_ret
                exact ⟨ret_int (by rw [HL.out]; exact (congrArg Nat.cast (signLen_single (one_61 ((beqU _ _).symm.trans g6)))).symm), rfl⟩
              | false =>
                cases g7 : (((s[p]'hlt).toNat : Int) == 60) with
                | true =>
                  go_enter Tryd.func21, Tryd.ntmps21
                  go_wp2
                  go_ret
                  exact ⟨ret_int (by rw [HL.out]; exact (congrArg Nat.cast (signLen_single (one_60 ((beqU _ _).symm.trans g7)))).symm), rfl⟩
                | false =>
                  cases g8 : (((s[p]'hlt).toNat : Int) == 43) with
                  | true =>
                    go_enter Tryd.func21, Tryd.ntmps21
                    go_wp2
                    go_ret
                    exact ⟨ret_int (by rw [HL.out]; exact (congrArg Nat.cast (signLen_single (one_43 ((beqU _ _).symm.trans g8)))).symm), rfl⟩
                  | false =>
                    cases g9 : (((s[p]'hlt).toNat : Int) == 45) with
                    | true =>
                      go_enter Tryd.func21, Tryd.ntmps21
                      go_wp2
                      go_ret
                      exact ⟨ret_int (by rw [HL.out]; exact (congrArg Nat.cast (signLen_single (one_45 ((beqU _ _).symm.trans g9)))).symm), rfl⟩
                    | false =>
                      cases g10 : (((s[p]'hlt).toNat : Int) == 42) with
                      | true =>
                        go_enter Tryd.func21, Tryd.ntmps21
                        go_wp2
                        go_ret
                        exact ⟨ret_int (by rw [HL.out]; exact (congrArg Nat.cast (signLen_single (one_42 ((beqU _ _).symm.trans g10)))).symm), rfl⟩
                      | false =>
                        cases g11 : (((s[p]'hlt).toNat : Int) == 33) with
                        | true =>
                          go_enter Tryd.func21, Tryd.ntmps21
                          go_wp2
                          go_ret
                          exact ⟨ret_int (by rw [HL.out]; exact (congrArg Nat.cast (signLen_single (one_33 ((beqU _ _).symm.trans g11)))).symm), rfl⟩
                        | false =>
                          go_enter Tryd.func21, Tryd.ntmps21
                          go_wp2
                          go_ret
                          exact ⟨ret_int (by rw [HL.out]; exact (congrArg Nat.cast (signLen_none (one_no ((beqU _ _).symm.trans g0) ((beqU _ _).symm.trans g1) ((beqU _ _).symm.trans g2) ((beqU _ _).symm.trans g3) ((beqU _ _).symm.trans g4) ((beqU _ _).symm.trans g5) ((beqU _ _).symm.trans g6) ((beqU _ _).symm.trans g7) ((beqU _ _).symm.trans g8) ((beqU _ _).symm.trans g9) ((beqU _ _).symm.trans g10) ((beqU _ _).symm.trans g11)))).symm), rfl⟩

theorem sign_any (s : ByteArray) (p : Nat) (w : World) (hs : s.size ≤ 3000) (hlt : p < s.size) :
    Calls Tryd.prog 21 #[.string s, .int .i64 p] w fun e w' => e = .returned (.int .i64 (Lx.signLen (s.data.toList.drop p))) ∧ w = w' := by
  by_cases hp : p + 2 ≤ s.size
  · exact sign_two s p w hs hp
  · exact sign_last s p w hs hp hlt
end Go.Proofs.YtkmdojghimfmeaaDoor
