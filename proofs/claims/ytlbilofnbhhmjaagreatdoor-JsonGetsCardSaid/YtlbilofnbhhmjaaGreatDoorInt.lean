/- A whole number's value: json's Int and the reference's come to the same. Conditions: the text is not too great; strconv.ErrRange lies where the program has it. -/
import Derived.Test.YtlbilofnbhhmjaaGreatDoorPInt
import Derived.Test.YtlbilofnbhhmjaaGreatDoorIs
import Derived.Test.YtlbilofnbhhmjaaGreatDoorShelf3
import Derived.Test.YtlbilofnbhhmjaaGreatDoorSort
import Derived.Test.YtlbilofnbhhmjaaGreatDoorRSmall
import Derived.Test.YtlbilofnbhhmjaaGreatDoorPSize
import Derived.Deep.QuietTactic
import Derived.BigQuiet
namespace Go.Proofs.YtlbilofnbhhmjaaGreatDoor
open Go.RowKit
set_option linter.unusedVariables false
set_option linter.unusedSimpArgs false
noncomputable def intJ (j : J) : Int × Int := if j.kd = 2 then intT j.tx else (0, 134)
theorem intJ_two (b : Bool) (t : ByteArray) (ks : List ByteArray) (ls : List J) : intJ (.mk 2 b t ks ls) = intT t := by unfold intJ; simp [J.kd, J.tx]
theorem intJ_no {kd : Int} {b : Bool} {t : ByteArray} {ks : List ByteArray} {ls : List J} (h : kd ≠ 2) : intJ (.mk kd b t ks ls) = (0, 134) := by unfold intJ; simp [J.kd, h]
def rangeAt (w : World) (b : Addr) : Prop := w.cell? ⟨0, 0, none⟩ = some (.iface 160 (.pointer (some b)))
theorem numB_empty : numB ⟨#[]⟩ = false := by kernel_rfl
theorem str_empty {s : ByteArray} (h : s.size = 0) : s = ⟨#[]⟩ := by
  cases s with
  | mk d => simp at h; exact h
theorem bytes_below {w w' : World} (h : w' = w ∨ ∃ t, w' = Lib.bytesWorld w 5 t) : Below w.heap.size w w' := by
  rcases h with rfl | ⟨t, rfl⟩
  · exact Below.refl _ _
  · exact Lib.bytesWorld_below _ _ _
theorem nonempty_of {t : ByteArray} (he : t.size ≠ 0) : t.toList ≠ [] := fun e => he (by
  have h : t.toList.length = t.size := by simp [ByteArray.toList_eq]
  rw [e] at h
  exact h.symm)
theorem numberEnd_0 (s : ByteArray) (w : World) (hs : s.size ≤ 140737488355328) :
    Calls Tryz.prog 20 #[.string s, .int .i64 0] w fun e w' => e = .returned (.int .i64 (numV (num s 0))) ∧ w' = w := (numberEnd_any 0 s w hs (Nat.zero_le _)).mono fun e w' ⟨h1, h2⟩ => ⟨h1, h2.symm⟩
theorem dots_ascii : ∀ (j : Nat) b, (⟨#[46, 101, 69]⟩ : ByteArray).data.toList[j]? = some b → b.toNat < 128 := fun j b h => by
  have : b ∈ ([46, 101, 69] : List UInt8) := List.mem_of_getElem? h
  simp at this
  rcases this with rfl | rfl | rfl <;> decide
def IntPost (r : Int × Int) (w : World) (e : Ending) (w' : World) : Prop := e = .returned (.tuple #[.int .i64 r.1, .int .i64 r.2]) ∧ Below w.heap.size w w'
set_option maxHeartbeats 6400000 in
set_option maxRecDepth 100000 in
theorem int_any (j : J) (cs : List Value) (w : World) (b : Addr) (hj : JR w j cs) (hz : JAll (JSz 65536) j) (hE : rangeAt w b) : Calls Tryz.prog 10 #[.agg cs.toArray] w (IntPost (intJ j) w) := by
  obtain ⟨kd, bb, t, ks, ls⟩ := j
  unfold JR at hj
  obtain ⟨A1, c1, B1, d1, rfl, -, -, -, -⟩ := hj
  have hts : t.size ≤ 65536 := by unfold JAll JSz at hz; exact hz.1.1
  clear hz
  have HE := Lib.hid hE
  have hblk : 0 < w.heap.size := block_lt_of_cell (a := ⟨0, 0, none⟩) hE
  have Hblk := Lib.hid hblk
  clear hE hblk
  obtain ⟨RES, hR⟩ : ∃ r, intJ (.mk kd bb t ks ls) = r := ⟨_, rfl⟩
  rw [hR]
  have HR := Lib.hid hR
  clear hR
  go_enter Tryz.func10, Tryz.ntmps10
  go_upto_region 1 with (refine wpList_box_abs rfl 26 (.tmp 0) rfl [.int .i8 kd, .bool bb, .string t, .slice A1 ks.length c1, .slice B1 ls.length d1] rfl ?_; intro w1 hr1 hg1 hs1; simp only [Act.put, List.setIfInBounds_toArray, List.set_cons_zero, List.set_cons_succ])
  have HB1 := Lib.hid (below_of_grown hg1)
  have HX1 := Lib.hid hr1
  have c0 := hr1.at_ (j := 0) rfl
  have c2 := hr1.at_ (j := 2) rfl
  clear hr1 hg1 hs1
  by_cases h2 : kd = 2
  · subst h2
    by_cases he : t.size = 0
    · obtain rfl := str_empty he
      have HF : Hid (RES = (0, 130)) := Lib.hid (by rw [← HR.out, intJ_two]; exact intT_no numB_empty)
      clear he hts
      go_wp2_with fail
      go_quiet (fail)
      go_wp2_with fail
      go_ret2
      rw [HF.out]
      exact ⟨rfl, below_of_grown (grown_drewN (grown_of_below HB1.out none) _)⟩
    · have hnt : t.toList ≠ [] := nonempty_of he
      have e0 : (t.toList == []) = false := by simpa using hnt
      have e1 : t.toList.isEmpty = false := by simpa using hnt
      have HR2 : Hid (intT t = RES) := Lib.hid (by rw [← HR.out, intJ_two])
      clear HR he hnt
      have hne := fun W => numberEnd_0 t W (by omega)
      cases hn : numB t with
      | false =>
        have HF : Hid (RES = (0, 130)) := Lib.hid (by rw [← HR2.out]; exact intT_no hn)
        have e3 : (numV (num t 0) != (t.size : Int)) = true := by unfold numB at hn; simpa using hn
        obtain ⟨V, hV⟩ : ∃ V, numV (num t 0) = V := ⟨_, rfl⟩
        rw [hV] at e3 hne
        clear hn hV HR2
        have Hne := Lib.hid hne
        clear hne
        go_wp2_with fail
        go_quiet ((go_at_call 20; exact Calls.quiet_of_same (Hne.out _)))
        go_wp2_with fail
        go_ret2
        rw [HF.out]
        exact ⟨rfl, below_of_grown (grown_drewN (grown_of_below HB1.out none) _)⟩
      | true =>
        have e3 : (numV (num t 0) != (t.size : Int)) = false := by unfold numB at hn; simpa using hn
        obtain ⟨V, hV⟩ : ∃ V, numV (num t 0) = V := ⟨_, rfl⟩
        rw [hV] at e3 hne
        have Hn := Lib.hid hn
        have Hne := Lib.hid hne
        have Ha := Lib.hid (num_ascii hn)
        clear hne hn hV
        have hq : (48 : Nat) = 48 := rfl
        go_wp2_with fail
        go_quiet ((go_at_call 20; exact Calls.quiet_of_same (Hne.out _)))
        have HB2 := Lib.hid (below_of_grown (grown_drewN (grown_of_below HB1.out none) nq))
        have HX2 := Lib.hid (HX1.out.drewN nq)
        generalize w1.drewN nq = w2 at HB2 HX2 ⊢
        have d2 := HX2.out.at_ (j := 2) rfl
        clear c0 c2 e0 e1 e3 Hne hq
        by_cases hd : dotted t
        · have hca := dotted_any.2 hd
          have Hca := Lib.hid hca
          have HF : Hid (RES = (0, 134)) := Lib.hid (by rw [← HR2.out]; exact intT_dot Hn.out hd)
          clear hca hd HR2
          go_wp2_with (go_at_call 21; refine (Tryz.strings_ContainsAny_laid t ⟨#[46, 101, 69]⟩ w2 (by omega) (by decide) Ha.out dots_ascii).mono ?_; rintro e w3 ⟨rfl, hb3⟩; rw [show Lib.containsAny t.data.toList (⟨#[46, 101, 69]⟩ : ByteArray).data.toList = true from Hca.out]; have HB3 := Lib.hid (below_trans2 HB2.out hb3); clear hb3)
          go_ret2
          rw [HF.out]
          exact ⟨rfl, HB3.out⟩
        · have hca : Lib.containsAny t.data.toList [46, 101, 69] = false := by
            cases h : Lib.containsAny t.data.toList [46, 101, 69] with
            | false => rfl
            | true => exact absurd (dotted_any.1 h) hd
          have Hca := Lib.hid hca
          obtain ⟨hp0, hp1⟩ := num_plain Hn.out hd
          have hpi := parseIntB_is hp0 hp1
          by_cases hu : upto t t.size ≤ mostN t
          · rw [if_pos hu] at hpi
            have HF : Hid (RES = (if ch t 0 = 45 then -(upto t t.size : Int) else (upto t t.size : Int), 0)) := Lib.hid (by rw [← HR2.out]; exact intT_ok Hn.out hd hu)
            obtain ⟨V, hV⟩ : ∃ V, (if ch t 0 = 45 then -(upto t t.size : Int) else (upto t t.size : Int)) = V := ⟨_, rfl⟩
            rw [hV] at hpi HF
            have Hpi := Lib.hid hpi
            clear hca hd HR2 hpi hp0 hp1 hu hV
            go_wp2_with (first
              | (go_at_call 23; refine (is_nil b w4).mono ?_; rintro e w5 ⟨rfl, rfl⟩)
              | (go_at_call 22; refine (Tryz.strconv_ParseInt_10_at64_ok t (by omega) V Hpi.out w3).mono ?_; rintro e w4 ⟨rfl, hb4⟩; have HB4 := Lib.hid (below_trans2 HB3.out (bytes_below hb4))
                 have ce : w4.cell? ⟨0, 0, none⟩ = some (.iface 160 (.pointer (some b))) := below_cell HB4.out HE.out
                 clear hb4)
              | (go_at_call 21; refine (Tryz.strings_ContainsAny_laid t ⟨#[46, 101, 69]⟩ w2 (by omega) (by decide) Ha.out dots_ascii).mono ?_; rintro e w3 ⟨rfl, hb3⟩; rw [show Lib.containsAny t.data.toList (⟨#[46, 101, 69]⟩ : ByteArray).data.toList = false from Hca.out]; have HB3 := Lib.hid (below_trans2 HB2.out hb3); have f2 := below_cell hb3 d2; clear hb3))
            go_ret2
            rw [HF.out]
            exact ⟨rfl, HB4.out⟩
          · rw [if_neg hu] at hpi
            have HF : Hid (RES = (0, 12)) := Lib.hid (by rw [← HR2.out]; exact intT_far Hn.out hd hu)
            have Hpi := Lib.hid hpi
            clear hca hd HR2 hpi hp0 hp1 hu
            go_wp2_with (first
              | (go_at_call 23; refine (is_wrap N b w4 (Row.at_ (show Row w4 N _ [_, _, _] from HN.out) rfl)).mono ?_; rintro e w5 ⟨rfl, rfl⟩)
              | (go_at_call 22; refine (Tryz.strconv_ParseInt_10_at64_range t (by omega) Hpi.out _ w3 (below_cell HB3.out HE.out) (.inr ⟨_, _, rfl⟩)).mono ?_; rintro e w4 ⟨N, rfl, hN, hrow, hb4⟩; have HB4 := Lib.hid (below_trans2 HB3.out hb4)
                 have HN := Lib.hid hrow
                 have ce : w4.cell? ⟨0, 0, none⟩ = some (.iface 160 (.pointer (some b))) := below_cell HB4.out HE.out
                 clear hb4 hrow hN)
              | (go_at_call 21; refine (Tryz.strings_ContainsAny_laid t ⟨#[46, 101, 69]⟩ w2 (by omega) (by decide) Ha.out dots_ascii).mono ?_; rintro e w3 ⟨rfl, hb3⟩; rw [show Lib.containsAny t.data.toList (⟨#[46, 101, 69]⟩ : ByteArray).data.toList = false from Hca.out]; have HB3 := Lib.hid (below_trans2 HB2.out hb3); have f2 := below_cell hb3 d2; clear hb3))
            go_ret2
            rw [HF.out]
            exact ⟨rfl, HB4.out⟩
  · have HF : Hid (RES = (0, 134)) := Lib.hid (by rw [← HR.out, intJ_no h2])
    have e1 : (kd != 2) = true := by simpa using h2
    clear h2
    go_wp2_with fail
    go_ret2
    rw [HF.out]
    exact ⟨rfl, HB1.out⟩
end Go.Proofs.YtlbilofnbhhmjaaGreatDoor
