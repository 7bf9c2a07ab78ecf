/- Mac of the program's package digest. -/
import Derived.Test.YtkfdaeipfjcibaaDoorSum
import Derived.Deep.DeepCutAuto
import Derived.Laws.CopyOwn
namespace Go.Proofs.YtkfdaeipfjcibaaDoor
open Go.RowKit
set_option linter.unusedVariables false
set_option linter.unusedSimpArgs false
def kb (key : List Int) : List Int := if 64 < key.length then sha key else key
theorem kb_length (key : List Int) : (kb key).length ≤ 64 := by unfold kb; split <;> first | (rw [sha_length]; omega) | omega
def kblock (key : List Int) : List Int := kb key ++ List.replicate (64 - (kb key).length) 0
theorem kblock_length (key : List Int) : (kblock key).length = 64 := by have := kb_length key; simp [kblock]; omega
theorem kblock_splice (key : List Int) : splice (List.replicate 64 (Value.int .u8 0)) 0 ((kb key).map (Value.int .u8)) = (kblock key).map (Value.int .u8) := by
  simp only [splice, kblock, List.take_zero, List.nil_append, Nat.zero_add, List.drop_replicate, List.length_map, List.map_append, List.map_replicate]
theorem src_copy {w : World} {A : Option Addr} {y : List Int} (h : Src w A y) : 0 < (y.map (Value.int .u8)).length → ∃ ad, A = some ad ∧ ∀ (j : Nat) v, (y.map (Value.int .u8))[j]? = some v → w.cell? (ad.add j) = some v := fun h0 => by
  rw [List.length_map] at h0
  obtain ⟨a, ha, hs, hc⟩ := h h0
  refine ⟨a, ha, fun j v hv => ?_⟩
  have hj : j < y.length := by have := (List.getElem?_eq_some_iff.1 hv).1; simpa using this
  have e : v = .int .u8 (y.getD j 0) := by
    rw [List.getElem?_map, List.getElem?_eq_getElem hj] at hv
    simp at hv
    rw [← hv]; simp [hj]
  obtain ⟨ab, ao, asp⟩ := a
  simp at hs
  subst hs
  rw [e, Addr.add_mid]
  exact hc j hj
def xorL (m : Int) (l : List Int) : List Int := l.map fun x => bits .xor .u8 x m
def mac (key b : List Int) : List Int := sha (xorL 92 (kblock key) ++ sha (xorL 54 (kblock key) ++ b))
def z64 : List Value := List.replicate 64 (.int .u8 0)
theorem zero47 (w : World) : (zeroValue 47).run Tryd.prog w = .ok (.agg z64.toArray) w := by kernel_rfl
theorem size47 : (Tryd.prog.info? 47).map (·.size) = some 64 := by kernel_rfl
theorem slice_all25 (B : Nat) (W : World) : (Instr.sliceAt 25 (.pointer (some ⟨B, 0, none⟩)) none none none).run Tryd.prog W = .ok (.slice (some ⟨B, 0, none⟩) 32 32) W := by kernel_rfl
theorem slice_all47 (B : Nat) (W : World) : (Instr.sliceAt 47 (.pointer (some ⟨B, 0, none⟩)) none none none).run Tryd.prog W = .ok (.slice (some ⟨B, 0, none⟩) 64 64) W := by kernel_rfl
theorem src_row {w : World} {g : Nat} {T : TypeId} {x : List Int} (h : Row w g T (x.map (Value.int .u8))) : Src w (some ⟨g, 0, none⟩) x := fun _ => ⟨_, rfl, rfl, fun j hj => by rw [h.cell]; simp [hj]⟩
set_option maxHeartbeats 1600000 in
set_option maxRecDepth 100000 in
theorem mac_any (Ak Ab : Option Addr) (ck cb : Nat) (key x : List Int) (w : World) (hk : Src w Ak key) (hx : Src w Ab x) (hck : key.length ≤ ck) (hcb : x.length ≤ cb) (hK : HasK w) (hsk : key.length ≤ 536870912) (hsx : x.length ≤ 268435456) :
    Calls Tryd.prog 19 #[.slice Ak key.length ck, .slice Ab x.length cb] w fun e w' => e = .returned (.agg (bytesA (mac key x))) ∧ Below w.heap.size w w' := by
  have h0 := hK.lt
  have HX := Lib.hid hx
  have HKy := Lib.hid hk
  have HK := Lib.hid hK
  clear hx hk hK
  go_enter Tryd.func19, Tryd.ntmps19
  go_upto_if 14 with (first
    | (refine wpList_alloc_abs rfl 25 rfl z32 _ (zero25 _) rfl ?_; intro w1 hr1 hg1 hs1; have Hs1 := Lib.hid hs1; clear hs1)
    | (refine wpList_alloc_abs rfl 47 rfl z64 _ (zero47 _) rfl ?_; intro w2 hr2 hg2 hs2; have Hs2 := Lib.hid hs2; clear hs2))
  go_cut [0] (fun v wx => ∃ (A : Option Addr) (c : Nat), v = .slice A (kb key).length c ∧ (kb key).length ≤ c ∧ Hid (Src wx A (kb key)) ∧ Hid (∀ a, A = some a → a.block ≠ w1.heap.size ∨ (kb key).length = 0) ∧ Hid (w2.grownBy wx none))
  case first =>
    by_cases hlong : 64 < key.length
    · have hsh := sha_length key
      have h1c := oneCell_bytes (sha key)
      obtain ⟨C, hC⟩ : ∃ C, (sha key).map (Value.int .u8) = C := ⟨_, rfl⟩
      have hCl : C.length = 32 := by rw [← hC]; simpa using hsh
      rw [hC] at h1c
      have HC := Lib.hid hC
      have HCl := Lib.hid hCl
      clear hC hCl hsh
      have hall := slice_all25
      go_wp2_with (first
        | (go_at_call 10; refine (dsum_any Ak ck key w2 ((HKy.out.grown hg1 (by simp)).grown hg2 (by simp)) hck ((HK.out.grown hg1 (by simp)).grown hg2 (by simp)) hsk).mono ?_
           rintro e w3 ⟨rfl, hb3⟩
           have HB3 := Lib.hid hb3
           clear hb3
           unfold bytesA
           rw [HC.out])
        | (refine wpList_alloc_abs rfl 25 rfl z32 _ (zero25 _) rfl ?_; intro w4 hr4 hg4 hs4; have Hs4 := Lib.hid hs4; clear hs4)
        | (refine wpList_store_Row rfl 25 _ _ rfl w3.heap.size C rfl rfl 25 z32 hr4 (by rw [HCl.out]; exact size25) (by rw [HCl.out]; rfl) h1c ?_; intro w5 hr5 hg5 hs5; clear hs5))
      go_meet
      have hkb : kb key = sha key := by simp [kb, hlong]
      have hs := HB3.out.size
      have h2 := Hs2.out
      rw [hkb]
      refine ⟨some ⟨w3.heap.size, 0, none⟩, 32, by rw [sha_length], by rw [sha_length]; exact Nat.le_refl _, Lib.hid (src_row (by rw [HC.out]; exact hr5)), Lib.hid (fun a ha => Or.inl (by simp at ha; subst ha; simp; omega)), Lib.hid ?_⟩
      exact grown_own (grown_own (grown_of_below HB3.out none) hg4 (by simp)) hg5 (by intro i hi; right; simp at hi; omega)
    · go_wp2_with fail
      go_meet
      have hkb : kb key = key := by simp [kb, hlong]
      rw [hkb]
      exact ⟨Ak, ck, rfl, hck, Lib.hid ((HKy.out.grown hg1 (by simp)).grown hg2 (by simp)), Lib.hid (fun a ha => by
        by_cases hz : key.length = 0
        · exact Or.inr hz
        · exact Or.inl (by have := HKy.out.lt (by omega) a ha; have := Hs1.out; omega)), Lib.hid (grown_refl _ _)⟩
  case rest =>
    obtain ⟨A, c, rfl, hc, HA, HAn, HG⟩ := hcut
    have hy := kb_length key
    have hblk : splice z64 0 ((kb key).map (Value.int .u8)) = (kblock key).map (Value.int .u8) := by
      exact kblock_splice key
    have hkl := kblock_length key
    have hmac : mac key x = sha (xorL 92 (kblock key) ++ sha (xorL 54 (kblock key) ++ x)) := rfl
    obtain ⟨y, hye⟩ : ∃ y, kb key = y := ⟨_, rfl⟩
    obtain ⟨Kb, hKb⟩ : ∃ y, kblock key = y := ⟨_, rfl⟩
    rw [hKb] at hblk hkl hmac
    rw [hye] at hblk HA HAn hc hy ⊢
    have Hblk := Lib.hid hblk
    have Hkl := Lib.hid hkl
    have Hmac := Lib.hid hmac
    clear hye hKb hblk hkl hmac
    have hrow : Row wc w1.heap.size 47 z64 := hr2.grown HG.out (by simp)
    have hall := slice_all47
    have Hrow := Lib.hid hrow
    have Hcn : Hid ((y.map (Value.int .u8)).length = Nat.min y.length 64) := Lib.hid (by rw [List.length_map]; exact (Nat.min_eq_left hy).symm)
    have Hcp := Lib.hid (src_copy HA.out)
    have Hcf : Hid (0 + (y.map (Value.int .u8)).length ≤ z64.length) := Lib.hid (by simp [z64]; exact hy)
    have Hc1 := Lib.hid (oneCell_bytes y)
    clear hrow
    go_wp2_with (refine wpList_copy_splice rfl (.tmp 18) (.tmp 19) 22 22 rfl 5 (by kernel_rfl) (by kernel_rfl) (some ⟨w1.heap.size, 0, none⟩) A 64 64 y.length c rfl rfl w1.heap.size 0 z64 47 Hrow.out (y.map (Value.int .u8)) Hcn.out (fun h => ⟨rfl, Hcp.out h⟩) Hcf.out Hc1.out w1.heap.size wc (Below.refl _ _) (Nat.le_refl _) (fun w3 hr3 hb3 => ?_); have Hr3 : Hid (Row w3 w1.heap.size 47 (Kb.map (Value.int .u8))) := Lib.hid (by rw [← Hblk.out]; exact hr3.out); have Hb3 := Lib.hid hb3; clear hr3 hb3)
    have hG3 : Hid (w.grownBy w3 none) := Lib.hid (grown_below (grown_own (grown_own hg1 hg2 (by simp)) HG.out (by simp)) Hb3.out (by have := Hs1.out; omega))
    have hO3 : Hid (Row w3 w.heap.size 25 z32) := Lib.hid (((hr1.grown hg2 (by simp)).grown HG.out (by simp)).below Hb3.out (by have := Hs1.out; omega))
    have hlt3 : w1.heap.size < w3.heap.size := Hr3.out.lt
    clear hr1 hr2 hg1 hg2 Hb3 Hcp Hcf Hc1 Hcn Hrow HAn HA HG HKy
    refine (new_any w3).mono ?_
    rintro e w4 ⟨rfl, hi4, hg4, hs4⟩
    have Hi4 := Lib.hid hi4
    have Hg4 := Lib.hid hg4
    clear hi4 hg4
    go_wp2_with fail
    refine (new_any w4).mono ?_
    rintro e w5 ⟨rfl, ho5, hg5, hs5⟩
    have hG5 : Hid (w.grownBy w5 none) := Lib.hid (grown_own (grown_own hG3.out Hg4.out (by simp)) hg5 (by simp))
    have hO5 : Hid (Row w5 w.heap.size 25 z32) := Lib.hid ((hO3.out.grown Hg4.out (by simp)).grown hg5 (by simp))
    have hK5 : Hid (HasK w5) := Lib.hid (HK.out.grown hG5.out (by simp))
    have hi5 : Hid (Rep w5 w3.heap.size []) := Lib.hid (Hi4.out.grown hg5 (by simp))
    have ho5' := Lib.hid ho5
    have hR5 : Hid (Row w5 w1.heap.size 47 (Kb.map (Value.int .u8))) := Lib.hid ((Hr3.out.grown Hg4.out (by simp)).grown hg5 (by simp))
    have hX5 : Hid (Src w5 Ab x) := Lib.hid (HX.out.grown hG5.out (by simp))
    have hne1 : w3.heap.size ≠ w4.heap.size := by omega
    have hs3 : w.heap.size < w3.heap.size := by have := Hs1.out; omega
    have Hs5 := Lib.hid hs5
    clear ho5 hg5 hG3 hO3 Hi4 Hg4 Hr3
    obtain ⟨Bi, hBi⟩ : ∃ B, w3.heap.size = B := ⟨_, rfl⟩
    obtain ⟨Bo, hBo⟩ : ∃ B, w4.heap.size = B := ⟨_, rfl⟩
    obtain ⟨B5, hB5⟩ : ∃ B, w1.heap.size = B := ⟨_, rfl⟩
    rw [hBi] at hi5 hlt3 hs4 hne1 hs3 ⊢
    rw [hBo] at ho5' hs4 hne1 Hs5 ⊢
    rw [hB5] at hR5 hlt3 ⊢
    clear hBi hBo hB5
    have hmapl : Hid ((Kb.map (Value.int .u8)).length = 64) := Lib.hid (by rw [List.length_map, Hkl.out])
    obtain ⟨KC, hKC⟩ : ∃ l, Kb.map (Value.int .u8) = l := ⟨_, rfl⟩
    rw [hKC] at hR5 hmapl
    have HKC := Lib.hid hKC
    clear hKC
    go_wp2_with (refine wpList_load_Row rfl 47 _ rfl B5 rfl KC 47 hR5.out _ Tryd.underlying47 rfl (by rw [hmapl.out]; exact size47) ?_)
    go_loopw [24] (fun i wr => ∃ k : Nat, k ≤ 64 ∧ i = .int .i64 k ∧ Hid (Rep wr Bi (xorL 54 (Kb.take k))) ∧ Hid (Rep wr Bo (xorL 92 (Kb.take k))) ∧ Hid (HasK wr) ∧ Hid (w.grownBy wr none) ∧ Hid (Row wr w.heap.size 25 z32))
      (fun i _ => 64 - (intOf i).toNat)
    case atStart => exact ⟨0, by omega, rfl, hi5, ho5', hK5, hG5, hO5⟩
    case round =>
      obtain ⟨k, hk, rfl, HRi, HRo, HKr, HGr, HOr⟩ := hrel
      by_cases hlt : k < 64
      · have hidx := fun W : World => run_index_agg (P := Tryd.prog) (w := W) 47 5 64 KC .i64 k (.int .u8 (Kb.getD k 0)) hlt (by rw [← HKC.out]; simp [Hkl.out, hlt]) Tryd.underlying47 (by kernel_rfl) (by kernel_rfl)
        obtain ⟨v, hv⟩ : ∃ v, Kb.getD k 0 = v := ⟨_, rfl⟩
        simp only [hv] at hidx
        have hstep1 : ∀ m, xorL m (Kb.take (k + 1)) = xorL m (Kb.take k) ++ [bits .xor .u8 v m] := fun m => by
          unfold xorL
          rw [List.take_succ_eq_append_getElem (by rw [Hkl.out]; exact hlt), List.map_append]
          rw [← hv]; simp [Hkl.out, hlt]
        have hlen : ∀ m, (xorL m (Kb.take k)).length + 1 ≤ 1073741824 := fun m => by simp [xorL]; omega
        have Hst := Lib.hid hstep1
        have Hle := Lib.hid hlen
        clear hv hstep1 hlen
        go_wp2_with (first
          | (refine wpList_build1 rfl 22 5 (.tmp 29) rfl Tryd.underlying22 (.int .u8 (bits .xor .u8 v 54)) rfl _ info5 (by kernel_rfl) (.int .u8 0) (by kernel_rfl) rfl rfl ?_; intro w6 hr6 hg6 hs6; clear hs6)
          | (go_at_call_of 15 (Value.pointer (some ⟨Bi, 0, none⟩)); refine (add_one step_any Bi (xorL 54 (Kb.take k)) _ wr w6 HRi.out HKr.out (by omega) hr6 hg6 (Hle.out _)).mono ?_
             rintro e w7 ⟨rfl, hi7, hg7⟩
             have Hi7 := Lib.hid hi7
             have Ho7 : Hid (Rep w7 Bo (xorL 92 (Kb.take k))) := Lib.hid (HRo.out.grown hg7 (by simp; omega))
             have HG7 : Hid (w.grownBy w7 none) := Lib.hid (grown_own HGr.out hg7 (by intro i hi; right; simp at hi; omega))
             have HK7 : Hid (HasK w7) := Lib.hid (HKr.out.grown hg7 (by simp; omega))
             have HO7 : Hid (Row w7 w.heap.size 25 z32) := Lib.hid (HOr.out.grown hg7 (by simp; omega))
             clear hr6 hg6 hi7 hg7 HRi HRo HGr HKr HOr)
          | (refine wpList_build1 rfl 22 5 (.tmp 34) rfl Tryd.underlying22 (.int .u8 (bits .xor .u8 v 92)) rfl _ info5 (by kernel_rfl) (.int .u8 0) (by kernel_rfl) rfl rfl ?_; intro w8 hr8 hg8 hs8; clear hs8)
          | (go_at_call_of 15 (Value.pointer (some ⟨Bo, 0, none⟩)); refine (add_one step_any Bo (xorL 92 (Kb.take k)) _ w7 w8 Ho7.out HK7.out (by omega) hr8 hg8 (Hle.out _)).mono ?_
             rintro e w9 ⟨rfl, ho9, hg9⟩
             have Ho9 := Lib.hid ho9
             have Hi9 : Hid (Rep w9 Bi (xorL 54 (Kb.take k) ++ [bits .xor .u8 v 54])) := Lib.hid (Hi7.out.grown hg9 (by simp; omega))
             have HG9 : Hid (w.grownBy w9 none) := Lib.hid (grown_own HG7.out hg9 (by intro i hi; right; simp at hi; omega))
             have HK9 : Hid (HasK w9) := Lib.hid (HK7.out.grown hg9 (by simp; omega))
             have HO9 : Hid (Row w9 w.heap.size 25 z32) := Lib.hid (HO7.out.grown hg9 (by simp; omega))
             clear hr8 hg8 ho9 hg9 Hi7 Ho7 HG7 HK7 HO7))
        go_roundw
        case rel => exact ⟨k + 1, by omega, by go_num, by rw [Hst.out]; exact Hi9, by rw [Hst.out]; exact Ho9, HK9, HG9, HO9⟩
        case measure => simp [intOf]; omega
      · have hk64 : k = 64 := by omega
        subst hk64
        simp only [Int.cast_ofNat_Int]
        rw [List.take_of_length_le (by rw [Hkl.out]; omega)] at HRi HRo
        have hx1 : Hid (Src wr Ab x) := Lib.hid (HX.out.grown HGr.out (by simp))
        have hxl : ∀ m, (xorL m Kb).length = 64 := fun m => by simp [xorL, Hkl.out]
        have Hxl := Lib.hid hxl
        have HS := Lib.hid (sha_length (xorL 54 Kb ++ x))
        have HS2 := Lib.hid (sha_length (xorL 92 Kb ++ sha (xorL 54 Kb ++ x)))
        obtain ⟨s1, hs1⟩ : ∃ s, sha (xorL 54 Kb ++ x) = s := ⟨_, rfl⟩
        have Hs1e := Lib.hid hs1
        rw [hs1] at HS HS2
        obtain ⟨C1, hC1⟩ : ∃ C, s1.map (Value.int .u8) = C := ⟨_, rfl⟩
        have h1c := oneCell_bytes s1
        rw [hC1] at h1c
        have H1c := Lib.hid h1c
        have HC1 := Lib.hid hC1
        have HC1l : Hid (C1.length = 32) := Lib.hid (by rw [← hC1, List.length_map, HS.out])
        obtain ⟨s2, hs2⟩ : ∃ s, sha (xorL 92 Kb ++ s1) = s := ⟨_, rfl⟩
        have Hs2e := Lib.hid hs2
        rw [hs2] at HS2
        obtain ⟨C2, hC2⟩ : ∃ C, s2.map (Value.int .u8) = C := ⟨_, rfl⟩
        have h2c := oneCell_bytes s2
        rw [hC2] at h2c
        have H2c := Lib.hid h2c
        have HC2 := Lib.hid hC2
        have HC2l : Hid (C2.length = 32) := Lib.hid (by rw [← hC2, List.length_map, HS2.out])
        have hall2 := slice_all25
        clear hxl hs1 hC1 hs2 hC2 h1c h2c
        go_wp2_with fail
        refine (add_any step_any Bi (xorL 54 Kb) x Ab cb wr HRi.out (by omega) HKr.out hx1.out (fun h a ha => by have := HX.out.lt h a ha; omega) hcb (by rw [Hxl.out]; omega)).mono ?_
        rintro e w6 ⟨rfl, hi6, hg6⟩
        have Hi6 := Lib.hid hi6
        have Ho6 : Hid (Rep w6 Bo (xorL 92 Kb)) := Lib.hid (HRo.out.grown hg6 (by simp; omega))
        have HG6 : Hid (w.grownBy w6 none) := Lib.hid (grown_own HGr.out hg6 (by intro i hi; right; simp at hi; omega))
        have HK6 : Hid (HasK w6) := Lib.hid (HKr.out.grown hg6 (by simp; omega))
        have HO6 : Hid (Row w6 w.heap.size 25 z32) := Lib.hid (HOr.out.grown hg6 (by simp; omega))
        clear hi6 hg6 HRi HRo HGr HKr HOr
        go_wp2_with fail
        refine (fin_any step_any Bi (xorL 54 Kb ++ x) w6 Hi6.out (by omega) HK6.out (by simp [Hxl.out]; omega)).mono ?_
        rintro e w7 ⟨rfl, hb7⟩
        have Ho7 : Hid (Rep w7 Bo (xorL 92 Kb)) := Lib.hid (Ho6.out.grown (grown_of_below hb7 none) (by simp))
        have HG7 : Hid (w.grownBy w7 none) := Lib.hid (grown_own HG6.out (grown_of_below hb7 none) (by simp))
        have HK7 : Hid (HasK w7) := Lib.hid (HK6.out.grown (grown_of_below hb7 none) (by simp))
        have HO7 : Hid (Row w7 w.heap.size 25 z32) := Lib.hid (HO6.out.below hb7 HO6.out.lt)
        clear hb7 Hi6 Ho6 HG6 HK6 HO6
        unfold bytesA
        rw [Hs1e.out, HC1.out]
        go_wp2_with (first
          | (refine wpList_alloc_abs rfl 25 rfl z32 _ (zero25 _) rfl ?_; intro w8 hr8 hg8 hs8; clear hs8)
          | (refine wpList_store_Row rfl 25 _ _ rfl w7.heap.size C1 rfl rfl 25 z32 hr8 (by rw [HC1l.out]; exact size25) (by rw [HC1l.out]; rfl) H1c.out ?_; intro w9 hr9 hg9 hs9; clear hs9
             have Ho9 : Hid (Rep w9 Bo (xorL 92 Kb)) := Lib.hid ((Ho7.out.grown hg8 (by simp)).grown hg9 (by have := Ho7.out.lt; simp; omega))
             have HG9 : Hid (w.grownBy w9 none) := Lib.hid (grown_own (grown_own HG7.out hg8 (by simp)) hg9 (by intro i hi; right; have := HG7.out.size; simp at hi; omega))
             have HK9 : Hid (HasK w9) := Lib.hid (HK.out.grown HG9.out (by simp))
             have HO9 : Hid (Row w9 w.heap.size 25 z32) := Lib.hid ((HO7.out.grown hg8 (by simp)).grown hg9 (by have := HO7.out.lt; simp; omega))
             have HX9 : Hid (Src w9 (some ⟨w7.heap.size, 0, none⟩) s1) := Lib.hid (src_row (by rw [HC1.out]; exact hr9))
             have hBo7 : Bo < w7.heap.size := Ho7.out.lt
             clear hr8 hg8 hr9 hg9 Ho7 HG7 HK7 HO7))
        rw [show (32 : Nat) = s1.length from HS.out.symm]
        refine (add_any step_any Bo (xorL 92 Kb) s1 (some ⟨w7.heap.size, 0, none⟩) s1.length w9 Ho9.out (by omega) HK9.out HX9.out (fun h a ha => by simp at ha; subst ha; simp; omega) (Nat.le_refl _) (by rw [Hxl.out, HS.out]; omega)).mono ?_
        rintro e w10 ⟨rfl, ho10, hg10⟩
        have Ho10 := Lib.hid ho10
        have HG10 : Hid (w.grownBy w10 none) := Lib.hid (grown_own HG9.out hg10 (by intro i hi; right; simp at hi; omega))
        have HK10 : Hid (HasK w10) := Lib.hid (HK9.out.grown hg10 (by simp; omega))
        have HO10 : Hid (Row w10 w.heap.size 25 z32) := Lib.hid (HO9.out.grown hg10 (by simp; omega))
        clear ho10 hg10 Ho9 HG9 HK9 HO9 HX9
        go_wp2_with fail
        refine (fin_any step_any Bo (xorL 92 Kb ++ s1) w10 Ho10.out (by omega) HK10.out (by simp [Hxl.out, HS.out])).mono ?_
        rintro e w11 ⟨rfl, hb11⟩
        have HG11 : Hid (w.grownBy w11 none) := Lib.hid (grown_own HG10.out (grown_of_below hb11 none) (by simp))
        have HO11 : Hid (Row w11 w.heap.size 25 z32) := Lib.hid (HO10.out.below hb11 HO10.out.lt)
        clear hb11
        unfold bytesA
        rw [Hs2e.out, HC2.out]
        go_wp2_with (refine wpList_store_Row rfl 25 _ _ rfl w.heap.size C2 rfl rfl 25 z32 HO11.out (by rw [HC2l.out]; exact size25) (by rw [HC2l.out]; rfl) H2c.out ?_; intro w12 hr12 hg12 hs12; clear hs12)
        refine bodyPost_ret (v := .agg C2.toArray) (results_cell_row (p := 4) (ty := 25) rfl _ _ w.heap.size 25 C2.toArray (0, 0) _ rfl hr12 Tryd.underlying25 rfl (by rw [List.size_toArray, HC2l.out]; exact size25)) rfl ⟨?_, ?_⟩
        · rw [Hmac.out, Hs1e.out, Hs2e.out, ← HC2.out]; rfl
        · exact below_of_grown (grown_own HG11.out hg12 (by intro i hi; right; simp at hi; omega))
end Go.Proofs.YtkfdaeipfjcibaaDoor
