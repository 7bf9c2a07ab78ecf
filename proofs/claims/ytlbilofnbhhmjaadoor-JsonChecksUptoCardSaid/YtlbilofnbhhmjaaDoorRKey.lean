/- The reference's reader: a key. -/
import Derived.Test.YtlbilofnbhhmjaaDoorRText
namespace Go.Proofs.YtlbilofnbhhmjaaDoor
open Go.RowKit
set_option linter.unusedVariables false
set_option linter.unusedSimpArgs false
/-- Texts that lie where a slice begins, apart from block b. -/
def KsAt (w : World) (b : Nat) (A : Option Addr) (ks : List ByteArray) : Prop := 0 < ks.length → ∃ c o, A = some ⟨c, o, none⟩ ∧ c ≠ b ∧ ∀ i k, ks[i]? = some k → w.cell? ⟨c, o + i, none⟩ = some (.string k)
theorem KsAt.grown {w w' : World} {b : Nat} {A : Option Addr} {ks : List ByteArray} (h : KsAt w b A ks) (hg : w.grownBy w' (some b)) : KsAt w' b A ks := fun h0 => by
  obtain ⟨c, o, e, hn, hc⟩ := h h0
  exact ⟨c, o, e, hn, fun i k hk => by have := hc i k hk; rw [grown_cell hg (block_lt_of_cell this) (by simpa using hn)]; exact this⟩
theorem any_snoc_false {l : List ByteArray} {k q : ByteArray} (h : l.any (fun x => decide (x = q)) = false) (h2 : k ≠ q) : (l ++ [k]).any (fun x => decide (x = q)) = false := by
  rw [List.any_append, h]; simp [h2]
theorem str_eq_list {a b : ByteArray} : (a.toList == b.toList) = decide (a = b) := by
  by_cases h : a = b
  · subst h; simp
  · simp only [h, decide_false, beq_eq_false_iff_ne, ne_eq]
    intro e
    apply h
    have h1 : a.toList = a.data.toList := ByteArray.toList_eq _
    have h2 : b.toList = b.data.toList := ByteArray.toList_eq _
    rw [h1, h2] at e
    have := Array.toList_inj.1 e
    cases a; cases b; simp at this; rw [this]
set_option maxHeartbeats 6400000 in
set_option maxRecDepth 100000 in
theorem rkey_any (b i : Nat) (s : ByteArray) (A : Option Addr) (c : Nat) (ks : List ByteArray) (w : World) (hr : Sc w b s i 0) (hk : KsAt w b A ks) (hs : s.size ≤ 1073741824) (hi : i ≤ s.size) (hkl : ks.length ≤ 256) :
    Calls Tryd.prog 75 #[.pointer (some ⟨b, 0, none⟩), .slice A ks.length c] w (RDoes (jkey s ks i) (fun k => .string k) noText b s w) := by
  obtain ⟨RES, hR⟩ : ∃ r, jkey s ks i = r := ⟨_, rfl⟩
  rw [hR]
  have HR := Lib.hid hR
  have Hr := Lib.hid hr
  have HK := Lib.hid hk
  clear hR hr hk
  obtain ⟨cc, hcc⟩ : ∃ c, ch s i = c := ⟨_, rfl⟩
  have Hcc := Lib.hid hcc
  clear hcc
  by_cases h34 : cc = 34
  · by_cases hl : ks.length = 256
    · have HE : Hid (RES = .no i 3) := Lib.hid (by rw [← HR.out]; unfold jkey; rw [Hcc.out, if_neg (by simp [h34]), if_pos hl])
      have bl : ((ks.length : Int) == 256) = true := by simp; omega
      subst h34
      clear hl
      go_enter Tryd.func75, Tryd.ntmps75
      go_wp2_with (first
        | (have _ := w1; go_at_call 37; refine (rfail_any b i i 0 3 s w1 Hr1.out).mono ?_; rintro e w2 ⟨rfl, hsc, hg⟩; have Hsc := Lib.hid hsc; have HG2 := Lib.hid hg; clear hsc hg)
        | (go_at_call 51; refine (rnext_any b i 0 s w Hr.out (by omega) (by omega)).mono ?_; rintro e w1 ⟨rfl, hg1⟩; rw [Hcc.out]; have Hr1 := Lib.hid (Hr.out.grown hg1 (by simp)); have Hg1 := Lib.hid hg1; have c1 := Hr1.out.i; clear hg1))
      go_ret
      rw [HE.out]
      exact ⟨grown_trans (grown_none Hg1.out _) HG2.out, ⟨_, rfl, rfl⟩, Hsc.out, by decide⟩
    · have bl : ((ks.length : Int) == 256) = false := by simp; omega
      have hlt : i < s.size := ch_pos (by rw [Hcc.out, h34]; decide)
      have HI : Hid (KeyIs s ks i RES) := Lib.hid (by rw [← HR.out]; exact keyIs (by rw [Hcc.out, h34]) hl)
      subst h34
      clear HR hl
      cases ht : text s i with
      | no j er =>
        have HT := Lib.hid ht
        clear ht
        go_enter Tryd.func75, Tryd.ntmps75
        go_wp2_with (first
          | (have _ := w1; go_at_call 55; refine (rtext_any b i s w1 Hr1.out hs hlt).mono ?_; intro e w2 hd; obtain ⟨v2, rfl, rfl, hsc, hne, hg⟩ := hd.no HT.out; have Hsc := Lib.hid hsc; have HG2 := Lib.hid hg; have ce := hsc.e; have bne : (er != 0) = true := (by simpa using hne); clear hsc hg hd)
          | (go_at_call 51; refine (rnext_any b i 0 s w Hr.out (by omega) (by omega)).mono ?_; rintro e w1 ⟨rfl, hg1⟩; rw [Hcc.out]; have Hr1 := Lib.hid (Hr.out.grown hg1 (by simp)); have Hg1 := Lib.hid hg1; have c1 := Hr1.out.i; clear hg1))
        go_ret
        rw [HI.out.no_ _ _ HT.out]
        exact ⟨grown_trans (grown_none Hg1.out _) HG2.out, ⟨_, rfl, rfl⟩, Hsc.out, hne⟩
      | ok l j =>
        have HT := Lib.hid ht
        obtain ⟨hj1, hj2, _⟩ := text_ok hlt ht
        clear ht
        obtain ⟨key, hkey⟩ : ∃ k, str l = k := ⟨_, rfl⟩
        have Hkey := Lib.hid hkey
        go_enter Tryd.func75, Tryd.ntmps75
        go_upto_region 11 with (first
          | (have _ := w1; go_at_call 55; refine (rtext_any b i s w1 Hr1.out hs hlt).mono ?_; intro e w2 hd; obtain ⟨rfl, hsc, hg⟩ := hd.ok HT.out; have Hsc := Lib.hid hsc; have HG2 := Lib.hid hg; have ce := hsc.e; have ci := hsc.i; clear hsc hg hd)
          | (go_at_call 51; refine (rnext_any b i 0 s w Hr.out (by omega) (by omega)).mono ?_; rintro e w1 ⟨rfl, hg1⟩; rw [Hcc.out]; have Hr1 := Lib.hid (Hr.out.grown hg1 (by simp)); have Hg1 := Lib.hid hg1; have c1 := Hr1.out.i; clear hg1))
        have HK2 := Lib.hid ((HK.out.grown (grown_none Hg1.out _)).grown HG2.out)
        have HG := Lib.hid (grown_trans (grown_none Hg1.out (some b)) HG2.out)
        clear hkey c1 ce HG2 Hg1 Hr1
        go_wp2_with fail
        go_loop [7] (fun v => ∃ m : Nat, m ≤ ks.length ∧ v = .int .i64 (m : Int) ∧ Hid ((ks.take m).any (fun q => decide (q = key)) = false)) (fun v => ks.length - (intOf v).toNat)
        case atStart => exact ⟨0, by omega, rfl, Lib.hid rfl⟩
        case round =>
          obtain ⟨m, hm, rfl, HM⟩ := hrel
          by_cases hlt2 : m < ks.length
          · obtain ⟨q, hq⟩ : ∃ q, ks[m]? = some q := ⟨_, List.getElem?_eq_getElem hlt2⟩
            obtain ⟨ab, ao, rfl, hne, hcell⟩ := HK2.out (by omega)
            have cq := hcell m q hq
            have e1 : (m : Int) < (ks.length : Int) := by omega
            have Htk : Hid (ks.take (m + 1) = ks.take m ++ [q]) := Lib.hid (by rw [List.take_add_one, hq]; rfl)
            have Hmem := Lib.hid (List.mem_of_getElem? hq)
            clear hcell hq
            by_cases hqk : q = key
            · have bq : (q.toList == key.toList) = true := by rw [str_eq_list]; simpa using hqk
              have HE : Hid (RES = .no i 132) := Lib.hid (HI.out.twice _ _ HT.out (by rw [Hkey.out, List.any_eq_true]; exact ⟨q, Hmem.out, by simpa using hqk⟩))
              clear hqk
              go_wp2_with (go_at_call 37; refine (rfail_any b j i 0 132 s w2 Hsc.out).mono ?_; rintro e w3 ⟨rfl, hsc, hg⟩; have Hsc3 := Lib.hid hsc; have HG3 := Lib.hid hg; clear hsc hg)
              go_ret
              rw [HE.out]
              exact ⟨grown_trans HG.out HG3.out, ⟨_, rfl, rfl⟩, Hsc3.out, by decide⟩
            · have bq : (q.toList == key.toList) = false := by rw [str_eq_list]; simpa using hqk
              have Hqk := Lib.hid hqk
              clear hqk
              go_wp2_with fail
              go_round
              case rel => exact ⟨m + 1, by omega, by go_num, Lib.hid (by rw [Htk.out]; exact any_snoc_false HM.out Hqk.out)⟩
              case measure => simp [intOf]; omega
          · obtain rfl : m = ks.length := by omega
            have HN : Hid (ks.any (fun q => decide (q = key)) = false) := Lib.hid (by have := HM.out; rwa [List.take_length] at this)
            have hk3 := skip_le hj2
            obtain ⟨j3, hj3⟩ : ∃ x, skip s j = x := ⟨_, rfl⟩
            rw [hj3] at hk3
            have Hj3 := Lib.hid hj3
            obtain ⟨c3, hc3⟩ : ∃ c, ch s j3 = c := ⟨_, rfl⟩
            have Hc3 := Lib.hid hc3
            clear HM hj3 hc3 hlt2 ci
            go_upto_region 18 with (go_at_call 35; refine (rblanks_any b j 0 s w2 Hsc.out (by omega) hj2).mono ?_; rintro e w3 ⟨rfl, hsc, hg⟩; rw [Hj3.out] at hsc; have Hsc3 := Lib.hid hsc; have HG3 := Lib.hid (grown_trans HG.out hg); clear hsc hg)
            by_cases h58 : c3 = 58
            · have hlt3 : j3 < s.size := ch_pos (by rw [Hc3.out, h58]; decide)
              have HE : Hid (RES = .ok key (skip s (j3 + 1))) := Lib.hid (by rw [HI.out.done _ _ HT.out (by rw [Hkey.out]; exact HN.out) (by rw [Hj3.out, Hc3.out, h58]), Hkey.out, Hj3.out])
              subst h58
              go_upto_region 22 with (go_at_call 51; refine (rnext_any b j3 0 s w3 Hsc3.out (by omega) (by omega)).mono ?_; rintro e w4 ⟨rfl, hg1⟩; rw [Hc3.out]; have Hsc4 := Lib.hid (Hsc3.out.grown hg1 (by simp)); have HG4 := Lib.hid (grown_trans HG3.out (grown_none hg1 _)); have c1 := Hsc4.out.i; have d1 := Hsc4.out.free 1; clear hg1)
              have e3 : (j3 : Int) + 1 = ((j3 + 1 : Nat) : Int) := by omega
              rw [e3]
              clear e3
              have HG5 : Hid (w.grownBy (w4.setCell ⟨b, 1, none⟩ (.int .i64 ((j3 + 1 : Nat) : Int))) (some b)) := Lib.hid (grown_set HG4.out (.inl rfl) _ _)
              have Hsc5 := Lib.hid (Hsc4.out.set (j3 + 1))
              generalize hw5 : w4.setCell ⟨b, 1, none⟩ (.int .i64 ((j3 + 1 : Nat) : Int)) = w5 at HG5 Hsc5 ⊢
              clear hw5 c1 d1
              go_wp2_with (go_at_call 35; refine (rblanks_any b (j3 + 1) 0 s w5 Hsc5.out (by omega) (by omega)).mono ?_; rintro e w6 ⟨rfl, hsc, hg⟩; have Hsc6 := Lib.hid hsc; have HG6 := Lib.hid (grown_trans HG5.out hg); clear hsc hg)
              go_ret
              rw [HE.out]
              exact ⟨HG6.out, rfl, Hsc6.out⟩
            · have HE : Hid (RES = .no j3 130) := Lib.hid (by rw [HI.out.colon _ _ HT.out (by rw [Hkey.out]; exact HN.out) (by rw [Hj3.out, Hc3.out]; exact h58), Hj3.out])
              have b58 : (c3 != 58) = true := by simpa using h58
              clear h58
              go_wp2_with (first
                | (have _ := w4; go_at_call 37; refine (rfail_any b j3 j3 0 130 s w4 Hsc4.out).mono ?_; rintro e w5 ⟨rfl, hsc, hg⟩; have Hsc5 := Lib.hid hsc; have HG5 := Lib.hid (grown_trans HG4.out hg); clear hsc hg)
                | (go_at_call 51; refine (rnext_any b j3 0 s w3 Hsc3.out (by omega) (by omega)).mono ?_; rintro e w4 ⟨rfl, hg1⟩; rw [Hc3.out]; have Hsc4 := Lib.hid (Hsc3.out.grown hg1 (by simp)); have HG4 := Lib.hid (grown_trans HG3.out (grown_none hg1 _)); have c1 := Hsc4.out.i; clear hg1))
              go_ret
              rw [HE.out]
              exact ⟨HG5.out, ⟨_, rfl, rfl⟩, Hsc5.out, by decide⟩
  · have HE : Hid (RES = .no i 130) := Lib.hid (by rw [← HR.out]; unfold jkey; rw [Hcc.out, if_pos h34])
    have b34 : (cc != 34) = true := by simpa using h34
    clear h34 HR
    go_enter Tryd.func75, Tryd.ntmps75
    go_wp2_with (first
      | (have _ := w1; go_at_call 37; refine (rfail_any b i i 0 130 s w1 Hr1.out).mono ?_; rintro e w2 ⟨rfl, hsc, hg⟩; have Hsc := Lib.hid hsc; have HG2 := Lib.hid hg; clear hsc hg)
      | (go_at_call 51; refine (rnext_any b i 0 s w Hr.out (by omega) (by omega)).mono ?_; rintro e w1 ⟨rfl, hg1⟩; rw [Hcc.out]; have Hr1 := Lib.hid (Hr.out.grown hg1 (by simp)); have Hg1 := Lib.hid hg1; have c1 := Hr1.out.i; clear hg1))
    go_ret
    rw [HE.out]
    exact ⟨grown_trans (grown_none Hg1.out _) HG2.out, ⟨_, rfl, rfl⟩, Hsc.out, by decide⟩
end Go.Proofs.YtlbilofnbhhmjaaDoor
