/- json's reader: members, at an object's bracket. -/
import Derived.Test.YtlbilofnbhhmjaaGreatDoorOb
namespace Go.Proofs.YtlbilofnbhhmjaaGreatDoor
open Go.RowKit
set_option linter.unusedVariables false
set_option linter.unusedSimpArgs false
set_option maxHeartbeats 6400000 in
set_option maxRecDepth 100000 in
theorem object_any (b i : Nat) (dep : Int) (s : ByteArray) (val : Nat → R J) (w : World) (hV : ValIs s b dep val) (hr : Rd w b s i) (hs : s.size ≤ 1073741824) (hi : i < s.size) (hT : Lib.Utf8Tabs 1 2 w) (hb : 2 < b) (hd0 : 0 ≤ dep) (hd1 : dep ≤ 1000) :
    Calls Tryz.prog 43 #[.pointer (some ⟨b, 0, none⟩), .int .i64 dep, .int .u8 123] w (DoesJ (members s val true i) b s w) := by
  obtain ⟨RES, hR⟩ : ∃ r, members s val true i = r := ⟨_, rfl⟩
  rw [hR]
  have HR := Lib.hid hR
  have Hr := Lib.hid hr
  have HT := Lib.hid hT
  have HV := Lib.hid hV
  have hmm := @run_makeMap Tryz.prog
  have H1 := Lib.hid (show ∀ v ∈ five 4 (.slice none 0 0) (.slice none 0 0), v.oneCell' = true by decide)
  clear hR hr hT hV
  go_enter Tryz.func43, Tryz.ntmps43
  go_upto_region 6 with (first
    | (have _ := w2; refine wpList_store_Row rfl 26 _ _ rfl w1.heap.size (five 4 (.slice none 0 0) (.slice none 0 0)) rfl rfl 26 zero5 hr2 size29 rfl H1.out ?_; intro w3 hr3 hg3 hs3; clear hs3; have c3 : w3.cell? ⟨w1.heap.size, 0, none⟩ = some (.int .i8 4) := hr3.at_ rfl; have d3 : w3.frozen? ⟨w1.heap.size, 0, none⟩ = false := hr3.frozen 0; simp only [Act.put, List.setIfInBounds_toArray, List.set_cons_zero, List.set_cons_succ])
    | (have _ := w1; refine wpList_alloc_abs rfl 26 rfl zero5 _ (zero29 _) rfl ?_; intro w2 hr2 hg2 hs2; clear hs2; simp only [Act.put, List.setIfInBounds_toArray, List.set_cons_zero, List.set_cons_succ])
    | (refine wpList_alloc_abs rfl 26 rfl zero5 _ (zero29 _) rfl ?_; intro w1 hr1 hg1 hs1; have Hs1 := Lib.hid hs1; clear hs1; simp only [Act.put, List.setIfInBounds_toArray, List.set_cons_zero, List.set_cons_succ]))
  have hlt0 : w1.heap.size < w3.heap.size := hr3.lt
  have hlt1 : w.heap.size < w1.heap.size := by have := Hs1.out; omega
  obtain ⟨W3, hW3⟩ : ∃ W, w3.setCell ⟨w1.heap.size, 0, none⟩ (.int .i8 5) = W := ⟨_, rfl⟩
  have hs5 : W3.heap.size = w3.heap.size := by rw [← hW3]; simp
  have hr5 : Row W3 w1.heap.size 26 (five 5 (.slice none 0 0) (.slice none 0 0)) := by rw [← hW3]; exact hr3.set 0 _
  have hg5 : w.grownBy W3 none := by rw [← hW3]; exact grown_set (grown_own (grown_own hg1 hg2 (by simp)) hg3 (fun x hx => .inr (by have := Option.some.inj hx; omega))) (.inr (by omega)) _ _
  have hb5 : Row W3 w.heap.size 26 zero5 := by rw [← hW3]; exact ((hr1.grown hg2 (by simp)).grown hg3 (by simp; omega)).grown (grown_set (grown_refl w3 (some w1.heap.size)) (.inl rfl) _ _) (by simp; omega)
  rw [hW3]
  try rw [← hs5]
  rw [← hs5] at hlt0
  clear hW3
  have hg4 : w.grownBy (W3.alloc (.map #[] 0)) none := grown_alloc hg5 _
  have hBr : Row (W3.alloc (.map #[] 0)) w.heap.size 26 zero5 := hb5.alloc _
  have hBj : Row (W3.alloc (.map #[] 0)) w1.heap.size 26 (five 5 (.slice none 0 0) (.slice none 0 0)) := hr5.alloc _
  have hBm : Seen (W3.alloc (.map #[] 0)) W3.heap.size [] := seen_new W3
  have hw3 : (W3.alloc (.map #[] 0)).heap.size = W3.heap.size + 1 := by simp
  obtain ⟨N0, hN0⟩ : ∃ n, w.heap.size = n := ⟨_, rfl⟩
  have HNW : Hid (w.heap.size ≤ N0) := Lib.hid (by omega)
  obtain ⟨Bj, hBjn⟩ : ∃ n, w1.heap.size = n := ⟨_, rfl⟩
  obtain ⟨Bm, hBmn⟩ : ∃ n, W3.heap.size = n := ⟨_, rfl⟩
  obtain ⟨W4, hW4⟩ : ∃ W, W3.alloc (.map #[] 0) = W := ⟨_, rfl⟩
  rw [hW4] at hg4 hBr hBj hBm hw3 ⊢
  rw [hN0] at hBr hlt1 ⊢
  rw [hBjn] at hBj hlt0 hlt1 ⊢
  rw [hBmn] at hBm hlt0 hw3 ⊢
  have HD : Hid (b < N0 ∧ N0 < Bj ∧ Bj < Bm ∧ Bm < W4.heap.size) := Lib.hid ⟨by rw [← hN0]; exact Hr.out.lt, by omega, by omega, by omega⟩
  have HBW : Hid (w.heap.size ≤ Bm) := Lib.hid (by omega)
  have Hr4 : Hid (Rd W4 b s i) := Lib.hid (Hr.out.grown hg4 (by simp))
  have HT4 : Hid (Lib.Utf8Tabs 1 2 W4) := Lib.hid (tabs_grown HT.out hg4 (by simp) (by simp))
  have HG4 := Lib.hid hg4
  have HBr := Lib.hid hBr
  have HBj := Lib.hid hBj
  have HBm := Lib.hid hBm
  clear Hs1 hg1 hg2 hg3 hr1 hr2 hr3 hg4 hBr hBj hBm hlt0 hlt1 hw3 hN0 hBjn hBmn hW4 hs5 hr5 hg5 hb5 c3 d3 w3 w2 w1 W3
  have c1 := Hr4.out.i
  have d1 := Hr4.out.free 1
  obtain ⟨N, hN⟩ : ∃ n, W4.heap.size = n := ⟨_, rfl⟩
  rw [hN] at HD
  have HN := Lib.hid hN
  clear hN
  go_wp2_with fail
  have HO0 : Hid (ObAt w (W4.setCell ⟨b, 1, none⟩ (.int .i64 ((i + 1 : Nat) : Int))) b s (i + 1) N N0 Bj [] [] (.slice none 0 0) (.slice none 0 0) [] []) := Lib.hid (by
    have hd := HD.out
    have hgs := grown_set (grown_refl W4 (some b)) (.inl rfl) 1 (.int .i64 ((i + 1 : Nat) : Int))
    exact ⟨⟨Hr4.out.set (i + 1), HBr.out.grown hgs (by simp; omega), HBj.out.grown hgs (by simp; omega), grown_trans (grown_none HG4.out _) hgs, by rw [← HN.out]; exact hgs.size⟩, rows_nil _ _, World.ownsRow_nil _ _ _ _, fun g h => by cases h⟩)
  have HSn0 : Hid (Seen (W4.setCell ⟨b, 1, none⟩ (.int .i64 ((i + 1 : Nat) : Int))) Bm []) := Lib.hid (HBm.out.kept (grown_set (grown_refl W4 (some b)) (.inl rfl) 1 (.int .i64 ((i + 1 : Nat) : Int))) (by have := HD.out; simp; omega))
  have HI0 : Hid ((ch s (skip s (i + 1)) = 125 → RES = .ok (.mk 5 false ⟨#[]⟩ [] []) (skip s (i + 1) + 1)) ∧ (ch s (skip s (i + 1)) ≠ 125 → itemsN s val true (s.size + 1) (skip s (i + 1)) [] [] = RES)) := Lib.hid (by
    refine ⟨fun h => ?_, fun h => ?_⟩
    · rw [← HR.out]; unfold members; simp only [if_true]; rw [if_pos h]
    · rw [← HR.out]; unfold members; simp only [if_true]; rw [if_neg h])
  generalize hW5 : W4.setCell ⟨b, 1, none⟩ (.int .i64 ((i + 1 : Nat) : Int)) = W5 at HO0 HSn0
  rw [show W4.setCell ⟨b, 1, none⟩ (.int .i64 ((i : Int) + 1)) = W5 from hW5]
  have HT5 : Hid (Lib.Utf8Tabs 1 2 W5) := Lib.hid (by rw [← hW5]; exact tabs_grown HT4.out (grown_set (grown_refl W4 (some b)) (.inl rfl) _ _) (by simp; omega) (by simp; omega))
  clear hW5 c1 d1 HBr HBj HBm Hr4 HT4 HG4
  go_loopg [] (s.size - (i + 1)) (fun d wr => ∃ (f p : Nat) (ks : List ByteArray) (ls : List J) (vk vl : Value) (xs : List Value) (G : List Nat), p ≤ s.size ∧ d = s.size - p ∧ s.size + 1 ≤ f + p ∧ ks.length ≤ 256 ∧ ls.length = ks.length ∧ Hid (ObAt w wr b s p N N0 Bj ks ls vk vl xs G) ∧ Hid (Seen wr Bm ks) ∧
    Hid ((ls = [] → ch s (skip s p) = 125 → RES = .ok (.mk 5 false ⟨#[]⟩ [] []) (skip s p + 1)) ∧ ((ls ≠ [] ∨ ch s (skip s p) ≠ 125) → itemsN s val true f (skip s p) ks ls = RES)))
  case atStart => exact ⟨s.size + 1, i + 1, [], [], _, _, [], [], by omega, rfl, by omega, by simp, rfl, HO0, HSn0, Lib.hid ⟨fun _ => HI0.out.1, fun h => HI0.out.2 (by rcases h with h | h; exact absurd rfl h; exact h)⟩⟩
  case round =>
    clear HO0 HSn0 HI0 HR
    obtain ⟨f, p, ks, ls, vk, vl, xs, G, hp, rfl, hf, hkl, hkls, HO, HSn, HI⟩ := hrel
    obtain ⟨A, cp, rfl, hA, hcp⟩ := ownsRow_val HO.out.rows.1
    obtain ⟨A9, cp9, rfl, hA9, hcp9⟩ := ownsRow_val HO.out.keys
    have HKL := Lib.hid hkls
    have HT0 : Hid (Lib.Utf8Tabs 1 2 wr) := Lib.hid (tabs_grown HT.out HO.out.at_.grown (by simp; omega) (by simp; omega))
    have Hbn : Hid (N0 ≠ b ∧ Bj ≠ b ∧ b < N) := Lib.hid (by have := HD.out; exact ⟨by omega, by omega, by omega⟩)
    have Hbm : Hid (Bm ≠ b ∧ Bm < N) := Lib.hid (by have := HD.out; exact ⟨by omega, by omega⟩)
    have hq1 := skip_ge s p
    have hq2 := skip_le hp
    have hsk := skip_any b p s wr HO.out.at_.rd (by omega) hp
    obtain ⟨q, hq⟩ : ∃ q, skip s p = q := ⟨_, rfl⟩
    rw [hq] at hq1 hq2 HI hsk
    obtain ⟨c, hc⟩ : ∃ c, ch s q = c := ⟨_, rfl⟩
    rw [hc] at HI hsk
    have Hsk := Lib.hid hsk
    have Hc := Lib.hid hc
    clear hq hc hsk hcp hA hcp9 hA9
    by_cases hx : ls = [] ∧ c = 125
    · obtain ⟨rfl, rfl⟩ := hx
      have HE := Lib.hid (HI.out.1 rfl rfl)
      obtain rfl : ks = [] := by cases ks with
        | nil => rfl
        | cons a t => simp at hkls
      have Hvl : Hid (∀ u ∈ five 5 (.slice A9 0 cp9) (.slice A 0 cp), u.oneCell' = true) := Lib.hid (by intro u hu; simp [five] at hu; rcases hu with rfl | rfl | rfl | rfl | rfl <;> rfl)
      go_wp2_with (first
        | (have _ := w1; refine wpList_load_Row rfl 26 _ rfl Bj rfl (five 5 (.slice A9 0 cp9) (.slice A 0 cp)) 26 (Row.set_other HO1.out.at_.loc Hbn.out.2.1 _ _) _ Tryz.underlying26 rfl size29 ?_; simp only [Act.put, List.setIfInBounds_toArray, List.set_cons_zero, List.set_cons_succ])
        | (have _ := w1; refine wpList_store_Row rfl 26 _ _ rfl N0 (five 5 (.slice A9 0 cp9) (.slice A 0 cp)) rfl rfl 26 zero5 (Row.set_other HO1.out.at_.res Hbn.out.1 _ _) size29 rfl Hvl.out ?_; intro w2 hr2 hg2 hs2; clear hs2; simp only [Act.put, List.setIfInBounds_toArray, List.set_cons_zero, List.set_cons_succ])
        | (go_at_call 27; refine Hsk.out.mono ?_; rintro e w1 ⟨rfl, hrd1, hg1⟩
           have HO1 := Lib.hid (HO.out.kept hg1 hrd1 Hbn.out.1 Hbn.out.2.1 Hbn.out.2.2 (.inl rfl))
           have cL : w1.cell? ⟨Bj, 4, none⟩ = some (.slice A 0 cp) := HO1.out.at_.loc.at_ rfl
           have c1 := HO1.out.at_.rd.i
           have d1 := HO1.out.at_.rd.free 1
           clear hrd1 hg1))
      refine bodyPost_ret (v := .agg (five 5 (.slice A9 0 cp9) (.slice A 0 cp)).toArray) (results_cell_row (p := 6) (ty := 26) rfl _ _ N0 26 (five 5 (.slice A9 0 cp9) (.slice A 0 cp)).toArray (0, 0) _ rfl hr2 Tryz.underlying26 rfl size29) rfl ?_
      rw [HE.out]
      exact HO1.out.at_.done HO1.out.rows HO1.out.keys HO1.out.apart hr2 hg2 HNW.out (by have := HD.out; omega) (by have := HD.out; omega)
    · have Hx : Hid (ls ≠ [] ∨ c ≠ 125) := Lib.hid (by by_cases h : ls = []; exact .inr (fun e => hx ⟨h, e⟩); exact .inl h)
      clear hkls
      obtain ⟨f, rfl⟩ : ∃ g, f = g + 1 := ⟨f - 1, by omega⟩
      have HLI : Hid (ObIs s val f q ks ls RES) := Lib.hid (by rw [← HI.out.2 Hx.out]; exact obIs s val f q ks ls)
      cases hkey : jkey s ks q with
      | no j er =>
        have HX := Lib.hid hkey
        have HE := Lib.hid (HLI.out.keyNo _ _ hkey)
        clear hkey
        by_cases h125 : c = 125
        · have b125 : (c != 125) = false := by simpa using h125
          have lpos : 0 < ls.length := by
            rcases Hx.out with h2 | h2
            · exact List.length_pos_iff.2 h2
            · exact absurd h125 h2
          clear h125
          go_wp2_with (first
            | (go_at_call 27; refine Hsk.out.mono ?_; rintro e w1 ⟨rfl, hrd1, hg1⟩
               have HO1 := Lib.hid (HO.out.kept hg1 hrd1 Hbn.out.1 Hbn.out.2.1 Hbn.out.2.2 (.inl rfl))
               have Hsn1 := Lib.hid (HSn.out.kept hg1 (by simpa using Hbm.out.1))
               have HT1 : Hid (Lib.Utf8Tabs 1 2 w1) := Lib.hid (tabs_grown HT0.out hg1 (by simp; omega) (by simp; omega))
               have cL : w1.cell? ⟨Bj, 4, none⟩ = some (.slice A ls.length cp) := HO1.out.at_.loc.at_ rfl
               have cK : w1.cell? ⟨Bj, 3, none⟩ = some (.slice A9 ks.length cp9) := HO1.out.at_.loc.at_ rfl
               have c1 := HO1.out.at_.rd.i
               have d1 := HO1.out.at_.rd.free 1
               clear hrd1 hg1))
          refine wp_region_any (by kernel_rfl) ?_
          change wpAny _ _ _ _ _ _ _ (World.drew _)
          refine wpAny_take (i := 0) (v := ?vq1) rfl (by kernel_rfl) (by kernel_rfl) (by kernel_rfl) (fun _ _ _ h => h) (Or.inl ⟨by rfl, ?hq1⟩) ?rq1
          case hq1 => intro w; go_simp <;> with_reducible rfl
          refine wpAny_take (i := 2) (v := ?vq2) rfl (by kernel_rfl) (by kernel_rfl) (by kernel_rfl) (fun _ _ _ h => h) (Or.inl ⟨by rfl, ?hq2⟩) ?rq2
          case hq2 => intro w; go_simp <;> with_reducible rfl
          refine wpAny_take (i := 3) (v := ?vq3) rfl (by kernel_rfl) (by kernel_rfl) (by kernel_rfl) (fun _ _ _ h => h) (Or.inl ⟨by rfl, ?hq3⟩) ?rq3
          case hq3 => intro w; go_simp <;> with_reducible rfl
          refine wpAny_ready (rs := [1, 4]) (by kernel_rfl) (by simp) ?_
          refine AllReady.cons rfl (fun K hK => ?_) ?_
          · go_simp
            refine hK _ _ ?_
            clear hK K
            refine wpAny_ready (rs := [4]) (by kernel_rfl) (by simp) ?_
            refine AllReady.cons rfl (fun K hK => ?_) AllReady.nil
            go_simp
            refine (key_any b Bm q s ks _ (HO1.out.at_.rd.drewN 1) (Hsn1.out.kept (grown_drewN (grown_refl w1 none) 1) (by simp)) hs hq2 (tabs_grown HT1.out (grown_drewN (grown_refl w1 none) 1) (by simp) (by simp)) hb Hbm.out.1 (Nat.lt_of_lt_of_le Hbm.out.2 HO1.out.at_.big) hkl).mono ?_
            intro e wz hd
            obtain ⟨wx, rfl, hgx, hgz⟩ := hd.no HX.out
            have Hgz : Hid (w1.grownBy wx (some b)) := Lib.hid ⟨hgx.os, hgx.tape, hgx.output, hgx.size, hgx.block⟩
            exact ⟨rfl, by rw [HE.out]; exact ⟨grown_own (grown_trans HO1.out.at_.grown Hgz.out) hgz (fun x hx => .inr (by have := Option.some.inj hx; have := HBW.out; omega)), rfl⟩⟩
          · refine AllReady.cons rfl (fun K hK => ?_) AllReady.nil
            go_simp
            refine (key_any b Bm q s ks _ (HO1.out.at_.rd.drewN 1) (Hsn1.out.kept (grown_drewN (grown_refl w1 none) 1) (by simp)) hs hq2 (tabs_grown HT1.out (grown_drewN (grown_refl w1 none) 1) (by simp) (by simp)) hb Hbm.out.1 (Nat.lt_of_lt_of_le Hbm.out.2 HO1.out.at_.big) hkl).mono ?_
            intro e wz hd
            obtain ⟨wx, rfl, hgx, hgz⟩ := hd.no HX.out
            have Hgz : Hid (w1.grownBy wx (some b)) := Lib.hid ⟨hgx.os, hgx.tape, hgx.output, hgx.size, hgx.block⟩
            exact ⟨rfl, by rw [HE.out]; exact ⟨grown_own (grown_trans HO1.out.at_.grown Hgz.out) hgz (fun x hx => .inr (by have := Option.some.inj hx; have := HBW.out; omega)), rfl⟩⟩
        · have b125 : (c != 125) = true := by simpa using h125
          clear h125
          go_wp2_with (first
            | (go_at_call 27; refine Hsk.out.mono ?_; rintro e w1 ⟨rfl, hrd1, hg1⟩
               have HO1 := Lib.hid (HO.out.kept hg1 hrd1 Hbn.out.1 Hbn.out.2.1 Hbn.out.2.2 (.inl rfl))
               have Hsn1 := Lib.hid (HSn.out.kept hg1 (by simpa using Hbm.out.1))
               have HT1 : Hid (Lib.Utf8Tabs 1 2 w1) := Lib.hid (tabs_grown HT0.out hg1 (by simp; omega) (by simp; omega))
               have cL : w1.cell? ⟨Bj, 4, none⟩ = some (.slice A ls.length cp) := HO1.out.at_.loc.at_ rfl
               have cK : w1.cell? ⟨Bj, 3, none⟩ = some (.slice A9 ks.length cp9) := HO1.out.at_.loc.at_ rfl
               have c1 := HO1.out.at_.rd.i
               have d1 := HO1.out.at_.rd.free 1
               clear hrd1 hg1))
          refine wp_region_any (by kernel_rfl) ?_
          change wpAny _ _ _ _ _ _ _ (World.drew _)
          refine wpAny_take (i := 0) (v := ?vq4) rfl (by kernel_rfl) (by kernel_rfl) (by kernel_rfl) (fun _ _ _ h => h) (Or.inl ⟨by rfl, ?hq4⟩) ?rq4
          case hq4 => intro w; go_simp <;> with_reducible rfl
          refine wpAny_take (i := 2) (v := ?vq5) rfl (by kernel_rfl) (by kernel_rfl) (by kernel_rfl) (fun _ _ _ h => h) (Or.inl ⟨by rfl, ?hq5⟩) ?rq5
          case hq5 => intro w; go_simp <;> with_reducible rfl
          refine wpAny_take (i := 3) (v := ?vq6) rfl (by kernel_rfl) (by kernel_rfl) (by kernel_rfl) (fun _ _ _ h => h) (Or.inl ⟨by rfl, ?hq6⟩) ?rq6
          case hq6 => intro w; go_simp <;> with_reducible rfl
          refine wpAny_ready (rs := [1, 4]) (by kernel_rfl) (by simp) ?_
          refine AllReady.cons rfl (fun K hK => ?_) ?_
          · go_simp
            refine hK _ _ ?_
            clear hK K
            refine wpAny_ready (rs := [4]) (by kernel_rfl) (by simp) ?_
            refine AllReady.cons rfl (fun K hK => ?_) AllReady.nil
            go_simp
            refine (key_any b Bm q s ks _ (HO1.out.at_.rd.drewN 1) (Hsn1.out.kept (grown_drewN (grown_refl w1 none) 1) (by simp)) hs hq2 (tabs_grown HT1.out (grown_drewN (grown_refl w1 none) 1) (by simp) (by simp)) hb Hbm.out.1 (Nat.lt_of_lt_of_le Hbm.out.2 HO1.out.at_.big) hkl).mono ?_
            intro e wz hd
            obtain ⟨wx, rfl, hgx, hgz⟩ := hd.no HX.out
            have Hgz : Hid (w1.grownBy wx (some b)) := Lib.hid ⟨hgx.os, hgx.tape, hgx.output, hgx.size, hgx.block⟩
            exact ⟨rfl, by rw [HE.out]; exact ⟨grown_own (grown_trans HO1.out.at_.grown Hgz.out) hgz (fun x hx => .inr (by have := Option.some.inj hx; have := HBW.out; omega)), rfl⟩⟩
          · refine AllReady.cons rfl (fun K hK => ?_) AllReady.nil
            go_simp
            refine (key_any b Bm q s ks _ (HO1.out.at_.rd.drewN 1) (Hsn1.out.kept (grown_drewN (grown_refl w1 none) 1) (by simp)) hs hq2 (tabs_grown HT1.out (grown_drewN (grown_refl w1 none) 1) (by simp) (by simp)) hb Hbm.out.1 (Nat.lt_of_lt_of_le Hbm.out.2 HO1.out.at_.big) hkl).mono ?_
            intro e wz hd
            obtain ⟨wx, rfl, hgx, hgz⟩ := hd.no HX.out
            have Hgz : Hid (w1.grownBy wx (some b)) := Lib.hid ⟨hgx.os, hgx.tape, hgx.output, hgx.size, hgx.block⟩
            exact ⟨rfl, by rw [HE.out]; exact ⟨grown_own (grown_trans HO1.out.at_.grown Hgz.out) hgz (fun x hx => .inr (by have := Option.some.inj hx; have := HBW.out; omega)), rfl⟩⟩
      | ok k j =>
        obtain ⟨hj1, hj2, hj3, hj4⟩ := jkey_ok hq2 hkey
        have HX := Lib.hid hkey
        have b125 : (c != 125) = true := by
          have : c = 34 := by rw [← Hc.out]; exact hj3
          rw [this]; rfl
        have b256 : ((ls.length : Int) == 256) = false := by have := HKL.out; simp; omega
        have hkl2 : ks.length < 256 := by omega
        clear hkey hj3 hj4
        go_upto_region 9 with (first
          | (go_at_call 27; refine Hsk.out.mono ?_; rintro e w1 ⟨rfl, hrd1, hg1⟩
             have HO1 := Lib.hid (HO.out.kept hg1 hrd1 Hbn.out.1 Hbn.out.2.1 Hbn.out.2.2 (.inl rfl))
             have Hsn1 := Lib.hid (HSn.out.kept hg1 (by simpa using Hbm.out.1))
             have HT1 : Hid (Lib.Utf8Tabs 1 2 w1) := Lib.hid (tabs_grown HT0.out hg1 (by simp; omega) (by simp; omega))
             have cL : w1.cell? ⟨Bj, 4, none⟩ = some (.slice A ls.length cp) := HO1.out.at_.loc.at_ rfl
             have cK : w1.cell? ⟨Bj, 3, none⟩ = some (.slice A9 ks.length cp9) := HO1.out.at_.loc.at_ rfl
             have c1 := HO1.out.at_.rd.i
             have d1 := HO1.out.at_.rd.free 1
             clear hrd1 hg1))
        go_cut [] (fun wx => ∃ (vk' : Value), Hid (ObAt w wx b s j N N0 Bj (ks ++ [k]) ls vk' (.slice A ls.length cp) xs G) ∧ Hid (Seen wx Bm (ks ++ [k])))
        case first =>
          have hln : ks.length ≤ 1073741824 := by omega
          go_region_law
            (first
              | (have _ := w2; refine step_append9 rfl (.tmp 35) (.tmp 39) rfl N (.slice A9 ks.length cp9) ks.length (ks.map Value.string) rfl HO3.out.keys w2.heap.size k rfl Hr3.out hln HO3.out.at_.big ?_
                 intro v5 w4 ho4 hg4 hl4
                 obtain ⟨A5, c5, rfl, -, -⟩ := ownsRow_val ho4
                 have Hst := Lib.hid (HO2.out.key Hg3.out ho4 hg4 hl4 HNW.out HD.out.1 HD.out.2.1 (Nat.lt_trans HD.out.2.2.1 HD.out.2.2.2))
                 have hb4 : Row w4 Bj 26 (five 5 (.slice A9 ks.length cp9) (.slice A ls.length cp)) := HO3.out.at_.loc.grown hg4 (fun e => by have := (World.ownsRow.lt HO3.out.keys Bj e.symm).1; have := HD.out; omega)
                 have c4 : w4.cell? ⟨Bj, 3, none⟩ = some (.slice A9 ks.length cp9) := hb4.at_ rfl
                 have d4 : w4.frozen? ⟨Bj, 3, none⟩ = false := hb4.frozen 3
                 have Hsn5 : Hid (Seen (w4.setCell ⟨Bj, 3, none⟩ (.slice A5 (ks.length + 1) c5)) Bm (ks ++ [k])) := Lib.hid ((Hsn3.out.kept hg4 (fun e => by have := (World.ownsRow.lt HO3.out.keys Bm e.symm).1; have := HD.out; omega)).kept (grown_set (grown_refl w4 (some Bj)) (.inl rfl) _ _) (by have := HD.out; simp; omega))
                 clear ho4 hg4 hl4 hb4)
              | (go_simp; go_at_call 67; refine (key_any b Bm q s ks _ (HO1.out.at_.rd.drewN 1) (Hsn1.out.kept (grown_drewN (grown_refl w1 none) 1) (by simp)) hs hq2 (tabs_grown HT1.out (grown_drewN (grown_refl w1 none) 1) (by simp) (by simp)) hb Hbm.out.1 (Nat.lt_of_lt_of_le Hbm.out.2 HO1.out.at_.big) hkl).mono ?_
                 intro e w2 hd
                 obtain ⟨wx, rfl, hrd, hsn, hgx, hg⟩ := hd.ok HX.out
                 have Hgx : Hid (w1.grownBy wx (some b)) := Lib.hid ⟨hgx.os, hgx.tape, hgx.output, hgx.size, hgx.block⟩
                 have HO2 := Lib.hid (HO1.out.kept2 Hgx.out hg hrd Hbn.out.1 Hbn.out.2.1 Hbn.out.2.2 (by have := HD.out; omega) (by have := HD.out; omega) Hbm.out.2 HBW.out)
                 have cK2 : w2.cell? ⟨Bj, 3, none⟩ = some (.slice A9 ks.length cp9) := HO2.out.at_.loc.at_ rfl
                 have hg3 := World.grownBy_alloc w2 (.cells #[.string k] 9) none
                 have HO3 := Lib.hid (HO2.out.quiet hg3)
                 have Hsn3 := Lib.hid (hsn.kept hg3 (by simp))
                 have cK3 : (w2.alloc (.cells #[.string k] 9)).cell? ⟨Bj, 3, none⟩ = some (.slice A9 ks.length cp9) := HO3.out.at_.loc.at_ rfl
                 have Hg3 := Lib.hid hg3
                 have Hr3 : Hid (Row (w2.alloc (.cells #[.string k] 9)) w2.heap.size 9 [.string k]) := Lib.hid (Row.new w2 [.string k] 9)
                 clear hd hrd hsn hg hgx hg3))
          all_goals go_wp2_with fail
          all_goals
            go_meet
            case rel => exact ⟨_, Hst, Hsn5⟩
        case rest =>
          obtain ⟨vk', HO6, Hsn6⟩ := hcut
          have hvN := HLI.out.valNo k j HX.out
          have hvE := HLI.out.end_ k j HX.out
          have hvM := HLI.out.more k j HX.out
          have hvB := HLI.out.bad k j HX.out
          obtain ⟨kt, hkt⟩ : ∃ t, ks ++ [k] = t := ⟨_, rfl⟩
          have hktl : kt.length = ks.length + 1 := by rw [← hkt]; simp
          rw [hkt] at HO6 Hsn6 hvE hvM
          have HvN := Lib.hid hvN
          have HvE := Lib.hid hvE
          have HvM := Lib.hid hvM
          have HvB := Lib.hid hvB
          obtain ⟨A6, cp6, rfl, -, -⟩ := ownsRow_val HO6.out.keys
          have HT6 : Hid (Lib.Utf8Tabs 1 2 wc) := Lib.hid (tabs_grown HT.out HO6.out.at_.grown (by simp; omega) (by simp; omega))
          have cL6 : wc.cell? ⟨Bj, 4, none⟩ = some (.slice A ls.length cp) := HO6.out.at_.loc.at_ rfl
          have HKT := Lib.hid hktl
          clear hvN hvE hvM hvB hkt hktl
          cases hval : val j with
          | no j2 er =>
            have HX2 := Lib.hid hval
            have HE := Lib.hid (HvN.out _ _ hval)
            clear hval
            go_wp2_with fail
            have hwd : IntKind.i64.wrap (dep + 1) = dep + 1 := IntWalk.i64_in _ (by omega)
            refine wp_region_any (by kernel_rfl) ?_
            change wpAny _ _ _ _ _ _ _ (World.drew _)
            refine wpAny_take (i := 0) (v := ?vq7) rfl (by kernel_rfl) (by kernel_rfl) (by kernel_rfl) (fun _ _ _ h => h) (Or.inl ⟨by rfl, ?hq7⟩) ?rq7
            case hq7 => intro w; go_simp <;> with_reducible rfl
            refine wpAny_take (i := 2) (v := ?vq8) rfl (by kernel_rfl) (by kernel_rfl) (by kernel_rfl) (fun _ _ _ h => h) (Or.inl ⟨by rfl, ?hq8⟩) ?rq8
            case hq8 => intro w; go_simp <;> with_reducible rfl
            refine wpAny_take (i := 3) (v := ?vq9) rfl (by kernel_rfl) (by kernel_rfl) (by kernel_rfl) (fun _ _ _ h => h) (Or.inl ⟨by rfl, ?hq9⟩) ?rq9
            case hq9 => intro w; go_simp <;> with_reducible rfl
            refine wpAny_take (i := 4) (v := ?vq10) rfl (by kernel_rfl) (by kernel_rfl) (by kernel_rfl) (fun _ _ _ h => h) (Or.inl ⟨by rfl, ?hq10⟩) ?rq10
            case hq10 => intro w; go_simp <;> with_reducible rfl
            refine wpAny_ready (rs := [1, 5]) (by kernel_rfl) (by simp) ?_
            refine AllReady.cons rfl (fun K hK => ?_) ?_
            · go_simp
              refine hK _ _ ?_
              clear hK K
              refine wpAny_ready (rs := [5]) (by kernel_rfl) (by simp) ?_
              refine AllReady.cons rfl (fun K hK => ?_) AllReady.nil
              go_simp
              refine (HV.out.calls j _ (HO6.out.at_.rd.drewN 1) hj2 (tabs_grown HT6.out (grown_drewN (grown_refl wc none) 1) (by simp) (by simp))).mono ?_
              intro e wz hd
              obtain ⟨rfl, hgz⟩ := hd.no HX2.out
              have Hgz : Hid (wc.grownBy wz (some b)) := Lib.hid ⟨hgz.os, hgz.tape, hgz.output, hgz.size, hgz.block⟩
              exact ⟨rfl, by rw [HE.out]; exact ⟨grown_trans HO6.out.at_.grown Hgz.out, rfl⟩⟩
            · refine AllReady.cons rfl (fun K hK => ?_) AllReady.nil
              go_simp
              refine (HV.out.calls j _ (HO6.out.at_.rd.drewN 1) hj2 (tabs_grown HT6.out (grown_drewN (grown_refl wc none) 1) (by simp) (by simp))).mono ?_
              intro e wz hd
              obtain ⟨rfl, hgz⟩ := hd.no HX2.out
              have Hgz : Hid (wc.grownBy wz (some b)) := Lib.hid ⟨hgz.os, hgz.tape, hgz.output, hgz.size, hgz.block⟩
              exact ⟨rfl, by rw [HE.out]; exact ⟨grown_trans HO6.out.at_.grown Hgz.out, rfl⟩⟩
          | ok v j2 =>
            have HX2 := Lib.hid hval
            obtain ⟨hn1, hn2⟩ := HV.out.fwd j v j2 hj2 hval
            clear hval
            go_upto_region 12 with fail
            obtain ⟨w6, hw6⟩ : ∃ x, wc = x := ⟨_, rfl⟩
            subst hw6
            go_cut [] (fun wx => ∃ (vl' : Value) (xs' : List Value) (G' : List Nat), Hid (ObAt w wx b s j2 N N0 Bj kt (ls ++ [v]) (.slice A6 kt.length cp6) vl' xs' G') ∧ Hid (Seen wx Bm kt))
            case first =>
              have hln : ls.length ≤ 1073741824 := by have := HKL.out; omega
              have hwd : IntKind.i64.wrap (dep + 1) = dep + 1 := IntWalk.i64_in _ (by omega)
              go_region_law
                (first
                  | (have _ := w2; refine step_append29 rfl (.tmp 57) (.tmp 62) rfl N (.slice A ls.length cp) ls.length xs rfl HO8.out.rows.1 w2.heap.size [p1, p2, p3, p4, p5] rfl Hr3.out Hj.out.five.1 Hj.out.cells hln HO8.out.at_.big ?_
                     intro v5 w4 ho4 hg4 hl4
                     obtain ⟨A5, c5, rfl, -, -⟩ := ownsRow_val ho4
                     have Hst := Lib.hid (HO6.out.val Hg2.out Hrd2.out Hj.out Hg3.out ho4 hg4 hl4 HNW.out HD.out.1 HD.out.2.1 (Nat.lt_trans HD.out.2.2.1 HD.out.2.2.2))
                     have hb4 : Row w4 Bj 26 (five 5 (.slice A6 kt.length cp6) (.slice A ls.length cp)) := HO8.out.at_.loc.grown hg4 (fun e => by have := (World.ownsRow.lt HO8.out.rows.1 Bj e.symm).1; have := HD.out; omega)
                     have c4 : w4.cell? ⟨Bj, 4, none⟩ = some (.slice A ls.length cp) := hb4.at_ rfl
                     have d4 : w4.frozen? ⟨Bj, 4, none⟩ = false := hb4.frozen 4
                     have Hsn5 : Hid (Seen (w4.setCell ⟨Bj, 4, none⟩ (.slice A5 (ls.length + 1) c5)) Bm kt) := Lib.hid ((Hsn3.out.kept hg4 (fun e => by have := (World.ownsRow.lt HO8.out.rows.1 Bm e.symm).1; have := HD.out; omega)).kept (grown_set (grown_refl w4 (some Bj)) (.inl rfl) _ _) (by have := HD.out; simp; omega))
                     clear ho4 hg4 hl4 hb4)
                  | (go_simp; go_at_call 28; refine (HV.out.calls j _ (HO6.out.at_.rd.drewN 1) hj2 (tabs_grown HT6.out (grown_drewN (grown_refl wc none) 1) (by simp) (by simp))).mono ?_
                     intro e w2 hd
                     obtain ⟨cs, F, rfl, hj, hrd, hg⟩ := hd.ok HX2.out
                     obtain ⟨p1, p2, p3, p4, p5, rfl⟩ := five_of hj.five.1
                     have Hg2 : Hid (wc.grownBy w2 (some b)) := Lib.hid ⟨hg.os, hg.tape, hg.output, hg.size, hg.block⟩
                     have Hj : Hid (JAt w2 wc.heap.size v [p1, p2, p3, p4, p5] F) := Lib.hid hj
                     have Hrd2 := Lib.hid hrd
                     have HO7 := Lib.hid (HO6.out.kept Hg2.out hrd Hbn.out.1 Hbn.out.2.1 Hbn.out.2.2 (.inl rfl))
                     have cL2 : w2.cell? ⟨Bj, 4, none⟩ = some (.slice A ls.length cp) := HO7.out.at_.loc.at_ rfl
                     have hg3 := World.grownBy_alloc w2 (.cells #[p1, p2, p3, p4, p5] 26) none
                     have HO8 := Lib.hid (HO7.out.quiet hg3)
                     have Hsn3 := Lib.hid ((Hsn6.out.kept Hg2.out (by simpa using Hbm.out.1)).kept hg3 (by simp))
                     have cL3 : (w2.alloc (.cells #[p1, p2, p3, p4, p5] 26)).cell? ⟨Bj, 4, none⟩ = some (.slice A ls.length cp) := HO8.out.at_.loc.at_ rfl
                     have Hg3 := Lib.hid hg3
                     have Hr3 : Hid (Row (w2.alloc (.cells #[p1, p2, p3, p4, p5] 26)) w2.heap.size 26 [p1, p2, p3, p4, p5]) := Lib.hid (Row.new w2 [p1, p2, p3, p4, p5] 26)
                     clear hd hj hrd hg hg3))
              all_goals go_wp2_with fail
              all_goals
                go_meet
                case rel => exact ⟨_, _, _, Hst, Hsn5⟩
            case rest =>
              obtain ⟨vl2, xs2, G2, HO3, HSn3⟩ := hcut
              obtain ⟨A2, cp2, rfl, -, -⟩ := ownsRow_val HO3.out.rows.1
              have Hvl2 : Hid (∀ u ∈ five 5 (.slice A6 kt.length cp6) (.slice A2 (ls ++ [v]).length cp2), u.oneCell' = true) := Lib.hid (by intro u hu; simp [five] at hu; rcases hu with rfl | rfl | rfl | rfl | rfl <;> rfl)
              obtain ⟨M, hM⟩ : ∃ M, (ls ++ [v]).length = M := ⟨_, rfl⟩
              have HM2 : Hid (M = ls.length + 1) := Lib.hid (by rw [← hM]; simp)
              rw [hM] at HO3 Hvl2
              have HM := Lib.hid hM
              clear hM
              have hk1 := skip_ge s j2
              have hk2 := skip_le hn2
              have hsk := skip_any b j2 s wc HO3.out.at_.rd (by omega) hn2
              have hend := HvE.out v j2 HX2.out
              have hmore := HvM.out v j2 HX2.out
              have hbad := HvB.out v j2 HX2.out
              obtain ⟨k3, hk⟩ : ∃ k, skip s j2 = k := ⟨_, rfl⟩
              rw [hk] at hk1 hk2 hsk hend hmore hbad
              obtain ⟨c2, hc2⟩ : ∃ c, ch s k3 = c := ⟨_, rfl⟩
              have hlt2 := ch_pos (s := s) (i := k3)
              rw [hc2] at hsk hend hmore hbad hlt2
              have Hsk2 := Lib.hid hsk
              have Hend := Lib.hid hend
              have Hmore := Lib.hid hmore
              have Hbad := Lib.hid hbad
              have Hlt2 := Lib.hid hlt2
              clear hk hc2 hsk hend hmore hbad hlt2
              by_cases h125 : c2 = 125
              · subst h125
                have HE := Lib.hid (Hend.out rfl)
                go_wp2_with (first
                  | (have _ := w5; refine wpList_load_Row rfl 26 _ rfl Bj rfl (five 5 (.slice A6 kt.length cp6) (.slice A2 M cp2)) 26 (Row.set_other HO4.out.at_.loc Hbn.out.2.1 _ _) _ Tryz.underlying26 rfl size29 ?_; simp only [Act.put, List.setIfInBounds_toArray, List.set_cons_zero, List.set_cons_succ])
                  | (have _ := w5; refine wpList_store_Row rfl 26 _ _ rfl N0 (five 5 (.slice A6 kt.length cp6) (.slice A2 M cp2)) rfl rfl 26 zero5 (Row.set_other HO4.out.at_.res Hbn.out.1 _ _) size29 rfl Hvl2.out ?_; intro w6 hr6 hg6 hs6; clear hs6; simp only [Act.put, List.setIfInBounds_toArray, List.set_cons_zero, List.set_cons_succ])
                  | (go_at_call 27; refine Hsk2.out.mono ?_; rintro e w5 ⟨rfl, hrd1, hg1⟩
                     have HO4 := Lib.hid (HO3.out.kept hg1 hrd1 Hbn.out.1 Hbn.out.2.1 Hbn.out.2.2 (.inl rfl))
                     have Hsn4 := Lib.hid (HSn3.out.kept hg1 (by simpa using Hbm.out.1))
                     have c5 := HO4.out.at_.rd.i
                     have d5 := HO4.out.at_.rd.free 1
                     clear hrd1 hg1))
                refine bodyPost_ret (v := .agg (five 5 (.slice A6 kt.length cp6) (.slice A2 M cp2)).toArray) (results_cell_row (p := 6) (ty := 26) rfl _ _ N0 26 (five 5 (.slice A6 kt.length cp6) (.slice A2 M cp2)).toArray (0, 0) _ rfl hr6 Tryz.underlying26 rfl size29) rfl ?_
                rw [HE.out]
                exact HO4.out.at_.done HO4.out.rows HO4.out.keys HO4.out.apart hr6 hg6 HNW.out (by have := HD.out; omega) (by have := HD.out; omega)
              · by_cases h44 : c2 = 44
                · subst h44
                  have HE := Lib.hid (Hmore.out rfl)
                  have hlt3 := Hlt2.out (by decide)
                  go_wp2_with (first
                    | (go_at_call 27; refine Hsk2.out.mono ?_; rintro e w5 ⟨rfl, hrd1, hg1⟩
                       have HO4 := Lib.hid (HO3.out.kept hg1 hrd1 Hbn.out.1 Hbn.out.2.1 Hbn.out.2.2 (.inl rfl))
                       have Hsn4 := Lib.hid (HSn3.out.kept hg1 (by simpa using Hbm.out.1))
                       have c5 := HO4.out.at_.rd.i
                       have d5 := HO4.out.at_.rd.free 1
                       clear hrd1 hg1))
                  go_roundg (s.size - (k3 + 1))
                  case measure => omega
                  case rel =>
                    exact ⟨f, k3 + 1, kt, ls ++ [v], _, _, xs2, G2, by omega, rfl, by omega, by have := HKT.out; omega, by have := HM.out; have := HM2.out; have := HKL.out; have := HKT.out; omega, Lib.hid (HO4.out.set (p' := k3 + 1) Hbn.out.1 Hbn.out.2.1 Hbn.out.2.2), Lib.hid (Hsn4.out.kept (grown_set (grown_refl w5 (some b)) (.inl rfl) 1 (.int .i64 ((k3 + 1 : Nat) : Int))) (by simpa using Hbm.out.1)), Lib.hid ⟨fun h => by simp at h, fun _ => HE.out⟩⟩
                · have HE := Lib.hid (Hbad.out h125 h44)
                  have b125' : (c2 == 125) = false := by simpa using h125
                  have b44 : (c2 == 44) = false := by simpa using h44
                  clear h125 h44
                  go_wp2_with (first
                    | (have _ := w5; go_at_call 29; refine (fail_any _ 130 _).mono ?_; rintro e w6 ⟨rfl, rfl⟩)
                    | (go_at_call 27; refine Hsk2.out.mono ?_; rintro e w5 ⟨rfl, hrd1, hg1⟩
                       have HO4 := Lib.hid (HO3.out.kept hg1 hrd1 Hbn.out.1 Hbn.out.2.1 Hbn.out.2.2 (.inl rfl))
                       have Hsn4 := Lib.hid (HSn3.out.kept hg1 (by simpa using Hbm.out.1))
                       have c5 := HO4.out.at_.rd.i
                       have d5 := HO4.out.at_.rd.free 1
                       clear hrd1 hg1))
                  exact ⟨rfl, by rw [HE.out]; exact ⟨HO4.out.at_.grown, rfl⟩⟩
end Go.Proofs.YtlbilofnbhhmjaaGreatDoor
