/- The anchor of the statements: a list is read, and written. -/
import Derived.Test.YtlbilofnbhhmjaaGreatDoorPrint
import Derived.Test.YtlbilofnbhhmjaaGreatDoorParse
import Derived.Lib.SlBytesConst
namespace Go.Proofs.YtlbilofnbhhmjaaGreatDoor
open Go.RowKit
set_option linter.unusedVariables false
set_option linter.unusedSimpArgs false
def wIn : List Int := [32, 91, 49, 44, 32, 34, 97, 34, 93, 32]
def wJ : J := .mk 4 false ⟨#[]⟩ [] [.mk 2 false ⟨#[49]⟩ [] [], .mk 3 false ⟨#[97]⟩ [] []]
theorem works_parse : parse (strOfNums wIn) = (wJ, 0, 0) := by kernel_rfl
theorem works_check : (checkJ 17 wJ 1 0).1 = 0 := by kernel_rfl
theorem works_write : writeJ 17 wJ = [91, 49, 44, 34, 97, 34, 93] := by kernel_rfl
theorem works_size : JAll (JSz 140737488355328) wJ := by
  have h : ∀ (kd : Int) (t : ByteArray) (ls : List J), t.size ≤ 100 → ls.length ≤ 100 → JSz 140737488355328 (.mk kd false t [] ls) := fun kd t ls h1 h2 => by
    refine ⟨?_, ?_, ?_, ?_⟩
    · show t.size ≤ _; omega
    · show 0 ≤ _; omega
    · show ls.length ≤ _; omega
    · show ∀ k ∈ [], _; simp
  unfold wJ JAll
  refine ⟨h _ _ _ (by decide) (by decide), ?_⟩
  unfold JsAll
  refine ⟨by unfold JAll; exact ⟨h _ _ _ (by decide) (by decide), by unfold JsAll; trivial⟩, ?_⟩
  unfold JsAll
  exact ⟨by unfold JAll; exact ⟨h _ _ _ (by decide) (by decide), by unfold JsAll; trivial⟩, by unfold JsAll; trivial⟩
theorem src_marked (w : World) (x : List Int) (fr : Nat × Nat) : Src (w.alloc (.cells (x.map (Value.int .u8)).toArray 5 fr)) (some ⟨w.heap.size, 0, none⟩) x := fun _ => ⟨_, rfl, rfl, fun j hj => by
  rw [Nat.zero_add, World.cell?_alloc_mark]; simp [hj]⟩
theorem works_read {w : World} {cs : List Value} (h : JR w wJ cs) : ∃ A c b f d, cs = [.int .i8 4, .bool false, .string ⟨#[]⟩, .slice A 0 c, .slice (some ⟨b, f, none⟩) 2 d] ∧ w.cell? ⟨b, f + 5 + 2, none⟩ = some (.string ⟨#[97]⟩) := by
  unfold wJ JR at h
  obtain ⟨A, c, B, d, rfl, _, _, _, h5⟩ := h
  obtain ⟨b, f, cs, rfl, h6, h7⟩ := h5.get (i := 1) rfl
  unfold JR at h6
  obtain ⟨A2, c2, B2, d2, rfl, _⟩ := h6
  refine ⟨A, c, b, f, d, rfl, ?_⟩
  have := h7 2 _ rfl
  rwa [show f + (0 + 1 * 5 + 2) = f + 5 + 2 by omega] at this
theorem works_print : printE wJ = 0 ∧ printT wJ = [91, 49, 44, 34, 97, 34, 93] := by
  have h : printE wJ = 0 := by unfold printE; rw [works_check, works_write]; rfl
  exact ⟨h, by unfold printT; rw [h, works_write]; rfl⟩
set_option maxHeartbeats 3200000 in
set_option maxRecDepth 100000 in
theorem works_any (w : World) (hT : Lib.Utf8Tabs 1 2 w) (hw : 2 < w.heap.size) : Calls Tryz.prog 5 #[] w fun e w' => e = .returned (.bool true) ∧ Below w.heap.size w w' := by
  have HT := Lib.hid hT
  clear hT
  have hcv := fun (w : World) (C : Array Value) (n c : Nat) => Lib.run_convert_bytes_const (P := Tryz.prog) w 41 5 C n c Tryz.underlying41 Tryz.underlying5
  have hp1 : Hid (∀ (wx : World) (g : Nat), 2 < wx.heap.size → Src wx (some ⟨g, 0, none⟩) wIn → Lib.Utf8Tabs 1 2 wx → Calls Tryz.prog 14 #[.slice (some ⟨g, 0, none⟩) 10 10] wx fun e w' => wx.grownBy w' none ∧ ∃ cs, e = .returned (.tuple #[.agg cs.toArray, .int .i64 0, .int .i64 0]) ∧ JR w' wJ cs) := Lib.hid fun wx g h0 hs hT =>
    (parse_any (some ⟨g, 0, none⟩) 10 wIn wx (by intro h; cases h) hs (by decide) hT h0).mono fun e w' ⟨h1, cs, F, h2, h3⟩ => by
      rw [works_parse] at h2 h3
      exact ⟨h1, cs, h2, h3.rd⟩
  have hp2 : Hid (∀ (wx : World) (cs : List Value), JR wx wJ cs → Lib.Utf8Tabs 1 2 wx → Calls Tryz.prog 15 #[.agg cs.toArray] wx fun e w' => Below wx.heap.size wx w' ∧ ∃ A c, e = .returned (.tuple #[.slice A 7 c, .int .i64 0]) ∧ (convert 41 9 (.slice A 7 c)).run Tryz.prog w' = .ok (.string ⟨#[91, 49, 44, 34, 97, 34, 93]⟩) w') := Lib.hid fun wx cs hj hT =>
    (print_any wJ cs wx hj works_size hT (fun _ => by rw [works_write]; decide)).mono fun e w' ⟨⟨v, h1, h2, h3⟩, h4⟩ => by
      rw [works_print.1] at h1
      rw [works_print.2] at h2
      obtain ⟨A, c, rfl, hA, hc, hs, _⟩ := own_slice h2
      exact ⟨h4, A, c, h1, by have := conv_src c hs (fun e => (hA e).1); exact this⟩
  go_enter Tryz.func5, Tryz.ntmps5
  go_upto_region 2 with (first
    | (go_at_call 14; refine (hp1.out _ _ (by simp; omega) (src_marked w wIn _) (tabs_grown HT.out (World.grownBy_alloc w _ none) (by simp) (by simp))).mono ?_; rintro e w1 ⟨hg1, cs, rfl, hj1⟩)
    | (have _ := w1; refine wpList_alloc_abs rfl 26 rfl zero5 _ (zero29 _) rfl ?_; intro w2 hr2 hg2 hs2; clear hs2; simp only [Act.put, List.setIfInBounds_toArray, List.set_cons_zero, List.set_cons_succ])
    | (have _ := w2; refine wpList_store_Row rfl 26 _ _ rfl w1.heap.size cs rfl rfl 26 zero5 hr2 (by rw [hj1.five]; exact size29) (by rw [hj1.five]; rfl) hj1.cells ?_; intro w3 hr3 hg3 hs3; clear hs3; simp only [Act.put, List.setIfInBounds_toArray, List.set_cons_zero, List.set_cons_succ]))
  have hb1 : w1.grownBy w3 none := grown_own hg2 hg3 (fun x hx => .inr (by have := Option.some.inj hx; omega))
  have hj3 := hj1.below (below_of_grown hb1)
  obtain ⟨A, c, b, f, d, rfl, ct⟩ := works_read hj3
  have hg0 : w.grownBy w3 none := grown_own (grown_alloc (grown_refl w none) _) (grown_own hg1 hb1 (by simp)) (by simp)
  have HJ := Lib.hid hj3
  have HG := Lib.hid hg0
  have HR := Lib.hid hr3
  have hw3 := hg0.size
  have hT3 := tabs_grown HT.out hg0 (by simp) (by simp)
  have HT3 := Lib.hid hT3
  obtain ⟨p, hp⟩ : ∃ x, w1.heap.size = x := ⟨_, rfl⟩
  rw [hp] at HR ⊢
  have c0 := HR.out.at_ (j := 0) rfl
  have c4 := HR.out.at_ (j := 4) rfl
  clear hr2 hg2 hr3 hg3 hb1 hj1 hj3 hg1 hg0 hT3 hp hcv
  go_upto_region 4 with fail
  clear c0 c4 ct
  go_wp2_with (first
    | (go_at_call 15; refine (hp2.out w3 _ HJ.out HT3.out).mono ?_; rintro e w4 ⟨hb4, A4, c4, rfl, hcv⟩; have HG4 := Lib.hid (grown_own HG.out (grown_of_below hb4 none) (by simp)); clear hb4)
    | (refine wpList_load_Row rfl 26 _ rfl p rfl _ 26 HR.out _ Tryz.underlying26 rfl size29 ?_; simp only [Act.put, List.setIfInBounds_toArray, List.set_cons_zero, List.set_cons_succ]))
  go_ret
  exact ⟨rfl, below_of_grown HG4.out⟩
end Go.Proofs.YtlbilofnbhhmjaaGreatDoor
