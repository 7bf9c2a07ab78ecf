/- json.Parse. -/
import Derived.Test.YtlbilofnbhhmjaaGreatDoorCatch
namespace Go.Proofs.YtlbilofnbhhmjaaGreatDoor
open Go.RowKit
set_option linter.unusedVariables false
set_option linter.unusedSimpArgs false
theorem results_three {fn : Func} {P : Program} {p q r : Tmp} {ty t3 t4 : TypeId} (h : fn.results = #[.cell p ty, .cell q t3, .cell r t4]) (tmps : Array Value) (w : World) (g g3 g4 : Nat) (t : TypeId) (cs : List Value) (d : TypeDesc)
    (hp : tmps.getD p undef = .pointer (some ⟨g, 0, none⟩)) (hg : Row w g t cs) (hu : P.underlying ty = some d) (hd : (match d with | .struct _ | .array _ _ => true | _ => false) = true) (hi : (P.info? ty).map (·.size) = some cs.length)
    (hq : tmps.getD q undef = .pointer (some ⟨g3, 0, none⟩)) (v3 : Value) (h3 : w.cell? ⟨g3, 0, none⟩ = some v3) (hu3 : (loadVar t3 ⟨g3, 0, none⟩).run P w = .ok v3 w)
    (hr : tmps.getD r undef = .pointer (some ⟨g4, 0, none⟩)) (v4 : Value) (hu4 : (loadVar t4 ⟨g4, 0, none⟩).run P w = .ok v4 w) :
    (results fn tmps).run P w = .ok (.tuple #[.agg cs.toArray, v3, v4]) w := by
  have hp' : tmps[p]?.getD undef = .pointer (some ⟨g, 0, none⟩) := by simpa using hp
  have hq' : tmps[q]?.getD undef = .pointer (some ⟨g3, 0, none⟩) := by simpa using hq
  have hr' : tmps[r]?.getD undef = .pointer (some ⟨g4, 0, none⟩) := by simpa using hr
  simp [results, h, hp', hq', hr', asAddr, run_loadVar_row w g t ty cs.toArray (0, 0) d hg hu hd (by simpa using hi), hu3, hu4]
theorem load3 {w : World} {g : Nat} {v : Int} {T : TypeId} (h : Row w g T [.int .i64 v]) : (loadVar 3 ⟨g, 0, none⟩).run Tryz.prog w = .ok (.int .i64 v) w := by
  have := h.at_ (j := 0) rfl
  simp [go_sem, loadVar, this]
theorem load30 {w : World} {g : Nat} {v : Int} {T : TypeId} (h : Row w g T [.int .i64 v]) : (loadVar 33 ⟨g, 0, none⟩).run Tryz.prog w = .ok (.int .i64 v) w := by
  have := h.at_ (j := 0) rfl
  simp [go_sem, loadVar, this]
theorem zero3 (w : World) : (zeroValue 3).run Tryz.prog w = .ok (.int .i64 0) w := by kernel_rfl
theorem zero30 (w : World) : (zeroValue 33).run Tryz.prog w = .ok (.int .i64 0) w := by kernel_rfl
theorem parse_val (b i : Nat) (s : ByteArray) (w : World) (hr : Rd w b s i) (hs : s.size ≤ 1073741824) (hi : i ≤ s.size) (hT : Lib.Utf8Tabs 1 2 w) (hb : 2 < b) : Calls Tryz.prog 28 #[.pointer (some ⟨b, 0, none⟩), .int .i64 1] w (DoesJ (value s 16 i) b s w) := by
  have := (valIs b s hs hb 16 (Nat.le_refl _)).calls i w hr hi hT
  rw [show (16 : Int) - ((16 : Nat) : Int) + 1 = 1 by decide] at this
  exact this
/-- What Parse hands out: the value in memory of its own, the place, the error. -/
def ParsePost (t : J × Nat × Int) (W : World) (e : Ending) (w' : World) : Prop :=
  W.grownBy w' none ∧ ∃ cs F, e = .returned (.tuple #[.agg cs.toArray, .int .i64 (t.2.1 : Int), .int .i64 t.2.2]) ∧ JAt w' W.heap.size t.1 cs F
theorem zero_at (w : World) (lo : Nat) : JAt w lo J.zero zero5 [] := leaf_at w lo 0 false ⟨#[]⟩
/-- The three results' variables. -/
structure Three (w : World) (p q r : Nat) (cs : List Value) (a b : Int) : Prop where
  r2 : Row w p 26 cs
  r3 : Row w q 3 [.int .i64 a]
  r4 : Row w r 33 [.int .i64 b]
theorem three_res {w : World} {p q r : Nat} {cs : List Value} {a b : Int} (tm : Array Value) (h : Three w p q r cs a b) (hl : cs.length = 5) (h2 : tm.getD 2 undef = .pointer (some ⟨p, 0, none⟩)) (h3 : tm.getD 3 undef = .pointer (some ⟨q, 0, none⟩)) (h4 : tm.getD 4 undef = .pointer (some ⟨r, 0, none⟩)) :
    (results Tryz.f14 tm).run Tryz.prog w = .ok (.tuple #[.agg cs.toArray, .int .i64 a, .int .i64 b]) w :=
  results_three (p := 2) (q := 3) (r := 4) (ty := 26) (t3 := 3) (t4 := 33) rfl tm w p q r 26 cs _ h2 h.r2 Tryz.underlying26 rfl (by rw [size29, hl]) h3 _ (h.r3.at_ rfl) (load3 h.r3) h4 _ (load30 h.r4)
theorem Three.grown {w w' : World} {p q r : Nat} {cs : List Value} {a b : Int} {row : Option Nat} (h : Three w p q r cs a b) (hg : w.grownBy w' row) (hne : ∀ x, row = some x → x ≠ p ∧ x ≠ q ∧ x ≠ r) : Three w' p q r cs a b :=
  ⟨h.r2.grown hg (fun e => (hne _ e.symm).1 rfl), h.r3.grown hg (fun e => (hne _ e.symm).2.1 rfl), h.r4.grown hg (fun e => (hne _ e.symm).2.2 rfl)⟩
theorem Three.drewN {w : World} {p q r : Nat} {cs : List Value} {a b : Int} (h : Three w p q r cs a b) (n : Nat) : Three (w.drewN n) p q r cs a b := ⟨h.r2.drewN n, h.r3.drewN n, h.r4.drewN n⟩
theorem Three.set {w : World} {p q r : Nat} {cs : List Value} {a b a2 b2 : Int} (h : Three w p q r cs a b) (h1 : p < q) (h2 : q < r) : Three ((w.setCell ⟨q, 0, none⟩ (.int .i64 a2)).setCell ⟨r, 0, none⟩ (.int .i64 b2)) p q r cs a2 b2 :=
  ⟨(h.r2.set_other (by omega) _ _).set_other (by omega) _ _, (h.r3.set 0 _).set_other (by omega) _ _, (h.r4.set_other (by omega) _ _).set 0 _⟩
theorem parse_done {T : J × Nat × Int} {W w' : World} {v : J} {cs : List Value} {F : List Nat} {j : Nat} {er : Int} (hE : T = (v, j, er)) (hg : W.grownBy w' none) (hj : JAt w' W.heap.size v cs F) : ParsePost T W (.returned (.tuple #[.agg cs.toArray, .int .i64 (j : Int), .int .i64 er])) w' := by
  subst hE; exact ⟨hg, cs, F, rfl, hj⟩
theorem parse_no {s : ByteArray} {j : Nat} {e : Int} (h : ¬ 8192 < s.size) (hv : value s 16 (skip s 0) = .no j e) : parse s = (J.zero, j, e) := by unfold parse; rw [if_neg h, hv]
theorem parse_far {s : ByteArray} {j : Nat} {v : J} (h : ¬ 8192 < s.size) (hv : value s 16 (skip s 0) = .ok v j) (hk : skip s j < s.size) : parse s = (J.zero, skip s j, 130) := by unfold parse; rw [if_neg h, hv]; simp only; rw [if_pos hk]
theorem parse_ok {s : ByteArray} {j : Nat} {v : J} (h : ¬ 8192 < s.size) (hv : value s 16 (skip s 0) = .ok v j) (hk : ¬ skip s j < s.size) : parse s = (v, 0, 0) := by unfold parse; rw [if_neg h, hv]; simp only; rw [if_neg hk]
set_option maxHeartbeats 6400000 in
set_option maxRecDepth 100000 in
theorem parse_any (A : Option Addr) (c : Nat) (x : List Int) (w : World) (hA : A = none → x = [] ∧ c = 0) (hx : Src w A x) (hsz : x.length ≤ 1073741824) (hT : Lib.Utf8Tabs 1 2 w) (hw : 2 < w.heap.size) :
    Calls Tryz.prog 14 #[.slice A x.length c] w (ParsePost (parse (strOfNums x)) w) := by
  obtain ⟨T, hTt⟩ : ∃ t, parse (strOfNums x) = t := ⟨_, rfl⟩
  rw [hTt]
  have HTt := Lib.hid hTt
  have HA := Lib.hid hA
  have HX := Lib.hid hx
  have HT := Lib.hid hT
  have hmf : ∀ (fn : Fn) (first cap : Array Value) (w : World), (Instr.makeFunc fn first cap).run Tryz.prog w = .ok (.func fn first cap) w := fun _ _ _ _ => rfl
  have HZ : Hid (∀ v ∈ zero5, v.oneCell' = true) := Lib.hid (by decide)
  clear hTt hA hx hT
  go_enter_defers Tryz.func14, Tryz.ntmps14
  go_upto_region 1 with (first
    | (have _ := w2; refine wpList_alloc_abs rfl 33 rfl [.int .i64 0] _ (zero30 _) rfl ?_; intro w3 hr3 hg3 hs3; have Hr3 := Lib.hid hr3; have Hg3 := Lib.hid hg3; have Hs3 := Lib.hid hs3; clear hr3 hg3 hs3; simp only [Act.put, List.setIfInBounds_toArray, List.set_cons_zero, List.set_cons_succ])
    | (have _ := w1; refine wpList_alloc_abs rfl 3 rfl [.int .i64 0] _ (zero3 _) rfl ?_; intro w2 hr2 hg2 hs2; have Hr2 := Lib.hid hr2; have Hg2 := Lib.hid hg2; have Hs2 := Lib.hid hs2; clear hr2 hg2 hs2; simp only [Act.put, List.setIfInBounds_toArray, List.set_cons_zero, List.set_cons_succ])
    | (refine wpList_alloc_abs rfl 26 rfl zero5 _ (zero29 _) rfl ?_; intro w1 hr1 hg1 hs1; have Hr1 := Lib.hid hr1; have Hg1 := Lib.hid hg1; have Hs1 := Lib.hid hs1; clear hr1 hg1 hs1; simp only [Act.put, List.setIfInBounds_toArray, List.set_cons_zero, List.set_cons_succ]))
  have hp : w.heap.size < w1.heap.size := by have := Hs1.out; omega
  have hq : w1.heap.size < w2.heap.size := by have := Hs2.out; omega
  have hr : w2.heap.size < w3.heap.size := by have := Hs3.out; omega
  have h3 : Three w3 w.heap.size w1.heap.size w2.heap.size zero5 0 0 := ⟨(Hr1.out.grown Hg2.out (by simp)).grown Hg3.out (by simp), Hr2.out.grown Hg3.out (by simp), Hr3.out⟩
  have hg : w.grownBy w3 none := grown_own (grown_own Hg1.out Hg2.out (by simp)) Hg3.out (by simp)
  obtain ⟨p, hpe⟩ : ∃ n, w.heap.size = n := ⟨_, rfl⟩
  obtain ⟨q, hqe⟩ : ∃ n, w1.heap.size = n := ⟨_, rfl⟩
  obtain ⟨r, hre⟩ : ∃ n, w2.heap.size = n := ⟨_, rfl⟩
  have HP := Lib.hid hpe
  rw [hpe] at hp h3 ⊢
  rw [hqe] at hp hq h3 ⊢
  rw [hre] at hq hr h3 ⊢
  have H3 := Lib.hid h3
  have HD : Hid (p < q ∧ q < r ∧ r < w3.heap.size ∧ 1 < p) := Lib.hid ⟨hp, hq, hr, by omega⟩
  have HG := Lib.hid hg
  clear hp hq hr h3 hg hpe hqe hre Hr1 Hr2 Hr3 Hg1 Hg2 Hg3 Hs1 Hs2 Hs3
  have n1 : ¬ q = r := by have := HD.out; omega
  by_cases hlong : 8192 < x.length
  · have hl : (8192 : Int) < (x.length : Int) := by omega
    have HE : Hid (T = (J.zero, 0, 3)) := Lib.hid (by rw [← HTt.out]; unfold parse; rw [if_pos (by rw [str_size]; exact hlong)])
    go_wp2_with (first
    | (refine wpList_load_Row rfl 26 _ rfl p rfl zero5 26 H3.out.r2 _ Tryz.underlying26 rfl size29 ?_; simp only [Act.put, List.setIfInBounds_toArray, List.set_cons_zero, List.set_cons_succ])
    | (refine wpList_store_Row rfl 26 _ _ rfl p zero5 rfl rfl 26 zero5 H3.out.r2 size29 rfl HZ.out ?_; intro w4 hr4 hg4 hs4
       have H4 : Hid (Three w4 p q r zero5 0 0) := Lib.hid ⟨hr4, H3.out.r3.grown hg4 (by have := HD.out; simp; omega), H3.out.r4.grown hg4 (by have := HD.out; simp; omega)⟩
       have e3 := H4.out.r3.at_ (j := 0) rfl; have f3 := H4.out.r3.frozen 0; have e4 := H4.out.r4.at_ (j := 0) rfl; have f4 := H4.out.r4.frozen 0
       have Hg4 := Lib.hid hg4
       clear hr4 hg4 hs4; simp only [Act.put, List.setIfInBounds_toArray, List.set_cons_zero, List.set_cons_succ]))
    have hd := HD.out
    have hP := HP.out
    exact ⟨_, three_res _ (H4.out.set hd.1 hd.2.1) rfl rfl rfl rfl, parse_done HE.out (grown_set (grown_set (grown_own HG.out Hg4.out (fun x hx => .inr (by have := Option.some.inj hx; omega))) (.inr (by omega)) _ _) (.inr (by omega)) _ _) (zero_at _ _)⟩
  · have hl : ¬ (8192 : Int) < (x.length : Int) := by omega
    obtain ⟨s, hs⟩ : ∃ s, strOfNums x = s := ⟨_, rfl⟩
    have hss : s.size = x.length := by rw [← hs]; exact str_size x
    have Hs := Lib.hid hs
    have Hss := Lib.hid hss
    have hconv : ∀ W : World, Src W A x → (convert 41 9 (.slice A x.length c)).run Tryz.prog W = .ok (.string s) W := fun W hW => by rw [← Hs.out]; exact conv_src c hW (fun e => (HA.out e).1)
    have hcv := hconv w3 (HX.out.grown HG.out (fun _ _ _ => by simp))
    rw [hs] at HTt
    clear hs hss hconv hlong
    go_upto_region 5 with (first
      | (refine wpList_box_abs rfl 59 _ rfl [.string s, .int .i64 0] rfl ?_; intro w4 hr4 hg4 hs4; have Hr4 := Lib.hid hr4; have Hg4 := Lib.hid hg4; clear hr4 hg4 hs4; simp only [Act.put, List.setIfInBounds_toArray, List.set_cons_zero, List.set_cons_succ]))
    have HR4 : Hid (Rd w4 w3.heap.size s 0) := Lib.hid Hr4.out
    have HG4 := Lib.hid (grown_own HG.out Hg4.out (by simp))
    have HT4 := Lib.hid (tabs_grown HT.out HG4.out (by simp) (by simp))
    have H4 := Lib.hid (H3.out.grown Hg4.out (fun x hx => by cases hx))
    have HD4 : Hid (1 < p ∧ p < q ∧ q < r ∧ r < w3.heap.size ∧ w3.heap.size < w4.heap.size ∧ w.heap.size ≤ p) := Lib.hid ⟨HD.out.2.2.2, HD.out.1, HD.out.2.1, HD.out.2.2.1, HR4.out.lt, by have := HP.out; omega⟩
    obtain ⟨b, hb⟩ : ∃ n, w3.heap.size = n := ⟨_, rfl⟩
    rw [hb] at HR4 HD4 ⊢
    have HLn : Hid (¬ 8192 < s.size) := Lib.hid (by have := Hss.out; omega)
    clear hb HD HG Hr4 Hg4 H3 hcv hl
    have hps : Hid (∀ i, skip s 0 = i → i ≤ s.size) := Lib.hid (fun i e => by rw [← e]; exact skip_le (by omega))
    obtain ⟨i, hi0⟩ : ∃ i, skip s 0 = i := ⟨_, rfl⟩
    have hi := hps.out i hi0
    have hsl : ¬ 8192 < s.size := HLn.out
    have HR4' := HR4
    have hs5 : s.size ≤ 1073741824 := by omega
    cases hv : value s 16 i with
    | no j er =>
      have HV := Lib.hid hv
      have HE : Hid (T = (J.zero, j, er)) := Lib.hid (by rw [← HTt.out]; exact parse_no hsl (by rw [hi0]; exact hv))
      clear hv
      go_wp2_with (first
      | (have _ := w5; go_at_call 28; refine (parse_val b i s w5 HR5.out (by omega) hi HT5.out (by have := HD4.out; omega)).mono ?_; intro e w6 hd
         obtain ⟨rfl, hg⟩ := hd.no HV.out
         have HG6 := Lib.hid (grown_own HG5.out hg (fun x hx => .inr (by have := Option.some.inj hx; have := HD4.out; omega))); have H6 := Lib.hid (H5.out.grown hg (fun x hx => by have := Option.some.inj hx; have := HD4.out; omega)); clear hd hg)
      | (go_at_call 27; refine (skip_any b 0 s w4 HR4.out (by omega) (by omega)).mono ?_; rintro e w5 ⟨rfl, hrd, hg5⟩; rw [hi0] at hrd
         have HR5 := Lib.hid hrd; have HG5 := Lib.hid (grown_own HG4.out hg5 (fun x hx => .inr (by have := Option.some.inj hx; have := HD4.out; omega))); have HT5 := Lib.hid (tabs_grown HT4.out hg5 (by have := HD4.out; simp; omega) (by have := HD4.out; simp; omega)); have H5 := Lib.hid (H4.out.grown hg5 (fun x hx => by have := Option.some.inj hx; have := HD4.out; omega)); have HL5 := Lib.hid (Nat.lt_of_lt_of_le HD4.out.2.2.2.2.1 hg5.size); clear hrd hg5))
      refine leaves_cons (f := 26) (args := #[.pointer (some ⟨p, 0, none⟩), .pointer (some ⟨q, 0, none⟩), .pointer (some ⟨r, 0, none⟩)]) (by simp) (by simp [go_sem]) ?_
      refine (catch_panics p q r j er 0 0 zero5 w w6 H6.out.r2 rfl H6.out.r3 H6.out.r4 HG6.out HD4.out.2.2.2.2.2 HD4.out.2.1 HD4.out.2.2.1).mono ?_
      rintro e u' w7 ⟨rfl, rfl, R2, R3, R4, RG⟩
      simp only [settle, List.dropWhile]
      exact ⟨_, three_res _ ⟨R2, R3, R4⟩ rfl rfl rfl rfl, parse_done HE.out RG (zero_at _ _)⟩
    | ok v j =>
      have HV := Lib.hid hv
      obtain ⟨hj1, hj2⟩ := value_fwd s 16 i v j hi hv
      have hk2 := skip_le hj2
      obtain ⟨k, hk⟩ : ∃ k, skip s j = k := ⟨_, rfl⟩
      have HE1 : Hid (skip s j < s.size → T = (J.zero, skip s j, 130)) := Lib.hid (fun h => by rw [← HTt.out]; exact parse_far hsl (by rw [hi0]; exact hv) h)
      have HE2 : Hid (¬ skip s j < s.size → T = (v, 0, 0)) := Lib.hid (fun h => by rw [← HTt.out]; exact parse_ok hsl (by rw [hi0]; exact hv) h)
      rw [hk] at HE1 HE2 hk2
      have Hk := Lib.hid hk
      clear hv hk
      go_upto_region 8 with (first
      | (have _ := w7; go_at_call 27; refine (skip_any b j s w7 HR7.out (by omega) hj2).mono ?_; rintro e w8 ⟨rfl, hrd, hg⟩; rw [Hk.out] at hrd
         have HR8 := Lib.hid hrd; have HG8 := Lib.hid (grown_own HG7.out hg (fun x hx => .inr (by have := Option.some.inj hx; have := HD4.out; omega))); have H8 := Lib.hid (H7.out.grown hg (fun x hx => by have := Option.some.inj hx; have := HD4.out; omega))
         have HJ8 := Lib.hid (HJ7.out.kept hg (fun g hg e => by have := HJ7.out.lt g hg; have := Option.some.inj e; have := HD4.out; have := HL5.out; omega))
         have c0 := hrd.s; have c1 := hrd.i
         clear hrd hg)
      | (have _ := w6; refine wpList_store_Row rfl 26 _ _ rfl p [p1, p2, p3, p4, p5] rfl rfl 26 zero5 H6.out.r2 size29 rfl Hj.out.cells ?_; intro w7 hr7 hg7 hs7
         have H7 : Hid (Three w7 p q r [p1, p2, p3, p4, p5] 0 0) := Lib.hid ⟨hr7, H6.out.r3.grown hg7 (by have := HD4.out; simp; omega), H6.out.r4.grown hg7 (by have := HD4.out; simp; omega)⟩
         have HR7 := Lib.hid (HR6.out.grown hg7 (by have := HD4.out; simp; omega)); have HG7 := Lib.hid (grown_own HG6.out hg7 (fun x hx => .inr (by have := Option.some.inj hx; have := HD4.out; have := HP.out; omega)))
         have HJ7 := Lib.hid (Hj.out.kept hg7 (fun g hg e => by have := Hj.out.lt g hg; have := Option.some.inj e; have := HD4.out; have := HL5.out; omega))
         clear hr7 hg7 hs7; simp only [Act.put, List.setIfInBounds_toArray, List.set_cons_zero, List.set_cons_succ])
      | (have _ := w5; go_at_call 28; refine (parse_val b i s w5 HR5.out (by omega) hi HT5.out (by have := HD4.out; omega)).mono ?_; intro e w6 hd
         obtain ⟨cs, F, rfl, hj, hrd, hg⟩ := hd.ok HV.out
         obtain ⟨p1, p2, p3, p4, p5, rfl⟩ := five_of hj.five.1
         have Hj := Lib.hid hj; have HR6 := Lib.hid hrd; have HG6 := Lib.hid (grown_own HG5.out hg (fun x hx => .inr (by have := Option.some.inj hx; have := HD4.out; omega))); have H6 := Lib.hid (H5.out.grown hg (fun x hx => by have := Option.some.inj hx; have := HD4.out; omega)); clear hd hj hrd hg)
      | (go_at_call 27; refine (skip_any b 0 s w4 HR4.out (by omega) (by omega)).mono ?_; rintro e w5 ⟨rfl, hrd, hg5⟩; rw [hi0] at hrd
         have HR5 := Lib.hid hrd; have HG5 := Lib.hid (grown_own HG4.out hg5 (fun x hx => .inr (by have := Option.some.inj hx; have := HD4.out; omega))); have HT5 := Lib.hid (tabs_grown HT4.out hg5 (by have := HD4.out; simp; omega) (by have := HD4.out; simp; omega)); have H5 := Lib.hid (H4.out.grown hg5 (fun x hx => by have := Option.some.inj hx; have := HD4.out; omega)); have HL5 := Lib.hid (Nat.lt_of_lt_of_le HD4.out.2.2.2.2.1 hg5.size); clear hrd hg5))
      by_cases hlt : k < s.size
      · have HE := Lib.hid (HE1.out hlt)
        have hlt' : (k : Int) < (s.size : Int) := by omega
        go_quiet (fail)
        have c2 := (HR8.out.drewN nq).i
        go_wp2_with (first
          | (go_at_call 29; refine (fail_any _ 130 _).mono ?_; rintro e w9 ⟨rfl, rfl⟩))
        refine leaves_cons (f := 26) (args := #[.pointer (some ⟨p, 0, none⟩), .pointer (some ⟨q, 0, none⟩), .pointer (some ⟨r, 0, none⟩)]) (by simp) (by simp [go_sem]) ?_
        refine (catch_panics p q r k 130 0 0 [p1, p2, p3, p4, p5] w _ (H8.out.drewN nq).r2 rfl (H8.out.drewN nq).r3 (H8.out.drewN nq).r4 (grown_drewN HG8.out nq) HD4.out.2.2.2.2.2 HD4.out.2.1 HD4.out.2.2.1).mono ?_
        rintro e u' w9 ⟨rfl, rfl, R2, R3, R4, RG⟩
        simp only [settle, List.dropWhile]
        exact ⟨_, three_res _ ⟨R2, R3, R4⟩ rfl rfl rfl rfl, parse_done HE.out RG (zero_at _ _)⟩
      · have HE := Lib.hid (HE2.out hlt)
        have hlt' : ¬ (k : Int) < (s.size : Int) := by omega
        go_quiet (fail)
        have HJd : Hid (JAt (w8.drewN nq) w5.heap.size v [p1, p2, p3, p4, p5] F) := Lib.hid (HJ8.out.kept (grown_drewN (grown_refl w8 none) nq) (by simp))
        go_wp2_with (first
          | (refine wpList_load_Row rfl 26 _ rfl p rfl [p1, p2, p3, p4, p5] 26 (H8.out.drewN nq).r2 _ Tryz.underlying26 rfl size29 ?_; simp only [Act.put, List.setIfInBounds_toArray, List.set_cons_zero, List.set_cons_succ])
          | (refine wpList_store_Row rfl 26 _ _ rfl p [p1, p2, p3, p4, p5] rfl rfl 26 [p1, p2, p3, p4, p5] (H8.out.drewN nq).r2 size29 rfl Hj.out.cells ?_; intro w9 hr9 hg9 hs9
             have H9 : Hid (Three w9 p q r [p1, p2, p3, p4, p5] 0 0) := Lib.hid ⟨hr9, (H8.out.drewN nq).r3.grown hg9 (by have := HD4.out; simp; omega), (H8.out.drewN nq).r4.grown hg9 (by have := HD4.out; simp; omega)⟩
             have HG9 := Lib.hid (grown_own (grown_drewN HG8.out nq) hg9 (fun x hx => .inr (by have := Option.some.inj hx; have := HD4.out; omega)))
             have HJ9 := Lib.hid (HJd.out.kept hg9 (fun g hg e => by have := HJd.out.lt g hg; have := Option.some.inj e; have := HD4.out; have := HL5.out; omega))
             have e3 := H9.out.r3.at_ (j := 0) rfl; have f3 := H9.out.r3.frozen 0; have e4 := H9.out.r4.at_ (j := 0) rfl; have f4 := H9.out.r4.frozen 0
             clear hr9 hg9 hs9; simp only [Act.put, List.setIfInBounds_toArray, List.set_cons_zero, List.set_cons_succ]))
        refine leaves_cons (f := 26) (args := #[.pointer (some ⟨p, 0, none⟩), .pointer (some ⟨q, 0, none⟩), .pointer (some ⟨r, 0, none⟩)]) (by simp) (by simp [go_sem]) ?_
        refine (catch_idle ⟨p, 0, none⟩ ⟨q, 0, none⟩ ⟨r, 0, none⟩ _).mono ?_
        rintro e u' w10 ⟨rfl, rfl, rfl⟩
        simp only [settle]
        have hd := HD4.out
        have hL := HL5.out
        refine ⟨_, three_res _ (H9.out.set hd.2.1 hd.2.2.1) rfl rfl rfl rfl, parse_done (F := F) HE.out (grown_set (grown_set HG9.out (.inr (by omega)) _ _) (.inr (by omega)) _ _) ?_⟩
        refine JAt.mono (lo := w5.heap.size) (by omega) ((HJ9.out.kept (grown_set (grown_refl w9 (some q)) (.inl rfl) _ _) (fun g hg e => by have := HJ9.out.lt g hg; have := Option.some.inj e; omega)).kept (grown_set (grown_refl _ (some r)) (.inl rfl) _ _) (fun g hg e => by have := HJ9.out.lt g hg; have := Option.some.inj e; omega))
end Go.Proofs.YtlbilofnbhhmjaaGreatDoor
