/- The reference's Parse. Conditions: the bytes lie where the slice begins. -/
import Derived.Test.YtlbilofnbhhmjaaDoorRVal
import Derived.Test.YtlbilofnbhhmjaaDoorParse
namespace Go.Proofs.YtlbilofnbhhmjaaDoor
open Go.RowKit
set_option linter.unusedVariables false
set_option linter.unusedSimpArgs false
theorem results_ctt {fn : Func} {P : Program} {p q r : Tmp} {ty : TypeId} (h : fn.results = #[.cell p ty, .tmp q, .tmp r]) (tmps : Array Value) (w : World) (g : Nat) (t : TypeId) (cs : List Value) (d : TypeDesc)
    (hp : tmps.getD p undef = .pointer (some ⟨g, 0, none⟩)) (hg : Row w g t cs) (hu : P.underlying ty = some d) (hd : (match d with | .struct _ | .array _ _ => true | _ => false) = true) (hi : (P.info? ty).map (·.size) = some cs.length) :
    (results fn tmps).run P w = .ok (.tuple #[.agg cs.toArray, tmps.getD q undef, tmps.getD r undef]) w := by
  have hp' : tmps[p]?.getD undef = .pointer (some ⟨g, 0, none⟩) := by simpa using hp
  simp [results, h, hp', asAddr, run_loadVar_row w g t ty cs.toArray (0, 0) d hg hu hd (by simpa using hi)]
theorem step_store_Row {P : Program} {ops : Array Oper} {o : Oper} {a : Act} {w : World} {K : Act → World → Prop} {Q : Exit → Act → World → Prop} (hw : Region.wanted o (yielded ops a.tmps) = true) (T : TypeId) (x y : Operand) (ho : o.op = .store T x y) (b : Nat) (cs : List Value) (hx : a.eval x = .pointer (some ⟨b, 0, none⟩)) (hy : a.eval y = .agg cs.toArray)
    (U : TypeId) (old : List Value) (hg : Row w b U old) (hi : (P.info? T).map (·.size) = some cs.length) (hold : old.length = cs.length) (h1 : ∀ v ∈ cs, v.oneCell' = true)
    (h : ∀ w', Row w' b U cs → w.grownBy w' (some b) → K (a.put o.dst undef) w') : if Region.wanted o (yielded ops a.tmps) = true then Oper.wp P o a w K Q else K (a.put o.dst undef) w := by
  rw [if_pos hw]
  exact wp_store_row T x y ho b cs.toArray hx hy U old.toArray hg (by simpa using hi) (by simpa using hold) (all_oneCell_toArray h1)
    (h _ (setRow_heap w b _ _ U _ hg) ⟨rfl, rfl, rfl, by simp [World.setRow], fun i hi hne => setRow_other w b i _ (fun e => hne (by rw [e]))⟩)
theorem step_load_cell {P : Program} {ops : Array Oper} {o : Oper} {a : Act} {w : World} {K : Act → World → Prop} {Q : Exit → Act → World → Prop} (hw : Region.wanted o (yielded ops a.tmps) = true) (T : TypeId) (x : Operand) (ho : o.op = .load T x) (b i : Nat) (hx : a.eval x = .pointer (some ⟨b, i, none⟩)) (v : Value)
    (hl : (loadVar T ⟨b, i, none⟩).run P w = .ok v w) (h : K (a.put o.dst v) w) : if Region.wanted o (yielded ops a.tmps) = true then Oper.wp P o a w K Q else K (a.put o.dst undef) w := by
  rw [if_pos hw]
  unfold Oper.wp execOp
  simp only [ho, hx, Instr.loadAt, Instr.sureAddr, Sem.run_bind, Sem.run_pure, Result.andThen_ok, hl]
  exact h
theorem step_assign {P : Program} {ops : Array Oper} {o : Oper} {a : Act} {w : World} {K : Act → World → Prop} {Q : Exit → Act → World → Prop} (hw : Region.wanted o (yielded ops a.tmps) = true) (x : Operand) (ho : o.op = .assign x)
    (h : K (a.put o.dst (a.eval x)) w) : if Region.wanted o (yielded ops a.tmps) = true then Oper.wp P o a w K Q else K (a.put o.dst undef) w := by
  rw [if_pos hw]
  unfold Oper.wp execOp
  simp only [ho, Sem.run_bind, Sem.run_pure, Result.andThen_ok]
  exact h
theorem load_int3 {w : World} {b i : Nat} {v : Int} (h : w.cell? ⟨b, i, none⟩ = some (.int .i64 v)) : (loadVar 3 ⟨b, i, none⟩).run Tryd.prog w = .ok (.int .i64 v) w := by simp [go_sem, loadVar, h]
theorem load_int30 {w : World} {b i : Nat} {v : Int} (h : w.cell? ⟨b, i, none⟩ = some (.int .i64 v)) : (loadVar 30 ⟨b, i, none⟩).run Tryd.prog w = .ok (.int .i64 v) w := by simp [go_sem, loadVar, h]
theorem rparse_done {T : J × Nat × Int} {W w' : World} {v : J} {cs : List Value} {F : List Nat} {j : Nat} {er : Int} (hE : T = (v, j, er)) (hg : W.grownBy w' none) (hj : JAt w' W.heap.size v cs F) : ParsePost T W (.returned (.tuple #[.agg cs.toArray, .int .i64 (j : Int), .int .i64 er])) w' := parse_done hE hg hj
set_option maxHeartbeats 6400000 in
set_option maxRecDepth 100000 in
theorem rparse_any (A : Option Addr) (c : Nat) (x : List Int) (w : World) (hA : A = none → x = [] ∧ c = 0) (hx : Src w A x) (hsz : x.length ≤ 1073741824) :
    Calls Tryd.prog 12 #[.slice A x.length c] w (ParsePost (parse (strOfNums x)) w) := by
  obtain ⟨T, hTt⟩ : ∃ t, parse (strOfNums x) = t := ⟨_, rfl⟩
  rw [hTt]
  have HTt := Lib.hid hTt
  have HA := Lib.hid hA
  have HX := Lib.hid hx
  have HZ : Hid (∀ v ∈ zero5, v.oneCell' = true) := Lib.hid (by decide)
  clear hTt hA hx
  go_enter Tryd.func12, Tryd.ntmps12
  go_upto_region 1 with (refine wpList_alloc_abs rfl 29 rfl zero5 _ (zero29 _) rfl ?_; intro w1 hr1 hg1 hs1; have HB1 := Lib.hid hr1; have HG1 := Lib.hid hg1; have hlt1 := hr1.lt; clear hr1 hg1 hs1; simp only [Act.put, List.setIfInBounds_toArray, List.set_cons_zero, List.set_cons_succ])
  obtain ⟨Bp, hBp⟩ : ∃ n, w.heap.size = n := ⟨_, rfl⟩
  have HW : Hid (w.heap.size ≤ Bp) := Lib.hid (by omega)
  rw [hBp] at HB1 hlt1 ⊢
  have Hlt1 := Lib.hid hlt1
  clear hBp hlt1
  by_cases hlong : 8192 < x.length
  · have hl : decide ((8192 : Int) < (x.length : Int)) = true := by simp; omega
    have HE : Hid (T = (J.zero, 0, 3)) := Lib.hid (by rw [← HTt.out]; unfold parse; rw [if_pos (by rw [str_size]; exact hlong)])
    go_wp2_with (refine wpList_store_Row rfl 29 _ _ rfl Bp zero5 rfl rfl 29 zero5 HB1.out size29 rfl HZ.out ?_; intro w20 hr20 hg20 hs20; clear hs20; simp only [Act.put, List.setIfInBounds_toArray, List.set_cons_zero, List.set_cons_succ])
    refine bodyPost_ret (v := .tuple #[.agg zero5.toArray, .int .i64 0, .int .i64 3]) (results_ctt (p := 2) (q := 3) (r := 4) (ty := 29) rfl _ _ Bp 29 zero5 _ rfl hr20 Tryd.underlying29 rfl size29) rfl ?_
    rw [HE.out]
    exact rparse_done (j := 0) rfl (grown_own HG1.out hg20 (fun x hx => .inr (by have := Option.some.inj hx; have := HW.out; omega))) (zero_at _ _)
  · have hl : decide ((8192 : Int) < (x.length : Int)) = false := by simp; omega
    obtain ⟨s, hs⟩ : ∃ s, strOfNums x = s := ⟨_, rfl⟩
    have hss : s.size = x.length := by rw [← hs]; exact str_size x
    have hs5 : s.size ≤ 1073741824 := by omega
    have hsl : ¬ 8192 < s.size := by omega
    have Hs := Lib.hid hs
    have hcv : (convert 22 9 (.slice A x.length c)).run Tryd.prog w1 = .ok (.string s) w1 := by rw [← Hs.out]; exact conv_src c (HX.out.grown HG1.out (fun _ _ _ => by simp)) (fun e => (HA.out e).1)
    rw [hs] at HTt
    have Hsl := Lib.hid hsl
    clear hs hss hlong
    go_upto_region 4 with (refine wpList_box_abs rfl 61 _ rfl [.string s, .int .i64 0, .int .i64 0] rfl ?_; intro w2 hr2 hg2 hs2; have HS2 : Hid (Sc w2 w1.heap.size s 0 0) := Lib.hid hr2; have HB2 := Lib.hid (HB1.out.grown hg2 (by simp)); have HG2 := Lib.hid (grown_own HG1.out hg2 (by simp)); have Hlt2 : Hid (w1.heap.size < w2.heap.size) := Lib.hid hr2.lt; clear hr2 hg2 hs2; simp only [Act.put, List.setIfInBounds_toArray, List.set_cons_zero, List.set_cons_succ])
    obtain ⟨b, hb⟩ : ∃ n, w1.heap.size = n := ⟨_, rfl⟩
    have hpb : Bp < b := by have := Hlt1.out; omega
    rw [hb] at HS2 Hlt2 ⊢
    have HD : Hid (Bp < b ∧ w.heap.size ≤ Bp ∧ b < w2.heap.size) := Lib.hid ⟨hpb, HW.out, Hlt2.out⟩
    clear hb hcv hl hpb hsl
    obtain ⟨i, hi0⟩ : ∃ i, skip s 0 = i := ⟨_, rfl⟩
    have hi : i ≤ s.size := by rw [← hi0]; exact skip_le (by omega)
    have Hi0 := Lib.hid hi0
    have hbn : ∀ x, some b = some x → x = b ∨ w.heap.size ≤ x := fun x hx => .inl (Option.some.inj hx).symm
    clear hi0
    go_upto_region 5 with (go_at_call 35; refine (rblanks_any b 0 0 s w2 HS2.out (by omega) (by omega)).mono ?_; rintro e w3 ⟨rfl, hsc, hg⟩; rw [Hi0.out] at hsc; have HS3 := Lib.hid hsc; have HB3 := Lib.hid (HB2.out.grown hg (by have := HD.out; simp; omega)); have HG3 := Lib.hid (grown_own HG2.out hg (fun x hx => .inr (by have := Option.some.inj hx; have := HD.out; omega))); have Hb3 : Hid (b < w3.heap.size) := Lib.hid hsc.lt; clear hsc hg)
    clear hbn
    have hval : ∀ wx, Sc wx b s i 0 → Calls Tryd.prog 36 #[.pointer (some ⟨b, 0, none⟩), .int .i64 1] wx (RDoesJ (value s 16 i) b s wx) := fun wx h => (rvalIs b s hs5 16 (by omega)).calls i wx h hi
    have HVal := Lib.hid hval
    clear hval
    cases hv : value s 16 i with
    | no j er =>
      have HV := Lib.hid hv
      have HE : Hid (T = (J.zero, j, er)) := Lib.hid (by rw [← HTt.out]; exact parse_no Hsl.out (by rw [Hi0.out]; exact hv))
      clear hv
      go_upto_region 6 with (first
        | (have _ := w4; refine wpList_alloc_abs rfl 29 rfl zero5 _ (zero29 _) rfl ?_; intro w5 hr5 hg5 hs5; clear hs5; simp only [Act.put, List.setIfInBounds_toArray, List.set_cons_zero, List.set_cons_succ])
        | (have _ := w5; refine wpList_store_Row rfl 29 _ _ rfl w4.heap.size cs rfl rfl 29 zero5 hr5 (by rw [h5]; exact size29) (by rw [h5]; rfl) h5c ?_; intro w6 hr6 hg6 hs6; clear hs6; simp only [Act.put, List.setIfInBounds_toArray, List.set_cons_zero, List.set_cons_succ])
        | (go_at_call 36; refine (HVal.out w3 HS3.out).mono ?_; intro e w4 hd; obtain ⟨cs, rfl, h5, h5c, hsc, hne, hg⟩ := hd.no HV.out; have HS4 := Lib.hid hsc; have HB4 := Lib.hid (HB3.out.grown hg (by have := HD.out; simp; omega)); have HG4 := Lib.hid (grown_own HG3.out hg (fun x hx => .inr (by have := Option.some.inj hx; have := HD.out; omega))); clear hd hsc hg))
      have hg46 : w4.grownBy w6 none := grown_own hg5 hg6 (fun x hx => .inr (by have := Option.some.inj hx; omega))
      have HS6 := Lib.hid (HS4.out.grown hg46 (by simp))
      have HB6 := Lib.hid (HB4.out.grown hg46 (by simp))
      have HG6 := Lib.hid (grown_own HG4.out hg46 (by simp))
      have ce := HS6.out.e
      have bne : (er != 0) = true := by simpa using hne
      have beq : (er == 0) = false := by simpa using hne
      clear hg5 hg6 hr5 hr6 hg46
      go_upto_region 11 with fail
      clear ce bne beq
      have c1 := HS6.out.i
      have c2 := HS6.out.e
      have e0 := HB6.out.at_ (j := 0) rfl
      have f0 := HB6.out.frozen 0
      have e1 := HB6.out.at_ (j := 1) rfl
      have f1 := HB6.out.frozen 1
      have e2 := HB6.out.at_ (j := 2) rfl
      have f2 := HB6.out.frozen 2
      have e3 := HB6.out.at_ (j := 3) rfl
      have f3 := HB6.out.frozen 3
      have e4 := HB6.out.at_ (j := 4) rfl
      have f4 := HB6.out.frozen 4
      have n1 : ¬ b = Bp := by have := HD.out; omega
      have n2 : ¬ Bp = b := by have := HD.out; omega
      go_region
      have hr20 := ((((((HB6.out.set 0 (.int .i8 0)).set 1 (.bool false)).set 2 (.string ⟨#[]⟩)).set 3 (.slice none 0 0)).set 4 (.slice none 0 0)).drewN 1)
      have hg20 := grown_drewN (grown_set (grown_set (grown_set (grown_set (grown_set (grown_refl w6 (some Bp)) (.inl rfl) 0 (.int .i8 0)) (.inl rfl) 1 (.bool false)) (.inl rfl) 2 (.string ⟨#[]⟩)) (.inl rfl) 3 (.slice none 0 0)) (.inl rfl) 4 (.slice none 0 0)) 1
      clear c1 c2 e0 e1 e2 e3 e4 f0 f1 f2 f3 f4 n1 n2
      go_wp2_with fail
      refine bodyPost_ret (v := .tuple #[.agg zero5.toArray, .int .i64 (j : Int), .int .i64 er]) (results_ctt (p := 2) (q := 3) (r := 4) (ty := 29) rfl _ _ Bp 29 zero5 _ rfl hr20 Tryd.underlying29 rfl size29) rfl ?_
      rw [HE.out]
      exact rparse_done rfl (grown_own HG6.out hg20 (fun x hx => .inr (by have := Option.some.inj hx; have := HD.out; omega))) (zero_at _ _)
    | ok v j =>
      have HV := Lib.hid hv
      obtain ⟨hj1, hj2⟩ := value_fwd s 16 i v j hi hv
      have hk2 := skip_le hj2
      obtain ⟨k, hk⟩ : ∃ k, skip s j = k := ⟨_, rfl⟩
      have HE1 : Hid (skip s j < s.size → T = (J.zero, skip s j, 130)) := Lib.hid (fun h => by rw [← HTt.out]; exact parse_far Hsl.out (by rw [Hi0.out]; exact hv) h)
      have HE2 : Hid (¬ skip s j < s.size → T = (v, 0, 0)) := Lib.hid (fun h => by rw [← HTt.out]; exact parse_ok Hsl.out (by rw [Hi0.out]; exact hv) h)
      rw [hk] at HE1 HE2 hk2
      have Hk := Lib.hid hk
      clear hv hk
      go_upto_region 6 with (first
        | (have _ := w4; refine wpList_alloc_abs rfl 29 rfl zero5 _ (zero29 _) rfl ?_; intro w5 hr5 hg5 hs5; clear hs5; simp only [Act.put, List.setIfInBounds_toArray, List.set_cons_zero, List.set_cons_succ])
        | (have _ := w5; refine wpList_store_Row rfl 29 _ _ rfl w4.heap.size cs rfl rfl 29 zero5 hr5 (by rw [Hj.out.five.1]; exact size29) (by rw [Hj.out.five.1]; rfl) Hj.out.cells ?_; intro w6 hr6 hg6 hs6; clear hs6; simp only [Act.put, List.setIfInBounds_toArray, List.set_cons_zero, List.set_cons_succ])
        | (go_at_call 36; refine (HVal.out w3 HS3.out).mono ?_; intro e w4 hd; obtain ⟨cs, F, rfl, hj, hsc, hg⟩ := hd.ok HV.out; have Hj := Lib.hid hj; have HS4 := Lib.hid hsc; have HB4 := Lib.hid (HB3.out.grown hg (by have := HD.out; simp; omega)); have HG4 := Lib.hid (grown_own HG3.out hg (fun x hx => .inr (by have := Option.some.inj hx; have := HD.out; omega))); have HL4 : Hid (w3.heap.size ≤ w4.heap.size) := Lib.hid hg.size; clear hd hsc hg hj))
      have hg46 : w4.grownBy w6 none := grown_own hg5 hg6 (fun x hx => .inr (by have := Option.some.inj hx; omega))
      have HS6 := Lib.hid (HS4.out.grown hg46 (by simp))
      have HB6 := Lib.hid (HB4.out.grown hg46 (by simp))
      have HG6 := Lib.hid (grown_own HG4.out hg46 (by simp))
      have HJ6 := Lib.hid (Hj.out.kept hg46 (by simp))
      have HR6 := Lib.hid hr6
      have ce := HS6.out.e
      obtain ⟨B6, hB6⟩ : ∃ x, w4.heap.size = x := ⟨_, rfl⟩
      rw [hB6] at HR6 ⊢
      have HB6n : Hid (b < B6) := Lib.hid (by have := Hb3.out; have := HL4.out; omega)
      clear hg5 hg6 hr5 hr6 hg46 hB6
      go_upto_region 8 with (go_at_call 35; refine (rblanks_any b j 0 s w6 HS6.out (by omega) hj2).mono ?_; rintro e w7 ⟨rfl, hsc, hg⟩; rw [Hk.out] at hsc; have HS7 := Lib.hid hsc; have HB7 := Lib.hid (HB6.out.grown hg (by have := HD.out; simp; omega)); have HG7 := Lib.hid (grown_own HG6.out hg (fun x hx => .inr (by have := Option.some.inj hx; have := HD.out; omega))); have HJ7 := Lib.hid (HJ6.out.kept hg (fun g hgm e => by have := (HJ6.out.lt g hgm).1; have := Option.some.inj e; have := Hb3.out; omega)); have HR7 := Lib.hid (HR6.out.grown hg (by have := HB6n.out; simp; omega)); have c0 := hsc.s; have c1 := hsc.i; clear hsc hg)
      clear ce
      by_cases hlt : k < s.size
      · have HE := Lib.hid (HE1.out hlt)
        have hlt' : (k : Int) < (s.size : Int) := by omega
        go_quiet (fail)
        have HS8 := Lib.hid (HS7.out.drewN nq)
        have HB8 := Lib.hid (HB7.out.drewN nq)
        have HG8 := Lib.hid (grown_drewN HG7.out nq)
        generalize hw8 : w7.drewN nq = w8 at HS8 HB8 HG8
        clear hw8 c0 c1 hlt hlt'
        have c1 := HS8.out.i
        go_upto_region 10 with (go_at_call 37; refine (rfail_any b k k 0 130 s w8 HS8.out).mono ?_; rintro e w9 ⟨rfl, hsc, hg⟩; have HS9 := Lib.hid hsc; have HB9 := Lib.hid (HB8.out.grown hg (by have := HD.out; simp; omega)); have HG9 := Lib.hid (grown_own HG8.out hg (fun x hx => .inr (by have := Option.some.inj hx; have := HD.out; omega))); have ce := hsc.e; clear hsc hg)
        clear c1
        go_upto_region 11 with fail
        clear ce
        have c1 := HS9.out.i
        have c2 := HS9.out.e
        have e0 := HB9.out.at_ (j := 0) rfl
        have f0 := HB9.out.frozen 0
        have e1 := HB9.out.at_ (j := 1) rfl
        have f1 := HB9.out.frozen 1
        have e2 := HB9.out.at_ (j := 2) rfl
        have f2 := HB9.out.frozen 2
        have e3 := HB9.out.at_ (j := 3) rfl
        have f3 := HB9.out.frozen 3
        have e4 := HB9.out.at_ (j := 4) rfl
        have f4 := HB9.out.frozen 4
        have n1 : ¬ b = Bp := by have := HD.out; omega
        have n2 : ¬ Bp = b := by have := HD.out; omega
        go_region
        have hr20 := ((((((HB9.out.set 0 (.int .i8 0)).set 1 (.bool false)).set 2 (.string ⟨#[]⟩)).set 3 (.slice none 0 0)).set 4 (.slice none 0 0)).drewN 1)
        have hg20 := grown_drewN (grown_set (grown_set (grown_set (grown_set (grown_set (grown_refl w9 (some Bp)) (.inl rfl) 0 (.int .i8 0)) (.inl rfl) 1 (.bool false)) (.inl rfl) 2 (.string ⟨#[]⟩)) (.inl rfl) 3 (.slice none 0 0)) (.inl rfl) 4 (.slice none 0 0)) 1
        clear c1 c2 e0 e1 e2 e3 e4 f0 f1 f2 f3 f4 n1 n2
        go_wp2_with fail
        refine bodyPost_ret (v := .tuple #[.agg zero5.toArray, .int .i64 (k : Int), .int .i64 130]) (results_ctt (p := 2) (q := 3) (r := 4) (ty := 29) rfl _ _ Bp 29 zero5 _ rfl hr20 Tryd.underlying29 rfl size29) rfl ?_
        rw [HE.out]
        exact rparse_done rfl (grown_own HG9.out hg20 (fun x hx => .inr (by have := Option.some.inj hx; have := HD.out; omega))) (zero_at _ _)
      · have HE := Lib.hid (HE2.out hlt)
        have hlt' : ¬ (k : Int) < (s.size : Int) := by omega
        go_quiet (fail)
        have HS8 := Lib.hid (HS7.out.drewN nq)
        have HB8 := Lib.hid (HB7.out.drewN nq)
        have HG8 := Lib.hid (grown_drewN HG7.out nq)
        have HR8 := Lib.hid (HR7.out.drewN nq)
        have HJ8 := Lib.hid (HJ7.out.kept (grown_drewN (grown_refl w7 none) nq) (by simp))
        generalize hw8 : w7.drewN nq = w8 at HS8 HB8 HG8 HR8 HJ8
        clear hw8 c0 c1 hlt hlt'
        have ce := HS8.out.e
        go_wp2_with (first
          | (refine wpList_load_Row rfl 29 _ rfl B6 rfl cs 29 HR8.out _ Tryd.underlying29 rfl (by rw [Hj.out.five.1]; exact size29) ?_; simp only [Act.put, List.setIfInBounds_toArray, List.set_cons_zero, List.set_cons_succ])
          | (have _ := w8; refine wpList_store_Row rfl 29 _ _ rfl Bp cs rfl rfl 29 zero5 HB8.out (by rw [Hj.out.five.1]; exact size29) (by rw [Hj.out.five.1]; rfl) Hj.out.cells ?_; intro w20 hr20 hg20 hs20; clear hs20; simp only [Act.put, List.setIfInBounds_toArray, List.set_cons_zero, List.set_cons_succ]))
        refine bodyPost_ret (v := .tuple #[.agg cs.toArray, .int .i64 0, .int .i64 0]) (results_ctt (p := 2) (q := 3) (r := 4) (ty := 29) rfl _ _ Bp 29 cs _ rfl hr20 Tryd.underlying29 rfl (by rw [Hj.out.five.1]; exact size29)) rfl ?_
        rw [HE.out]
        exact rparse_done (j := 0) rfl (grown_own HG8.out hg20 (fun x hx => .inr (by have := Option.some.inj hx; have := HD.out; omega))) ((HJ8.out.kept hg20 (fun g hgm e => by have := (HJ8.out.lt g hgm).1; have := Option.some.inj e; have := HD.out; have := Hb3.out; omega)).mono HG3.out.size)
end Go.Proofs.YtlbilofnbhhmjaaDoor
