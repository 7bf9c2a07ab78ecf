/- The reference's copy of a value: it lies in memory of its own. Condition: the value is not too great. -/
import Derived.Test.YtlbilofnbhhmjaaGreatDoorPrint
import Derived.Test.YtlbilofnbhhmjaaGreatDoorOb
namespace Go.Proofs.YtlbilofnbhhmjaaGreatDoor
open Go.RowKit
set_option linter.unusedVariables false
set_option linter.unusedSimpArgs false
theorem wpList_append9_nil {ops : Array Oper} {rest : List Oper} {o : Oper} {a : Act} {w : World} {Q : Exit → Act → World → Prop} (hgd : o.guard = none) (s x : Operand) (ho : o.op = .call { callee := .builtin .append, args := #[s, x], argTypes := #[23, 23] })
    (base : Nat) (hs : a.eval s = .slice none 0 0) (A : Option Addr) (c : Nat) (ks : List ByteArray) (hx : a.eval x = .slice A ks.length c) (hA : StrAt w A ks) (hk : ks.length ≤ 1073741824) (hbase : base ≤ w.heap.size)
    (h : ∀ v' w', w'.ownsRow base 9 1 v' ks.length (ks.map Value.string) → w.grownBy w' none → wpList Tryz.prog ops Q rest (a.put o.dst v') w') : wpList Tryz.prog ops Q (o :: rest) a w := by
  refine wpList_plain hgd fun K hK => ?_
  cases ks with
  | nil =>
    obtain ⟨i, hi⟩ : ∃ i, Tryz.prog.info? 9 = some i := ⟨_, info9⟩
    have hr : (Builtin.append_ #[23, 23] o.type #[.slice none 0 0, .slice A 0 c]).run Tryz.prog w = .ok (.slice none 0 0) w := by
      cases A with
      | none => simp [Builtin.append_, run_underlying Tryz.underlying23, sizeOf, typeInfo, hi, Builtin.lenOf, Builtin.firstCells]
      | some b =>
        have h0 : (loadCells b 0).run Tryz.prog w = .ok #[] w := by first | rfl | simp [loadCells]
        simp [Builtin.append_, run_underlying Tryz.underlying23, sizeOf, typeInfo, hi, Builtin.lenOf, Builtin.firstCells, h0]
    unfold Oper.wp execOp
    simp only [ho, resolve, invoke, builtin, Sem.run_bind, Sem.run_pure, Result.andThen_ok, List.map_toArray, List.map_cons, List.map_nil, hs, hx, hr, List.length_nil]
    exact hK _ _ (h _ _ (World.ownsRow_nil w base 9 1) (grown_refl _ _))
  | cons k ks =>
    obtain ⟨b, f, rfl, hc⟩ := hA (by simp)
    obtain ⟨v', w', hr, h2, h3, h4⟩ := run_append_block (P := Tryz.prog) w base 23 o.type 9 _ _ 1 16 Tryz.underlying23 info9 zi9 si9 bi9 rfl (by decide) (.slice none 0 0) 0 [] (World.ownsRow_nil w base 9 1) ⟨b, f, none⟩ (k :: ks).length c ((k :: ks).map Value.string) (by simp)
      (fun j u hu => by
        rw [List.getElem?_map] at hu
        obtain ⟨q, hq, rfl⟩ := Option.map_eq_some_iff.1 hu
        rw [Addr.add_lit]; exact hc j q hq) (by intro u hu; obtain ⟨q, _, rfl⟩ := List.mem_map.1 hu; rfl) (by unfold maxLen; omega) (by omega) hbase
    unfold Oper.wp execOp
    simp only [ho, resolve, invoke, builtin, Sem.run_bind, Sem.run_pure, Result.andThen_ok, List.map_toArray, List.map_cons, List.map_nil, hs, hx, hr]
    refine hK _ _ (h _ _ ?_ h3)
    rw [Nat.zero_add, List.nil_append] at h2
    exact h2
/-- A copy under way: the argument's box, the result's, the copy's; so many values are copied. -/
structure CpAt (W wr : World) (Ba Br Bc N : Nat) (src : List Value) (kd : Int) (bb : Bool) (t : ByteArray) (ks : List ByteArray) (ls : List J) (vk vl : Value) (xs : List Value) (G : List Nat) : Prop where
  arg : Row wr Ba 26 src
  res : Row wr Br 26 zero5
  loc : Row wr Bc 26 [.int .i8 kd, .bool bb, .string t, vk, vl]
  grown : W.grownBy wr none
  big : N ≤ wr.heap.size
  rows : Rows_ wr N ls vl xs G
  keys : wr.ownsRow N 9 1 vk ks.length (ks.map Value.string)
  apart : ∀ g, vk.ownBlock = some g → g ∉ obs vl ++ G
section
variable {W wr : World} {Ba Br Bc N : Nat} {src : List Value} {kd : Int} {bb : Bool} {t : ByteArray} {ks : List ByteArray} {ls : List J} {vk vl : Value} {xs : List Value} {G : List Nat}
theorem CpAt.quiet {w2 : World} (h : CpAt W wr Ba Br Bc N src kd bb t ks ls vk vl xs G) (hg : wr.grownBy w2 none) : CpAt W w2 Ba Br Bc N src kd bb t ks ls vk vl xs G :=
  ⟨h.arg.grown hg (by simp), h.res.grown hg (by simp), h.loc.grown hg (by simp), grown_own h.grown hg (by simp), Nat.le_trans h.big hg.size, h.rows.kept hg (fun g h1 h2 => by simp), World.ownsRow.kept h.keys hg (own_none (w := wr) vk), h.apart⟩
/-- One value more. -/
theorem CpAt.step {w2 w3 w4 : World} {vl' : Value} {v : J} {cs : List Value} {F : List Nat} (h : CpAt W wr Ba Br Bc N src kd bb t ks ls vk vl xs G) (hg2 : wr.grownBy w2 none) (hj : JAt w2 wr.heap.size v cs F) (hg3 : w2.grownBy w3 none)
    (ho : w4.ownsRow N 26 5 vl' (ls.length + 1) (xs ++ cs)) (hg4 : w3.grownBy w4 vl.ownBlock) (hl : ∀ k, vl'.ownBlock = some k → vl.ownBlock = some k ∨ w3.heap.size ≤ k) (h1 : Ba < Br) (h2 : Br < Bc) (h3 : Bc < N) (hW : W.heap.size ≤ Ba) :
    CpAt W (w4.setCell ⟨Bc, 4, none⟩ vl') Ba Br Bc N src kd bb t ks (ls ++ [v]) vk vl' (xs ++ cs) (G ++ F) := by
  have hv : ∀ k, vl.ownBlock = some k → N ≤ k ∧ k < wr.heap.size := World.ownsRow.lt h.rows.1
  have hne : ∀ x, x < N → some x ≠ vl.ownBlock := fun x hx e => by have := hv x e.symm; omega
  have hk : ∀ g, vk.ownBlock = some g → N ≤ g ∧ g < wr.heap.size := World.ownsRow.lt h.keys
  have hgs : w4.grownBy (w4.setCell ⟨Bc, 4, none⟩ vl') (some Bc) := grown_set (grown_refl _ _) (.inl rfl) _ _
  have s2 := hg2.size
  have s3 := hg3.size
  have s4 := hg4.size
  have sN := h.big
  have a4 := ((h.arg.grown hg2 (by simp)).grown hg3 (by simp)).grown hg4 (hne Ba (by omega))
  have r4 := ((h.res.grown hg2 (by simp)).grown hg3 (by simp)).grown hg4 (hne Br (by omega))
  have l4 := ((h.loc.grown hg2 (by simp)).grown hg3 (by simp)).grown hg4 (hne Bc h3)
  have gw : W.grownBy w4 none := grown_own (grown_own (grown_own h.grown hg2 (by simp)) hg3 (by simp)) hg4 (fun x hx => .inr (by have := hv x hx; omega))
  have hR := h.rows.snoc sN (b := Ba) (by omega) (grown_none hg2 _) hj hg3 ho hg4 hl
  refine ⟨a4.grown hgs (by simp; omega), r4.grown hgs (by simp; omega), ?_, grown_set gw (.inr (by omega)) _ _, by simp; omega, hR.kept hgs (fun g h1 _ e => by have := Option.some.inj e; omega), ?_, fun g hg hm => ?_⟩
  · have := l4.set 4 vl'
    exact this
  · refine World.ownsRow.kept (World.ownsRow.kept (World.ownsRow.kept (World.ownsRow.kept h.keys hg2 (own_none (w := wr) vk)) hg3 (own_none (w := wr) vk)) hg4 ?_) hgs (own_ne h.keys h3)
    cases hb2 : vk.ownBlock with
    | none => exact .inl rfl
    | some g => right; intro e; exact h.apart g hb2 (by simp [obs_mem.2 e.symm])
  · have hgk := hk g hg
    have hF := hj.lt
    rcases List.mem_append.1 hm with hm | hm
    · rcases hl g (obs_mem.1 hm) with e | e
      · exact h.apart g hg (by simp [obs_mem.2 e])
      · omega
    · rcases List.mem_append.1 hm with hm | hm
      · exact h.apart g hg (by simp [hm])
      · have := hF g hm; omega
theorem CpAt.shut (h : CpAt W wr Ba Br Bc N src kd bb t ks ls vk vl xs G) : JAt wr N (.mk kd bb t ks ls) [.int .i8 kd, .bool bb, .string t, vk, vl] (obs vk ++ (obs vl ++ G)) := by
  obtain ⟨h1, h2, h3⟩ := h.rows
  unfold JAt
  refine ⟨vk, vl, xs, G, rfl, h.keys, h1, h2, rfl, ?_⟩
  rw [List.nodup_append]
  refine ⟨by unfold obs; cases vk.ownBlock <;> simp, h3, fun a ha c hc e => ?_⟩
  subst e
  exact h.apart a (obs_mem.1 ha) hc
end
def J5 (kd : Int) (bb : Bool) (t : ByteArray) (vk vl : Value) : List Value := [.int .i8 kd, .bool bb, .string t, vk, vl]
def CopyPost (j : J) (W : World) (e : Ending) (w' : World) : Prop := W.grownBy w' none ∧ ∃ cs F, e = .returned (.agg cs.toArray) ∧ JAt w' W.heap.size j cs F
def CopyIs (w0 : World) (j : J) : Prop := ∀ (cs : List Value) (w : World), JR w0 j cs → JAll (JSz 1000000) j → Below w0.heap.size w0 w → Calls Tryz.prog 6 #[.agg cs.toArray] w (CopyPost j w)
set_option maxHeartbeats 12800000 in
set_option maxRecDepth 100000 in
theorem copy_step (w0 : World) (kd : Int) (bb : Bool) (t : ByteArray) (ks : List ByteArray) (ls : List J) (IH : ∀ x ∈ ls, CopyIs w0 x) : CopyIs w0 (.mk kd bb t ks ls) := by
  intro cs w hj hsz hb
  unfold JR at hj
  obtain ⟨A1, c1, B1, d1, rfl, hkc1, hlc1, hA1, hB1⟩ := hj
  unfold JAll at hsz
  obtain ⟨⟨hts, hkl, hll, hks⟩, hall⟩ := hsz
  simp only [J.tx, J.ks, J.ls] at hts hkl hll hks
  have IH := Lib.hid IH
  have HA1 := Lib.hid hA1
  have HB1 := Lib.hid hB1
  have HAll := Lib.hid hall
  have Hb := Lib.hid hb
  have H1 : Hid (∀ v ∈ [Value.int .i8 kd, .bool bb, .string t, .slice A1 ks.length c1, .slice B1 ls.length d1], v.oneCell' = true) := Lib.hid (by intro u hu; simp at hu; rcases hu with rfl | rfl | rfl | rfl | rfl <;> rfl)
  clear hA1 hB1 hall hb hks hts hkc1 hlc1
  go_enter Tryz.func6, Tryz.ntmps6
  go_upto_region 2 with (first
    | (have _ := w3; refine wpList_store_Row rfl 26 _ _ rfl w2.heap.size [.int .i8 kd, .bool bb, .string t, .slice A1 ks.length c1, .slice B1 ls.length d1] rfl rfl 26 zero5 hr3 size29 rfl H1.out ?_; intro w4 hr4 hg4 hs4; simp only [Act.put, List.setIfInBounds_toArray, List.set_cons_zero, List.set_cons_succ])
    | (have _ := w2; refine wpList_alloc_abs rfl 26 rfl zero5 _ (zero29 _) rfl ?_; intro w3 hr3 hg3 hs3; simp only [Act.put, List.setIfInBounds_toArray, List.set_cons_zero, List.set_cons_succ])
    | (have _ := w2; refine wpList_load_Row rfl 26 _ rfl w.heap.size rfl [.int .i8 kd, .bool bb, .string t, .slice A1 ks.length c1, .slice B1 ls.length d1] 26 (hr1.grown hg2 (by simp)) _ Tryz.underlying26 rfl size29 ?_; simp only [Act.put, List.setIfInBounds_toArray, List.set_cons_zero, List.set_cons_succ])
    | (have _ := w1; refine wpList_alloc_abs rfl 26 rfl zero5 _ (zero29 _) rfl ?_; intro w2 hr2 hg2 hs2; simp only [Act.put, List.setIfInBounds_toArray, List.set_cons_zero, List.set_cons_succ])
    | (refine wpList_box_abs rfl 26 (.tmp 0) rfl [.int .i8 kd, .bool bb, .string t, .slice A1 ks.length c1, .slice B1 ls.length d1] rfl ?_; intro w1 hr1 hg1 hs1; simp only [Act.put, List.setIfInBounds_toArray, List.set_cons_zero, List.set_cons_succ]))
  obtain ⟨Ba, ha⟩ : ∃ x, w.heap.size = x := ⟨_, rfl⟩
  obtain ⟨Br, hbr⟩ : ∃ x, w1.heap.size = x := ⟨_, rfl⟩
  obtain ⟨Bc, hbc⟩ : ∃ x, w2.heap.size = x := ⟨_, rfl⟩
  rw [ha] at hr1 ⊢
  rw [hbr] at hr2 ⊢
  rw [hbc] at hr3 hr4 hg4 ⊢
  have HD : Hid (w.heap.size = Ba ∧ Ba < Br ∧ Br < Bc ∧ w4.heap.size = Bc + 1) := Lib.hid ⟨ha, by omega, by omega, by omega⟩
  have HG4 : Hid (w.grownBy w4 none) := Lib.hid (grown_own (grown_own (grown_own hg1 hg2 (by simp)) hg3 (by simp)) hg4 (fun i hi => .inr (by have := Option.some.inj hi; omega)))
  have HX4 : Hid (Row w4 Ba 26 [.int .i8 kd, .bool bb, .string t, .slice A1 ks.length c1, .slice B1 ls.length d1]) := Lib.hid (((hr1.grown hg2 (by simp)).grown hg3 (by simp)).grown hg4 (by simp; omega))
  have HR4 : Hid (Row w4 Br 26 zero5) := Lib.hid ((hr2.grown hg3 (by simp)).grown hg4 (by simp; omega))
  have HC4 := Lib.hid hr4
  have e3 := hr4.at_ (j := 3) rfl
  have f3 := hr4.frozen 3
  have e4 := hr4.at_ (j := 4) rfl
  have f4 := hr4.frozen 4
  clear ha hbr hbc hr1 hr2 hr3 hr4 hg1 hg2 hg3 hg4 hs1 hs2 hs3 hs4
  go_upto_region 4 with fail
  have HC5 : Hid (Row ((w4.setCell ⟨Bc, 3, none⟩ (.slice none 0 0)).setCell ⟨Bc, 4, none⟩ (.slice none 0 0)) Bc 26 [.int .i8 kd, .bool bb, .string t, .slice none 0 0, .slice none 0 0]) := Lib.hid ((HC4.out.set 3 _).set 4 _)
  have hgs : w4.grownBy ((w4.setCell ⟨Bc, 3, none⟩ (.slice none 0 0)).setCell ⟨Bc, 4, none⟩ (.slice none 0 0)) (some Bc) := grown_set (grown_set (grown_refl w4 (some Bc)) (.inl rfl) 3 _) (.inl rfl) 4 _
  have hss : ((w4.setCell ⟨Bc, 3, none⟩ (.slice none 0 0)).setCell ⟨Bc, 4, none⟩ (.slice none 0 0)).heap.size = w4.heap.size := by simp
  generalize hw5 : (w4.setCell ⟨Bc, 3, none⟩ (.slice none 0 0)).setCell ⟨Bc, 4, none⟩ (.slice none 0 0) = w5 at HC5 hgs hss ⊢
  have HX5 := Lib.hid (HX4.out.grown hgs (by have := HD.out; simp; omega))
  have HR5 := Lib.hid (HR4.out.grown hgs (by have := HD.out; simp; omega))
  have HG5 := Lib.hid (show w.grownBy w5 none from grown_own HG4.out hgs (fun i hi => .inr (by have := HD.out; have := Option.some.inj hi; omega)))
  have HS5 : Hid (w5.heap.size = Bc + 1) := Lib.hid (by have := HD.out; omega)
  have c3 := HC5.out.at_ (j := 3) rfl
  have a3 := HX5.out.at_ (j := 3) rfl
  have hA5 : StrAt w5 A1 ks := HA1.out.below (grown_below0 Hb.out HG5.out (by simp))
  have HA5 := Lib.hid hA5
  clear hw5 hgs hss e3 f3 e4 f4 hA5 HC4 HX4 HR4 HG4
  have hN5 : Bc + 1 ≤ w5.heap.size := by have := HS5.out; omega
  go_upto_region 5 with (refine wpList_append9_nil rfl (.tmp 9) (.tmp 11) rfl (Bc + 1) rfl A1 c1 ks rfl HA5.out (by omega) hN5 ?_
                         intro vk w6 ho6 hg6
                         have HO6 := Lib.hid ho6; have HG6 := Lib.hid hg6; have HC6 := Lib.hid (HC5.out.grown hg6 (by simp))
                         have c6 := HC6.out.at_ (j := 3) rfl; have d6 := HC6.out.frozen 3
                         obtain ⟨Ak, ck, rfl, -, -⟩ := ownsRow_val ho6
                         clear ho6 hg6; simp only [Act.put, List.setIfInBounds_toArray, List.set_cons_zero, List.set_cons_succ])
  have HI : Hid (CpAt w (w6.setCell ⟨Bc, 3, none⟩ (.slice Ak ks.length ck)) Ba Br Bc (Bc + 1) [.int .i8 kd, .bool bb, .string t, .slice A1 ks.length c1, .slice B1 ls.length d1] kd bb t ks [] (.slice Ak ks.length ck) (.slice none 0 0) [] []) := Lib.hid (by
    have hd := HD.out
    have hgs : w6.grownBy (w6.setCell ⟨Bc, 3, none⟩ (.slice Ak ks.length ck)) (some Bc) := grown_set (grown_refl w6 (some Bc)) (.inl rfl) 3 _
    have hs6 := HG6.out.size
    exact ⟨(HX5.out.grown HG6.out (by simp)).grown hgs (by simp; omega), (HR5.out.grown HG6.out (by simp)).grown hgs (by simp; omega), HC6.out.set 3 _, grown_own (grown_own HG5.out HG6.out (by simp)) hgs (fun i hi => .inr (by have := Option.some.inj hi; omega)), by simp; omega, rows_nil _ _, World.ownsRow.kept HO6.out hgs (own_ne HO6.out (by omega)), fun g hg hm => by simp [obs, Value.ownBlock] at hm⟩)
  clear HC6 c6 d6 HO6 HG6 HX5 HR5 HG5 HC5 c3 a3 hN5
  go_wp2_with fail
  go_loopw [4] (fun v wr => ∃ (L : List J) (vl : Value) (xs : List Value) (G : List Nat), L.length ≤ ls.length ∧ v = .int .i64 (L.length : Int) ∧ Hid (L = ls.take L.length) ∧ Hid (CpAt w wr Ba Br Bc (Bc + 1) [.int .i8 kd, .bool bb, .string t, .slice A1 ks.length c1, .slice B1 ls.length d1] kd bb t ks L (.slice Ak ks.length ck) vl xs G)) (fun v _ => ls.length - (intOf v).toNat)
  case atStart => exact ⟨[], _, _, _, by simp, rfl, Lib.hid rfl, HI⟩
  case round =>
    clear HI
    obtain ⟨L, vl, xs, G, hi, rfl, HL, HC⟩ := hrel
    have a4 := HC.out.arg.at_ (j := 4) rfl
    by_cases hlt : L.length < ls.length
    · obtain ⟨jv, hjv⟩ : ∃ jv, ls[L.length]? = some jv := ⟨_, List.getElem?_eq_getElem hlt⟩
      obtain ⟨m1, f1, cj, rfl, hJ1, hcx⟩ := HB1.out.get hjv
      obtain ⟨p0, p1, p2, p3, p4, rfl⟩ := five_of hJ1.five
      have hB := grown_below0 Hb.out HC.out.grown (by simp)
      have x0 : wr.cell? ⟨m1, f1 + L.length * 5, none⟩ = some p0 := by have := below_cell hB (hcx 0 _ rfl); rwa [show f1 + (0 + L.length * 5 + 0) = f1 + L.length * 5 by omega] at this
      have x1 : wr.cell? ⟨m1, f1 + L.length * 5 + 1, none⟩ = some p1 := by have := below_cell hB (hcx 1 _ rfl); rwa [show f1 + (0 + L.length * 5 + 1) = f1 + L.length * 5 + 1 by omega] at this
      have x2 : wr.cell? ⟨m1, f1 + L.length * 5 + 2, none⟩ = some p2 := by have := below_cell hB (hcx 2 _ rfl); rwa [show f1 + (0 + L.length * 5 + 2) = f1 + L.length * 5 + 2 by omega] at this
      have x3 : wr.cell? ⟨m1, f1 + L.length * 5 + 3, none⟩ = some p3 := by have := below_cell hB (hcx 3 _ rfl); rwa [show f1 + (0 + L.length * 5 + 3) = f1 + L.length * 5 + 3 by omega] at this
      have x4 : wr.cell? ⟨m1, f1 + L.length * 5 + 4, none⟩ = some p4 := by have := below_cell hB (hcx 4 _ rfl); rwa [show f1 + (0 + L.length * 5 + 4) = f1 + L.length * 5 + 4 by omega] at this
      have e1 : (L.length : Int) < (ls.length : Int) := by omega
      have hcp : Calls Tryz.prog 6 #[.agg #[p0, p1, p2, p3, p4]] (wr.drewN 1) (CopyPost jv (wr.drewN 1)) := IH.out jv (List.mem_of_getElem? hjv) [p0, p1, p2, p3, p4] (wr.drewN 1) hJ1 (HAll.out.get hjv) (grown_below0 hB (grown_drewN (grown_refl wr none) 1) (by simp))
      have HCp := Lib.hid hcp
      have Htk : Hid (L ++ [jv] = ls.take (L ++ [jv]).length) := Lib.hid (by rw [List.length_append, List.length_singleton, List.take_add_one, hjv, ← HL.out]; rfl)
      obtain ⟨B5, d5, rfl, -, -⟩ := ownsRow_val HC.out.rows.1
      have cL := HC.out.loc.at_ (j := 4) rfl
      have hln : L.length ≤ 1073741824 := by omega
      clear hcp hJ1 hcx hB hjv
      go_wp2_with fail
      go_region_law
        (first
          | (have _ := w2; refine step_append29 rfl (.tmp 22) (.tmp 29) rfl (Bc + 1) (.slice B5 L.length d5) L.length xs rfl HR3.out.1 w2.heap.size [q0, q1, q2, q3, q4] rfl Hr3.out Hj.out.five.1 Hj.out.cells hln HN3.out ?_
             intro v5 w4 ho4 hg4 hl4
             obtain ⟨A5, c5, rfl, -, -⟩ := ownsRow_val ho4
             have Hst := Lib.hid (HC.out.step Hg2.out Hj.out Hg3.out ho4 hg4 hl4 HD.out.2.1 HD.out.2.2.1 (Nat.lt_succ_self Bc) (Nat.le_of_eq HD.out.1))
             have c4 : w4.cell? ⟨Bc, 4, none⟩ = some (.slice B5 L.length d5) := Row.at_ (Row.grown HB3.out hg4 (fun e => by have := (World.ownsRow.lt HR3.out.1 Bc e.symm).1; omega)) rfl
             have d4 : w4.frozen? ⟨Bc, 4, none⟩ = false := Row.frozen (Row.grown HB3.out hg4 (fun e => by have := (World.ownsRow.lt HR3.out.1 Bc e.symm).1; omega)) 4
             clear ho4 hg4 hl4)
          | (go_simp; go_at_call 6; refine HCp.out.mono ?_
             rintro e w2 ⟨hg, cs, F, rfl, hj⟩
             obtain ⟨q0, q1, q2, q3, q4, rfl⟩ := five_of hj.five.1
             have Hg2 : Hid (wr.grownBy w2 none) := Lib.hid ⟨hg.os, hg.tape, hg.output, hg.size, hg.block⟩
             have Hj : Hid (JAt w2 wr.heap.size jv [q0, q1, q2, q3, q4] F) := Lib.hid hj
             have HC2 := Lib.hid (HC.out.quiet Hg2.out)
             have cL2 : w2.cell? ⟨Bc, 4, none⟩ = some (.slice B5 L.length d5) := HC2.out.loc.at_ rfl
             have hg3 := World.grownBy_alloc w2 (.cells #[q0, q1, q2, q3, q4] 26) none
             have HR3 : Hid (Rows_ (w2.alloc (.cells #[q0, q1, q2, q3, q4] 26)) (Bc + 1) L (.slice B5 L.length d5) xs G) := Lib.hid (HC2.out.quiet hg3).rows
             have HB3 : Hid (Row (w2.alloc (.cells #[q0, q1, q2, q3, q4] 26)) Bc 26 [.int .i8 kd, .bool bb, .string t, .slice Ak ks.length ck, .slice B5 L.length d5]) := Lib.hid (HC2.out.loc.grown hg3 (by simp))
             have HN3 : Hid (Bc + 1 ≤ (w2.alloc (.cells #[q0, q1, q2, q3, q4] 26)).heap.size) := Lib.hid (Nat.le_trans HC2.out.big hg3.size)
             have cL3 : (w2.alloc (.cells #[q0, q1, q2, q3, q4] 26)).cell? ⟨Bc, 4, none⟩ = some (.slice B5 L.length d5) := HB3.out.at_ rfl
             have Hg3 := Lib.hid hg3
             have Hr3 : Hid (Row (w2.alloc (.cells #[q0, q1, q2, q3, q4] 26)) w2.heap.size 26 [q0, q1, q2, q3, q4]) := Lib.hid (Row.new w2 [q0, q1, q2, q3, q4] 26)
             clear hj hg hg3))
      all_goals
        go_wp2_with fail
        go_roundw
        case rel => exact ⟨L ++ [jv], _, _, _, by simp; omega, by simp, Htk, Hst⟩
        case measure => simp [intOf]; omega
    · have e1 : ¬ (L.length : Int) < (ls.length : Int) := by omega
      have hLs : L = ls := by
        have h := HL.out
        rw [show L.length = ls.length by omega, List.take_length] at h
        exact h
      obtain ⟨B5, d5, rfl, -, -⟩ := ownsRow_val HC.out.rows.1
      have HF := Lib.hid HC.out.shut
      have HLs := Lib.hid hLs
      clear hLs hlt hi
      go_wp2_with (first
        | (have _ := HF; refine wpList_store_Row rfl 26 _ _ rfl Br [.int .i8 kd, .bool bb, .string t, .slice Ak ks.length ck, .slice B5 L.length d5] rfl rfl 26 zero5 HC.out.res size29 rfl (by intro u hu; simp at hu; rcases hu with rfl | rfl | rfl | rfl | rfl <;> rfl) ?_; intro w9 hr9 hg9 hs9; simp only [Act.put, List.setIfInBounds_toArray, List.set_cons_zero, List.set_cons_succ])
        | (refine wpList_load_Row rfl 26 _ rfl Bc rfl [.int .i8 kd, .bool bb, .string t, .slice Ak ks.length ck, .slice B5 L.length d5] 26 HC.out.loc _ Tryz.underlying26 rfl size29 ?_; simp only [Act.put, List.setIfInBounds_toArray, List.set_cons_zero, List.set_cons_succ]))
      have hr10 : Row w9 Br 26 (J5 kd bb t (.slice Ak ks.length ck) (.slice B5 L.length d5)) := hr9
      refine bodyPost_ret (v := .agg (J5 kd bb t (.slice Ak ks.length ck) (.slice B5 L.length d5)).toArray) (results_cell_row (p := 2) (ty := 26) rfl _ _ Br 26 (J5 kd bb t (.slice Ak ks.length ck) (.slice B5 L.length d5)).toArray (0, 0) _ rfl hr10 Tryz.underlying26 rfl size29) rfl ?_
      refine ⟨grown_own HC.out.grown hg9 (fun i hi => .inr (by have := HD.out; have := Option.some.inj hi; omega)), _, obs (.slice Ak ks.length ck) ++ (obs (.slice B5 L.length d5) ++ G), rfl, ?_⟩
      rw [← HLs.out]
      refine JAt.mono (lo := Bc + 1) (by have := HD.out; omega) (HF.out.kept hg9 (fun g hg e => ?_))
      have := HF.out.lt g hg
      have := Option.some.inj e
      have := HD.out
      omega
mutual
theorem copy_any (w0 : World) : ∀ j : J, CopyIs w0 j
  | .mk kd b t ks ls => copy_step w0 kd b t ks ls (copies_any w0 ls)
theorem copies_any (w0 : World) : ∀ ls : List J, ∀ x ∈ ls, CopyIs w0 x
  | [], x, h => absurd h (by simp)
  | j :: js, x, h => by
    rcases List.mem_cons.1 h with e | e
    · rw [e]; exact copy_any w0 j
    · exact copies_any w0 js x e
end
end Go.Proofs.YtlbilofnbhhmjaaGreatDoor
