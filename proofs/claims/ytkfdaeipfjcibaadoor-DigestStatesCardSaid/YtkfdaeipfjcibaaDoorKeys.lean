/- DigestKeys: the walk. -/
import Derived.Test.YtkfdaeipfjcibaaDoorMacs
import Derived.Lib.QuietBelow
import Derived.Deep.RegionHeldLaw
namespace Go.Proofs.YtkfdaeipfjcibaaDoor
open Go.RowKit
set_option linter.unusedVariables false
set_option linter.unusedSimpArgs false
theorem kb_long (key : List Int) (h : 64 < key.length) : kblock (sha key) = kblock key := by
  have h1 : kb key = sha key := by simp [kb, h]
  have h2 : kb (sha key) = sha key := by simp [kb, sha_length]
  unfold kblock; rw [h1, h2]
theorem mac_long (key x : List Int) (h : 64 < key.length) : mac (sha key) x = mac key x := by unfold mac; rw [kb_long key h]
theorem kb_zero (key : List Int) (h : key.length < 64) : kblock (key ++ [0]) = kblock key := by
  have h1 : kb key = key := by simp [kb]; omega
  have h2 : kb (key ++ [0]) = key ++ [0] := by simp [kb]; omega
  unfold kblock; rw [h1, h2, show 64 - key.length = (64 - (key ++ [0]).length) + 1 by simp; omega, List.replicate_succ]
  simp
theorem mac_zero (key x : List Int) (h : key.length < 64) : mac (key ++ [0]) x = mac key x := by unfold mac; rw [kb_zero key h]
theorem kblock_key (key : List Int) (h : key.length ≤ 64) (j : Nat) (hj : j < 64) : (kblock key).getD j 0 = if j < key.length then key.getD j 0 else 0 := by
  have h1 : kb key = key := by simp [kb]; omega
  unfold kblock
  rw [h1, List.getD_eq_getElem?_getD, List.getElem?_append]
  split
  · simp [List.getD_eq_getElem?_getD]
  · rw [List.getElem?_replicate]; split <;> rfl
theorem held {w0 w' : World} {B : Nat} {C : List Value} (hr : Row w0 B 25 C) (hg : w0.grownBy w' none) : Hid (w0.grownBy w' none) ∧ w'.rangeAt B 0 C :=
  ⟨Lib.hid hg, (hr.grown hg (by simp)).range 0 C fun j v h => by simpa using h⟩
theorem step_append_bytes {ops : Array Oper} {o : Oper} {a : Act} {w : World} {K : Act → World → Prop} {Q : Exit → Act → World → Prop} (hw : Region.wanted o (yielded ops a.tmps) = true) (s x : Operand)
    (ho : o.op = .call { callee := .builtin .append, args := #[s, x], argTypes := #[22, 22] }) (base : Nat) (v : Value) (l y : List Int) (hs : a.eval s = v) (hown : Own w base v l)
    (ad : Addr) (c : Nat) (hx : a.eval x = .slice (some ad) y.length c) (hsrc : Src w (some ad) y) (hsz : l.length + y.length ≤ 1099511627776) (hbase : base ≤ w.heap.size)
    (h : ∀ v' w', Own w' base v' (l ++ y) → w.grownBy w' v.ownBlock → K (a.put o.dst v') w') :
    if Region.wanted o (yielded ops a.tmps) = true then Oper.wp Tryd.prog o a w K Q else K (a.put o.dst undef) w := by
  rw [if_pos hw]
  exact wp_append_own w s x 22 ho base 5 _ (.int .u8 0) 1 1 Tryd.underlying22 info5 (by kernel_rfl) (by kernel_rfl) (by kernel_rfl) rfl (by decide) v l.length _ hs hown ad y.length c (y.map (Value.int .u8)) hx (by simp) (src_list hsrc rfl) (oneCell_bytes y)
    (by unfold maxLen; omega) (by omega) hbase (fun v' w' h1 h2 _ => h v' w' (by unfold Own; rw [List.map_append, List.length_append]; exact h1) h2)
set_option maxHeartbeats 3200000 in
set_option maxRecDepth 100000 in
theorem keys_any (Ak Ab : Option Addr) (ck cb : Nat) (key x : List Int) (w : World) (hAk : Ak = none → key = [] ∧ ck = 0) (hAb : Ab = none → x = [] ∧ cb = 0) (hk : Src w Ak key) (hx : Src w Ab x)
    (hck : key.length ≤ ck) (hcb : x.length ≤ cb) (hK : HasK w) :
    Calls Tryd.prog 7 #[.slice Ak key.length ck, .slice Ab x.length cb] w fun e w' => e = .returned (.bool true) ∧ Below w.heap.size w w' := by
  have HX := Lib.hid hx
  have HKy := Lib.hid hk
  have HAb := Lib.hid hAb
  have HAk := Lib.hid hAk
  have HK := Lib.hid hK
  clear hx hk hAb hAk hK
  by_cases hg1 : (key.length : Int) > 16384
  · go_enter Tryd.func7, Tryd.ntmps7
    go_wp2_with (go_at_call 8; refine (works_any w HK.out).mono ?_; rintro e w1 ⟨rfl, hb1⟩; have Hb1 := Lib.hid hb1; clear hb1)
    go_ret
    exact ⟨rfl, Hb1.out⟩
  by_cases hg2 : (x.length : Int) > 16384
  · go_enter Tryd.func7, Tryd.ntmps7
    go_wp2_with (go_at_call 8; refine (works_any w HK.out).mono ?_; rintro e w1 ⟨rfl, hb1⟩; have Hb1 := Lib.hid hb1; clear hb1)
    go_ret
    exact ⟨rfl, Hb1.out⟩
  obtain ⟨S, hS⟩ : ∃ S, mac key x = S := ⟨_, rfl⟩
  have hSl : Hid (S.length = 32) := Lib.hid (by rw [← hS]; exact mac_length key x)
  have heq := fun w => eql_same w S hSl.out
  have hne := fun w => neq_same w S hSl.out
  have H1S := Lib.hid (oneCell_bytes S)
  have hSC : Hid ((S.map (Value.int .u8)).length = 32) := Lib.hid (by rw [List.length_map]; exact hSl.out)
  have HS := Lib.hid hS
  clear hS
  by_cases hlong : (key.length : Int) > 64
  · obtain ⟨T, hT⟩ : ∃ T, sha key = T := ⟨_, rfl⟩
    have HT := Lib.hid hT
    have hTl : Hid (T.length = 32) := Lib.hid (by rw [← hT]; exact sha_length key)
    have hmT : Hid (mac T x = S) := Lib.hid (by rw [← hT, mac_long key x (by omega)]; exact HS.out)
    have H1T := Lib.hid (oneCell_bytes T)
    have hall := slice_all25
    clear hT
    go_enter Tryd.func7, Tryd.ntmps7
    go_wp2_with (first
      | (have _ := w5; refine wpList_store_Row rfl 25 _ _ rfl w4.heap.size (T.map (Value.int .u8)) rfl rfl 25 z32 hr5 (by rw [List.length_map, hTl.out]; exact size25) (by rw [List.length_map, hTl.out]; rfl) H1T.out ?_; intro w6 hr6 hg6 hs6; clear hs6; simp only [Act.put, List.setIfInBounds_toArray, List.set_cons_zero, List.set_cons_succ]
         have HM6 : Hid (Row w6 w1.heap.size 25 (S.map (Value.int .u8))) := Lib.hid ((HM4.out.grown hg5 (by simp)).grown hg6 (by have := HM4.out.lt; simp; omega))
         have HR6 : Hid (Row w6 w4.heap.size 25 (T.map (Value.int .u8))) := Lib.hid hr6
         have HG6 : Hid (w.grownBy w6 none) := Lib.hid (grown_own (grown_own HG4.out hg5 (by simp)) hg6 (by intro i hi; right; have := HG4.out.size; simp at hi; omega))
         clear hr5 hg5 hr6 hg6)
      | (have _ := w4; refine wpList_alloc_abs rfl 25 rfl z32 _ (zero25 _) rfl ?_; intro w5 hr5 hg5 hs5; clear hs5; simp only [Act.put, List.setIfInBounds_toArray, List.set_cons_zero, List.set_cons_succ])
      | (go_at_call 10; refine (dsum_any Ak ck key w3 (HKy.out.grown HG3.out (by simp)) hck (HK.out.grown HG3.out (by simp)) (by omega)).mono ?_; rintro e w4 ⟨rfl, hb4⟩
         rw [HT.out]
         unfold bytesA
         have HM4 : Hid (Row w4 w1.heap.size 25 (S.map (Value.int .u8))) := Lib.hid (HM3.out.below hb4 HM3.out.lt)
         have HG4 : Hid (w.grownBy w4 none) := Lib.hid (grown_below HG3.out hb4 HG3.out.size)
         clear hb4)
      | (have _ := w2; refine wpList_store_Row rfl 25 _ _ rfl w1.heap.size (S.map (Value.int .u8)) rfl rfl 25 z32 hr2 (by rw [hSC.out]; exact size25) (by rw [hSC.out]; rfl) H1S.out ?_; intro w3 hr3 hg3 hs3; clear hs3; simp only [Act.put, List.setIfInBounds_toArray, List.set_cons_zero, List.set_cons_succ]
         have HM3 := Lib.hid hr3
         have HG3 : Hid (w.grownBy w3 none) := Lib.hid (grown_own (grown_own (grown_of_below HB1.out none) hg2 (by simp)) hg3 (by intro i hi; right; have := HB1.out.size; simp at hi; omega))
         clear hr2 hg2 hr3 hg3)
      | (have _ := w1; refine wpList_alloc_abs rfl 25 rfl z32 _ (zero25 _) rfl ?_; intro w2 hr2 hg2 hs2; clear hs2; simp only [Act.put, List.setIfInBounds_toArray, List.set_cons_zero, List.set_cons_succ])
      | (go_at_call 19; refine (mac_any Ak Ab ck cb key x w HKy.out HX.out hck hcb HK.out (by omega) (by omega)).mono ?_; rintro e w1 ⟨rfl, hb1⟩
         rw [HS.out]
         unfold bytesA
         have HB1 := Lib.hid hb1
         clear hb1))
    have hm19 : Hid (∀ wx, Below w6.heap.size w6 wx → Calls Tryd.prog 19 #[.slice (some ⟨w4.heap.size, 0, none⟩) 32 32, .slice Ab x.length cb] wx fun e w' => e = .returned (.agg (S.map (Value.int .u8)).toArray) ∧ Below wx.heap.size wx w') := Lib.hid fun wx hb => by
      have h := mac_any (some ⟨w4.heap.size, 0, none⟩) Ab 32 cb T x wx (src_row (HR6.out.below hb HR6.out.lt)) ((HX.out.grown HG6.out (by simp)).below hb) (by rw [hTl.out]; exact Nat.le_refl _) hcb ((HK.out.grown HG6.out (by simp)).below hb) (by rw [hTl.out]; decide) (by omega)
      rw [hmT.out, hTl.out] at h
      exact h
    have hw8 : Hid (∀ wx, Below w6.heap.size w6 wx → Calls Tryd.prog 8 #[] wx fun e w' => e = .returned (.bool true) ∧ Below wx.heap.size wx w') := Lib.hid fun wx hb => works_any wx ((HK.out.grown HG6.out (by simp)).below hb)
    refine wp_region_quiet_below (by kernel_rfl) (by kernel_rfl) ?_
    repeat (first
      | (refine wpQuiet_load_Row rfl 25 _ rfl w1.heap.size rfl (S.map (Value.int .u8)) 25 (by rintro _ ⟨p, rfl⟩; exact HM6.out.below (below_regrown _ _ _) HM6.out.lt) _ Tryd.underlying25 rfl (by rw [hSC.out]; exact size25) ?_; simp only [Act.put, List.setIfInBounds_toArray, List.set_cons_zero, List.set_cons_succ])
      | go_big_quiet_step (first | (go_at_call 19; exact Calls.regrown_of (hm19.out _ (below_regrown _ _ _))) | (go_at_call 8; exact Calls.regrown_of (hw8.out _ (below_regrown _ _ _)))))
    refine wpQuiet_nil ?_
    rintro _ ⟨p, rfl⟩
    have hbp := below_regrown w6 p.d p.os
    generalize hwz : Sort.grow (redrawn w6 p.d) p.os = wz at hbp ⊢
    clear hwz
    go_wp2_with fail
    go_ret
    exact ⟨rfl, below_of_grown (grown_own HG6.out (grown_of_below hbp none) (by simp))⟩
  have Hkg := Lib.hid (kblock_key key (by omega))
  have Hkl := Lib.hid (kblock_length key)
  have Hmac : Hid (S = sha (xorL 92 (kblock key) ++ sha (xorL 54 (kblock key) ++ x))) := Lib.hid HS.out.symm
  obtain ⟨Kb, hKb⟩ : ∃ y, kblock key = y := ⟨_, rfl⟩
  rw [hKb] at Hkl Hkg Hmac
  clear hKb
  go_enter Tryd.func7, Tryd.ntmps7
  go_upto_region 7 with (first
    | (have _ := w2; refine wpList_store_Row rfl 25 _ _ rfl w1.heap.size (S.map (Value.int .u8)) rfl rfl 25 z32 hr2 (by rw [hSC.out]; exact size25) (by rw [hSC.out]; rfl) H1S.out ?_; intro w3 hr3 hg3 hs3; clear hs3; simp only [Act.put, List.setIfInBounds_toArray, List.set_cons_zero, List.set_cons_succ]
       have HM3 := Lib.hid hr3
       have HG3 : Hid (w.grownBy w3 none) := Lib.hid (grown_own (grown_own (grown_of_below HB1.out none) hg2 (by simp)) hg3 (by intro i hi; right; have := HB1.out.size; simp at hi; omega))
       clear hr2 hg2 hr3 hg3)
    | (have _ := w1; refine wpList_alloc_abs rfl 25 rfl z32 _ (zero25 _) rfl ?_; intro w2 hr2 hg2 hs2; clear hs2; simp only [Act.put, List.setIfInBounds_toArray, List.set_cons_zero, List.set_cons_succ])
    | (go_at_call 19; refine (mac_any Ak Ab ck cb key x w HKy.out HX.out hck hcb HK.out (by omega) (by omega)).mono ?_; rintro e w1 ⟨rfl, hb1⟩
       rw [HS.out]
       unfold bytesA
       have HB1 := Lib.hid hb1
       clear hb1))
  obtain ⟨B5, hB5⟩ : ∃ B, w1.heap.size = B := ⟨_, rfl⟩
  rw [hB5] at HM3 ⊢
  clear hB5
  go_cut [49] (fun v wx => v = .bool false ∧ Hid (w3.grownBy wx none))
  case first =>
    by_cases h64 : (key.length : Int) < 64
    · obtain ⟨kz, hkz⟩ : ∃ k, key ++ [0] = k := ⟨_, rfl⟩
      have Hkz := Lib.hid hkz
      have Hmz : Hid (mac kz x = S) := Lib.hid (by rw [← hkz, mac_zero key x (by omega)]; exact HS.out)
      have Hzl : Hid (kz.length ≤ 64) := Lib.hid (by rw [← hkz]; simp; omega)
      clear hkz
      have hu25 := Tryd.underlying25
      have hsz25 : (Tryd.prog.info? 25).map (·.size) = some (S.map (Value.int .u8)).length := by rw [hSC.out]; exact size25
      go_region_held_law (fun w' => Hid (w3.grownBy w' none) ∧ w'.rangeAt B5 0 (S.map (Value.int .u8)))
        (first
          | exact held HM3.out (grown_own (‹Hid (World.grownBy w3 _ none) ∧ _›).1.out (grown_of_below hbm none) (by simp))
          | exact held HM3.out (grown_own (‹Hid (World.grownBy w3 _ none) ∧ _›).1.out hgb hrow)
          | exact held HM3.out (grown_own (‹Hid (World.grownBy w3 _ none) ∧ _›).1.out hga (by simp))
          | exact held HM3.out (grown_alloc (‹Hid (World.grownBy w3 _ none) ∧ _›).1.out _)
          | exact held HM3.out (grown_drewN (grown_alloc (grown_refl _ none) _) 1)
          | exact held HM3.out ⟨rfl, rfl, rfl, Nat.le_refl _, fun _ _ _ => rfl⟩)
        (first
          | (have _ := wb; go_at_call 19; refine (mac_any A4 Ab c4 cb kz x _ hs4 (HX.out.grown (grown_own HG3.out (‹Hid (World.grownBy w3 _ none) ∧ _›).1.out (by simp)) (by simp)) hc4 hcb (HK.out.grown (grown_own HG3.out (‹Hid (World.grownBy w3 _ none) ∧ _›).1.out (by simp)) (by simp)) (by have := Hzl.out; omega) (by omega)).mono ?_; rintro e wm ⟨rfl, hbm⟩; rw [Hmz.out]; unfold bytesA)
          | (have _ := wa; refine step_append_bytes rfl (.tmp 42) (.tmp 43) rfl w3.heap.size va key [0] rfl (by first | exact hoa.mono hba | exact (hoa.mono hba).grown (grown_alloc (grown_refl _ none) _) (by cases h : va.ownBlock <;> simp)) _ 1 rfl (by first | exact src_build (Row.new _ [.int .u8 0] 5) | exact (src_build (Row.new _ [.int .u8 0] 5)).grown hga (by simp) | exact (src_build ((Row.new _ [.int .u8 0] 5).drewN 1)).grown hga (by simp)) (by simp; omega) (‹Hid (World.grownBy w3 _ none) ∧ _›).1.out.size ?_
             intro vb wb hob hgb
             have hrow : ∀ i, va.ownBlock = some i → some i = none ∨ w3.heap.size ≤ i := fun i hi => Or.inr (Nat.le_trans hba (hoa.block i hi).1)
             rw [Hkz.out] at hob
             obtain ⟨A4, c4, rfl, hA4, hc4, hs4, hb4⟩ := own_slice hob)
          | (go_at_call 18; refine (copyBytes_any Ak ck key _ HAk.out (HKy.out.grown (grown_own HG3.out (‹Hid (World.grownBy w3 _ none) ∧ _›).1.out (by simp)) (by simp)) (by omega)).mono ?_; rintro e wa ⟨va, rfl, hoa, hga⟩
             have hba := (‹Hid (World.grownBy w3 _ none) ∧ _›).1.out.size))
      all_goals go_wp2_with fail
      all_goals go_meet
      all_goals exact ⟨rfl, (‹Hid (World.grownBy w3 _ none) ∧ _›).1⟩
    · refine wp_region_quiet_below (by kernel_rfl) (by kernel_rfl) ?_
      repeat (go_big_quiet_step (fail))
      refine wpQuiet_nil ?_
      rintro _ ⟨p, rfl⟩
      have hbp := below_regrown w3 p.d p.os
      generalize hwz : Sort.grow (redrawn w3 p.d) p.os = wz at hbp ⊢
      clear hwz
      go_wp2_with fail
      go_meet
      exact ⟨rfl, Lib.hid (grown_of_below hbp none)⟩
  case rest =>
    obtain ⟨rfl, HG⟩ := hcut
    have hGc : Hid (w.grownBy wc none) := Lib.hid (grown_own HG3.out HG.out (by simp))
    have hMc : Hid (Row wc B5 25 (S.map (Value.int .u8))) := Lib.hid (HM3.out.grown HG.out (by simp))
    obtain ⟨N0, hN0⟩ : ∃ N0, wc.heap.size = N0 := ⟨_, rfl⟩
    have HN0 : Hid (w.heap.size ≤ N0 ∧ B5 < N0 ∧ N0 ≤ wc.heap.size) := Lib.hid ⟨by have := hGc.out.size; omega, by have := hMc.out.lt; omega, by omega⟩
    have hall := slice_all25
    clear hN0 HG HG3 HM3 hne
    go_wp2_with fail
    go_loopw [7, 8, 9] (fun va vb i wr => ∃ j : Nat, j ≤ 64 ∧ i = .int .i64 j ∧ Hid (Own wr N0 va (xorL 54 (Kb.take j))) ∧ Hid (Own wr N0 vb (xorL 92 (Kb.take j))) ∧ Hid (Apart va vb) ∧ Hid (Row wr B5 25 (S.map (Value.int .u8))) ∧ Hid (w.grownBy wr none) ∧ Hid (N0 ≤ wr.heap.size))
      (fun _ _ i _ => 64 - (intOf i).toNat)
    case atStart => exact ⟨0, by omega, rfl, Lib.hid (own_nil wc N0), Lib.hid (own_nil wc N0), Lib.hid (fun k h _ => by cases h), hMc, hGc, Lib.hid HN0.out.2.2⟩
    case round =>
      clear hMc hGc
      obtain ⟨j, hj, rfl, Ha, Hb, Hap, HO, HG, HS⟩ := hrel
      by_cases hlt : j < 64
      · obtain ⟨y, hy⟩ : ∃ y, Kb.getD j 0 = y := ⟨_, rfl⟩
        have hyk := Hkg.out j hlt
        rw [hy] at hyk
        have ha1 : Hid (xorL 54 (Kb.take (j + 1)) = xorL 54 (Kb.take j) ++ [bits .xor .u8 y 54]) := Lib.hid (by rw [xorL_take 54 Kb j (by have := Hkl.out; omega), hy])
        have hb1 : Hid (xorL 92 (Kb.take (j + 1)) = xorL 92 (Kb.take j) ++ [bits .xor .u8 y 92]) := Lib.hid (by rw [xorL_take 92 Kb j (by have := Hkl.out; omega), hy])
        have hla : Hid ((xorL 54 (Kb.take j)).length ≤ 64) := Lib.hid (by rw [xorL_length]; simp; omega)
        have hlb : Hid ((xorL 92 (Kb.take j)).length ≤ 64) := Lib.hid (by rw [xorL_length]; simp; omega)
        clear hy
        go_upto_if 57 with fail
        go_cut [10] (fun v wx => v = .int .u8 y ∧ Hid (wx = wr))
        case first =>
          by_cases hjk : j < key.length
          · rw [if_pos hjk] at hyk
            obtain ⟨⟨ab, ao, asp⟩, rfl, hs, hcl⟩ := HKy.out (by omega)
            simp at hs
            subst hs
            have c1 := hcl j hjk
            rw [← grown_cell HG.out (block_lt_of_cell c1) (by simp), ← hyk] at c1
            clear hcl hyk
            go_wp2_with fail
            go_meet
            exact ⟨rfl, Lib.hid rfl⟩
          · rw [if_neg hjk] at hyk
            subst hyk
            go_wp2_with fail
            go_meet
            exact ⟨rfl, Lib.hid rfl⟩
        case rest =>
          obtain ⟨rfl, hwx⟩ := hcut
          have hwe := hwx.out
          subst hwe
          clear hwx hyk
          go_wp2_with (first
            | (have _ := w8; refine wpList_append_bytes2 rfl (.tmp 67) (.tmp 70) rfl N0 _ (xorL 92 (Kb.take j)) [bits .xor .u8 y 92] rfl (Hu7.out.grown hg8 (by cases h : u8.ownBlock <;> simp)) (some ⟨w7.heap.size, 0, none⟩) 1 rfl (by intro h; cases h) (src_build hr8) (by have := hlb.out; simp; omega) (by have := HS7.out; have := hg8.size; omega) ?_; intro v9 w9 ho9 hg9 hf9; simp only [Act.put, List.setIfInBounds_toArray, List.set_cons_zero, List.set_cons_succ]
               have Ho9 : Hid (Own w9 N0 v9 (xorL 92 (Kb.take (j + 1)))) := Lib.hid (by rw [hb1.out]; exact ho9)
               have hrow9 : ∀ i, u8.ownBlock = some i → N0 ≤ i := fun i hi => (Hu7.out.block i hi).1
               have Hv9 : Hid (Own w9 N0 v7 (xorL 54 (Kb.take (j + 1)))) := Lib.hid ((Ho7.out.grown hg8 (by cases h : v7.ownBlock <;> simp)).grown hg9 Hap7.out.symm.row)
               have Hap9 : Hid (Apart v7 v9) := Lib.hid (Hap7.out.symm.step hf9 (Ho7.out.grown hg8 (by cases h : v7.ownBlock <;> simp))).symm
               have HO9 : Hid (Row w9 B5 25 (S.map (Value.int .u8))) := Lib.hid ((HO7.out.grown hg8 (by simp)).grown hg9 (by intro e; have := hrow9 _ e.symm; have := HN0.out; omega))
               have HG9 : Hid (w.grownBy w9 none) := Lib.hid (grown_own (grown_own HG7.out hg8 (by simp)) hg9 (by intro i hi; right; have := hrow9 _ hi; have := HN0.out; omega))
               have HS9 : Hid (N0 ≤ w9.heap.size) := Lib.hid (by have := HS7.out; have := hg8.size; have := hg9.size; omega)
               clear ho9 hf9 hrow9 hr8 hg8 hg9)
            | (have _ := w7; refine wpList_build1 rfl 22 5 (.tmp 69) rfl Tryd.underlying22 (.int .u8 (bits .xor .u8 y 92)) rfl _ info5 (by kernel_rfl) (.int .u8 0) (by kernel_rfl) rfl rfl ?_; intro w8 hr8 hg8 hs8; clear hs8; simp only [Act.put, List.setIfInBounds_toArray, List.set_cons_zero, List.set_cons_succ])
            | (have _ := w6; refine wpList_append_bytes2 rfl (.tmp 62) (.tmp 65) rfl N0 _ (xorL 54 (Kb.take j)) [bits .xor .u8 y 54] rfl (Ha.out.grown hg6 (by cases h : u7.ownBlock <;> simp)) (some ⟨wc.heap.size, 0, none⟩) 1 rfl (by intro h; cases h) (src_build hr6) (by have := hla.out; simp; omega) (by have := HS.out; have := hg6.size; omega) ?_; intro v7 w7 ho7 hg7 hf7; simp only [Act.put, List.setIfInBounds_toArray, List.set_cons_zero, List.set_cons_succ]
               have Ho7 : Hid (Own w7 N0 v7 (xorL 54 (Kb.take (j + 1)))) := Lib.hid (by rw [ha1.out]; exact ho7)
               have hrow7 : ∀ i, u7.ownBlock = some i → N0 ≤ i := fun i hi => (Ha.out.block i hi).1
               have Hu7 : Hid (Own w7 N0 u8 (xorL 92 (Kb.take j))) := Lib.hid ((Hb.out.grown hg6 (by cases h : u8.ownBlock <;> simp)).grown hg7 Hap.out.row)
               have Hap7 : Hid (Apart v7 u8) := Lib.hid (Hap.out.step hf7 (Hb.out.grown hg6 (by cases h : u8.ownBlock <;> simp)))
               have HO7 : Hid (Row w7 B5 25 (S.map (Value.int .u8))) := Lib.hid ((HO.out.grown hg6 (by simp)).grown hg7 (by intro e; have := hrow7 _ e.symm; have := HN0.out; omega))
               have HG7 : Hid (w.grownBy w7 none) := Lib.hid (grown_own (grown_own HG.out hg6 (by simp)) hg7 (by intro i hi; right; have := hrow7 _ hi; have := HN0.out; omega))
               have HS7 : Hid (N0 ≤ w7.heap.size) := Lib.hid (by have := HS.out; have := hg6.size; have := hg7.size; omega)
               clear ho7 hf7 hrow7 hr6 hg6 hg7)
            | (refine wpList_build1 rfl 22 5 (.tmp 64) rfl Tryd.underlying22 (.int .u8 (bits .xor .u8 y 54)) rfl _ info5 (by kernel_rfl) (.int .u8 0) (by kernel_rfl) rfl rfl ?_; intro w6 hr6 hg6 hs6; clear hs6; simp only [Act.put, List.setIfInBounds_toArray, List.set_cons_zero, List.set_cons_succ]))
          go_roundw
          case rel => exact ⟨j + 1, by omega, by go_num, Hv9, Ho9, Hap9, HO9, HG9, HS9⟩
          case measure => simp [intOf]; omega
      · have hj64 : j = 64 := by omega
        subst hj64
        simp only [Int.cast_ofNat_Int]
        have hk64 : Kb.take 64 = Kb := List.take_of_length_le (by have := Hkl.out; omega)
        rw [hk64] at Ha Hb
        have hla : Hid ((xorL 54 Kb).length = 64) := Lib.hid (by rw [xorL_length]; exact Hkl.out)
        have hlb : Hid ((xorL 92 Kb).length = 64) := Lib.hid (by rw [xorL_length]; exact Hkl.out)
        obtain ⟨La, hLa⟩ : ∃ L, xorL 54 Kb = L := ⟨_, rfl⟩
        obtain ⟨Lb, hLb⟩ : ∃ L, xorL 92 Kb = L := ⟨_, rfl⟩
        rw [hLa] at Ha hla Hmac
        rw [hLb] at Hb hlb Hmac
        obtain ⟨Lc, hLc⟩ : ∃ L, La ++ x = L := ⟨_, rfl⟩
        rw [hLc] at Hmac
        have HLc := Lib.hid hLc
        obtain ⟨S1, hS1⟩ : ∃ S, sha Lc = S := ⟨_, rfl⟩
        rw [hS1] at Hmac
        have hS1l : Hid (S1.length = 32) := Lib.hid (by rw [← hS1]; exact sha_length _)
        have H1S1 := Lib.hid (oneCell_bytes S1)
        have HS1 := Lib.hid hS1
        obtain ⟨Ld, hLd⟩ : ∃ L, Lb ++ S1 = L := ⟨_, rfl⟩
        rw [hLd] at Hmac
        have HLd := Lib.hid hLd
        clear hLa hLb hLc hLd hS1 hk64 hj hlt
        go_wp2_with (first
          | (have _ := w13; refine wpList_append_bytes2 rfl (.tmp 77) (.tmp 78) rfl N0 _ Lb S1 rfl Hb13.out (some ⟨w11.heap.size, 0, none⟩) 32 (by rw [hS1l.out]; rfl) (by intro h; cases h) (src_row Hr13.out) (by have := hlb.out; have := hS1l.out; omega) HS13.out ?_; intro v14 w14 ho14 hg14 hf14; simp only [Act.put, List.setIfInBounds_toArray, List.set_cons_zero, List.set_cons_succ]
             have hrow14 : ∀ i, u8.ownBlock = some i → N0 ≤ i := fun i hi => (Hb13.out.block i hi).1
             have HO14 : Hid (Row w14 B5 25 (S.map (Value.int .u8))) := Lib.hid (HO13.out.grown hg14 (by intro e; have := hrow14 _ e.symm; have := HN0.out; omega))
             have HG14 : Hid (w.grownBy w14 none) := Lib.hid (grown_own HG13.out hg14 (by intro i hi; right; have := hrow14 _ hi; have := HN0.out; omega))
             rw [HLd.out] at ho14
             obtain ⟨A14, c14, rfl, hA14, hc14, hsrc14, hbl14⟩ := own_slice ho14
             have Hc14 := Lib.hid hc14
             have Hsrc14 := Lib.hid hsrc14
             clear ho14 hf14 hrow14 hg14 hA14 hc14 hsrc14 hbl14)
          | (have _ := w12; refine wpList_store_Row rfl 25 _ _ rfl w11.heap.size (S1.map (Value.int .u8)) rfl rfl 25 z32 hr12 (by rw [List.length_map, hS1l.out]; exact size25) (by rw [List.length_map, hS1l.out]; rfl) H1S1.out ?_; intro w13 hr13 hg13 hs13; clear hs13; simp only [Act.put, List.setIfInBounds_toArray, List.set_cons_zero, List.set_cons_succ]
             have Hr13 := Lib.hid hr13
             have Hb13 : Hid (Own w13 N0 u8 Lb) := Lib.hid ((Hb11.out.grown hg12 (by cases h : u8.ownBlock <;> simp)).grown hg13 (by
               cases h : u8.ownBlock with
               | none => exact .inl rfl
               | some k => right; intro e; simp at e; have := (Hb11.out.block k h).2; omega))
             have HO13 : Hid (Row w13 B5 25 (S.map (Value.int .u8))) := Lib.hid ((HO11.out.grown hg12 (by simp)).grown hg13 (by have := HO11.out.lt; simp; omega))
             have HG13 : Hid (w.grownBy w13 none) := Lib.hid (grown_own (grown_own HG11.out hg12 (by simp)) hg13 (by intro i hi; right; have := HG11.out.size; simp at hi; omega))
             have HS13 : Hid (N0 ≤ w13.heap.size) := Lib.hid (by have := HS11.out; have := hg12.size; have := hg13.size; omega)
             clear hr12 hg12 hr13 hg13)
          | (have _ := w11; refine wpList_alloc_abs rfl 25 rfl z32 _ (zero25 _) rfl ?_; intro w12 hr12 hg12 hs12; have Hs12 := Lib.hid hs12; clear hs12; simp only [Act.put, List.setIfInBounds_toArray, List.set_cons_zero, List.set_cons_succ])
          | (go_at_call 10; refine (dsum_any A10 c10 Lc w10 Hsrc10.out Hc10.out (HK.out.grown HG10.out (by simp)) (by have := hla.out; rw [← HLc.out, List.length_append]; omega)).mono ?_
             rintro e w11 ⟨rfl, hb11⟩
             rw [HS1.out]
             have Hb11 : Hid (Own w11 N0 u8 Lb) := Lib.hid (Hb10.out.grown (grown_of_below hb11 none) (by cases h : u8.ownBlock <;> simp))
             have HO11 : Hid (Row w11 B5 25 (S.map (Value.int .u8))) := Lib.hid (HO10.out.below hb11 HO10.out.lt)
             have HG11 : Hid (w.grownBy w11 none) := Lib.hid (grown_below HG10.out hb11 HG10.out.size)
             have HS11 : Hid (N0 ≤ w11.heap.size) := Lib.hid (by have := HS10.out; have := hb11.size; omega)
             unfold bytesA
             clear hb11)
          | (refine wpList_append_bytes2 rfl (.tmp 72) (.tmp 73) rfl N0 _ La x rfl Ha.out Ab cb rfl HAb.out (HX.out.grown HG.out (by simp)) (by have := hla.out; omega) HS.out ?_; intro v10 w10 ho10 hg10 hf10; simp only [Act.put, List.setIfInBounds_toArray, List.set_cons_zero, List.set_cons_succ]
             have hrow10 : ∀ i, u7.ownBlock = some i → N0 ≤ i := fun i hi => (Ha.out.block i hi).1
             have Hb10 : Hid (Own w10 N0 u8 Lb) := Lib.hid (Hb.out.grown hg10 Hap.out.row)
             have HO10 : Hid (Row w10 B5 25 (S.map (Value.int .u8))) := Lib.hid (HO.out.grown hg10 (by intro e; have := hrow10 _ e.symm; have := HN0.out; omega))
             have HG10 : Hid (w.grownBy w10 none) := Lib.hid (grown_own HG.out hg10 (by intro i hi; right; have := hrow10 _ hi; have := HN0.out; omega))
             have HS10 : Hid (N0 ≤ w10.heap.size) := Lib.hid (by have := HS.out; have := hg10.size; omega)
             rw [HLc.out] at ho10
             obtain ⟨A10, c10, rfl, hA10, hc10, hsrc10, hbl10⟩ := own_slice ho10
             have Hc10 := Lib.hid hc10
             have Hsrc10 := Lib.hid hsrc10
             clear ho10 hf10 hrow10 hg10 hA10 hc10 hsrc10 hbl10))
        have hm10 : Hid (∀ wx, Below w14.heap.size w14 wx → Calls Tryd.prog 10 #[.slice A14 Ld.length c14] wx fun e w' => e = .returned (.agg (S.map (Value.int .u8)).toArray) ∧ Below wx.heap.size wx w') := Lib.hid fun wx hb => by
          have h := dsum_any A14 c14 Ld wx (Hsrc14.out.below hb) Hc14.out ((HK.out.grown HG14.out (by simp)).below hb) (by have := hlb.out; have := hS1l.out; rw [← HLd.out, List.length_append]; omega)
          rw [← Hmac.out] at h
          exact h
        have hw8 : Hid (∀ wx, Below w14.heap.size w14 wx → Calls Tryd.prog 8 #[] wx fun e w' => e = .returned (.bool true) ∧ Below wx.heap.size wx w') := Lib.hid fun wx hb => works_any wx ((HK.out.grown HG14.out (by simp)).below hb)
        refine wp_region_quiet_below (by kernel_rfl) (by kernel_rfl) ?_
        repeat (first
          | (refine wpQuiet_load_Row rfl 25 _ rfl B5 rfl (S.map (Value.int .u8)) 25 (by rintro _ ⟨p, rfl⟩; exact HO14.out.below (below_regrown _ _ _) HO14.out.lt) _ Tryd.underlying25 rfl (by rw [hSC.out]; exact size25) ?_; simp only [Act.put, List.setIfInBounds_toArray, List.set_cons_zero, List.set_cons_succ])
          | go_big_quiet_step (first | (go_at_call 10; exact Calls.regrown_of (hm10.out _ (below_regrown _ _ _))) | (go_at_call 8; exact Calls.regrown_of (hw8.out _ (below_regrown _ _ _)))))
        refine wpQuiet_nil ?_
        rintro _ ⟨p, rfl⟩
        have hbp := below_regrown w14 p.d p.os
        generalize hwz : Sort.grow (redrawn w14 p.d) p.os = wz at hbp ⊢
        clear hwz
        go_wp2_with fail
        go_ret
        exact ⟨rfl, below_of_grown (grown_own HG14.out (grown_of_below hbp none) (by simp))⟩
end Go.Proofs.YtkfdaeipfjcibaaDoor
