/- The statements' own: the keys of a value with its members by rising keys rise. -/
import Derived.Test.YtlbilofnbhhmjaaDoorAlike
namespace Go.Proofs.YtlbilofnbhhmjaaDoor
open Go.RowKit
set_option linter.unusedVariables false
set_option linter.unusedSimpArgs false
def RiseIs (w0 : World) (x : J) : Prop := ∀ (cs : List Value) (w : World), JR w0 x cs → Below w0.heap.size w0 w → Calls Tryd.prog 21 #[.agg cs.toArray] w fun e w' => e = .returned (.bool true) ∧ Below w.heap.size w w'
set_option maxHeartbeats 6400000 in
set_option maxRecDepth 100000 in
theorem rise_step (w0 : World) (kd : Int) (bb : Bool) (t : ByteArray) (ks : List ByteArray) (ls : List J) (hkl : ks.length ≤ 256) (hll : ls.length ≤ 256) (hk : ∀ (i : Nat) a b, ks[i]? = some a → ks[i + 1]? = some b → Op.bytesLess a.toList b.toList = true) (IH : ∀ x ∈ ls, RiseIs w0 x) : RiseIs w0 (.mk kd bb t ks ls) := by
  intro cs w hj hb
  unfold JR at hj
  obtain ⟨A1, c1, B1, d1, rfl, hkc1, hlc1, hA1, hB1⟩ := hj
  have IH := Lib.hid IH
  have HK := Lib.hid hk
  have HA1 := Lib.hid hA1
  have HB1 := Lib.hid hB1
  have Hb := Lib.hid hb
  clear hA1 hB1 hb hkc1 hlc1 hk
  go_enter Tryd.func21, Tryd.ntmps21
  go_upto_region 1 with (refine wpList_box_abs rfl 29 (.tmp 0) rfl [.int .i8 kd, .bool bb, .string t, .slice A1 ks.length c1, .slice B1 ls.length d1] rfl ?_; intro w1 hr1 hg1 hs1; clear hs1; simp only [Act.put, List.setIfInBounds_toArray, List.set_cons_zero, List.set_cons_succ])
  obtain ⟨p, hp⟩ : ∃ x, w.heap.size = x := ⟨_, rfl⟩
  rw [hp] at hr1 ⊢
  have HX := Lib.hid hr1
  have HG := Lib.hid hg1
  clear hr1 hg1 hp
  go_wp2_with fail
  go_loopw [3] (fun v wr => ∃ i : Nat, i ≤ ks.length ∧ v = .int .i64 (i : Int) ∧ Hid (Row wr p 29 [.int .i8 kd, .bool bb, .string t, .slice A1 ks.length c1, .slice B1 ls.length d1]) ∧ Hid (w.grownBy wr none)) (fun v _ => ks.length - (intOf v).toNat)
  case atStart => exact ⟨0, by omega, rfl, HX, HG⟩
  case round =>
    clear HX HG
    obtain ⟨i, hi, rfl, HX, HG⟩ := hrel
    have a3 := HX.out.at_ (j := 3) rfl
    by_cases hlt : i + 1 < ks.length
    · obtain ⟨ka, hka⟩ : ∃ x, ks[i]? = some x := ⟨_, List.getElem?_eq_getElem (by omega)⟩
      obtain ⟨kb, hkb⟩ : ∃ x, ks[i + 1]? = some x := ⟨_, List.getElem?_eq_getElem hlt⟩
      have hless := HK.out i ka kb hka hkb
      obtain ⟨g1, o1, rfl, hc1⟩ := strAt_get HA1.out hka
      obtain ⟨b2, o2, hbb, hc2⟩ := strAt_get HA1.out hkb
      simp only [Option.some.injEq, Addr.mk.injEq, and_true] at hbb
      obtain ⟨rfl, rfl⟩ := hbb
      have hB := grown_below0 Hb.out HG.out (by simp)
      have z1 := below_cell hB hc1
      have z2 := below_cell hB hc2
      have e1 : (i : Int) + 1 < (ks.length : Int) := by omega
      have e2 : IntKind.i64.wrap ((i : Int) + 1) = (i : Int) + 1 := IntWalk.i64_in _ (by omega)
      have e3 : (0 : Int) ≤ (i : Int) + 1 := by omega
      have e4 : ((i : Int) + 1).toNat = i + 1 := by omega
      clear hka hkb hc1 hc2 hB hi hlt
      go_wp2_with fail
      go_quiet (fail)
      have HX2 := Lib.hid (HX.out.drewN nq)
      have HG2 := Lib.hid (grown_drewN HG.out nq)
      generalize hw : wr.drewN nq = w2 at HX2 HG2
      clear hw a3 z1 z2 e2 e3 e4
      go_wp2_with fail
      go_roundw
      case rel => exact ⟨i + 1, by omega, by go_num, HX2, HG2⟩
      case measure => simp [intOf]; omega
    · have e1 : ¬ (i : Int) + 1 < (ks.length : Int) := by omega
      clear hlt
      go_wp2_with fail
      clear a3
      go_loopw [4] (fun v wr => ∃ i : Nat, i ≤ ls.length ∧ v = .int .i64 (i : Int) ∧ Hid (Row wr p 29 [.int .i8 kd, .bool bb, .string t, .slice A1 ks.length c1, .slice B1 ls.length d1]) ∧ Hid (w.grownBy wr none)) (fun v _ => ls.length - (intOf v).toNat)
      case atStart => exact ⟨0, by omega, rfl, HX, HG⟩
      case round =>
        clear HX HG
        obtain ⟨i2, hi2, rfl, HX, HG⟩ := hrel
        have a4 := HX.out.at_ (j := 4) rfl
        by_cases hlt : i2 < ls.length
        · obtain ⟨jv, hjv⟩ : ∃ jv, ls[i2]? = some jv := ⟨_, List.getElem?_eq_getElem hlt⟩
          obtain ⟨m1, f1, cj, rfl, hJ1, hcx⟩ := HB1.out.get hjv
          obtain ⟨p0, p1, p2, p3, p4, rfl⟩ := five_of hJ1.five
          have hB := grown_below0 Hb.out HG.out (by simp)
          have x0 : wr.cell? ⟨m1, f1 + i2 * 5, none⟩ = some p0 := by have := below_cell hB (hcx 0 _ rfl); rwa [show f1 + (0 + i2 * 5 + 0) = f1 + i2 * 5 by omega] at this
          have x1 : wr.cell? ⟨m1, f1 + i2 * 5 + 1, none⟩ = some p1 := by have := below_cell hB (hcx 1 _ rfl); rwa [show f1 + (0 + i2 * 5 + 1) = f1 + i2 * 5 + 1 by omega] at this
          have x2 : wr.cell? ⟨m1, f1 + i2 * 5 + 2, none⟩ = some p2 := by have := below_cell hB (hcx 2 _ rfl); rwa [show f1 + (0 + i2 * 5 + 2) = f1 + i2 * 5 + 2 by omega] at this
          have x3 : wr.cell? ⟨m1, f1 + i2 * 5 + 3, none⟩ = some p3 := by have := below_cell hB (hcx 3 _ rfl); rwa [show f1 + (0 + i2 * 5 + 3) = f1 + i2 * 5 + 3 by omega] at this
          have x4 : wr.cell? ⟨m1, f1 + i2 * 5 + 4, none⟩ = some p4 := by have := below_cell hB (hcx 4 _ rfl); rwa [show f1 + (0 + i2 * 5 + 4) = f1 + i2 * 5 + 4 by omega] at this
          have e6 : (i2 : Int) < (ls.length : Int) := by omega
          have Hlc : Hid (Calls Tryd.prog 21 #[.agg #[p0, p1, p2, p3, p4]] wr fun e w' => e = .returned (.bool true) ∧ Below wr.heap.size wr w') := Lib.hid (IH.out jv (List.mem_of_getElem? hjv) [p0, p1, p2, p3, p4] wr hJ1 hB)
          clear hB hJ1 hcx hjv
          go_wp2_with (go_at_call 21; refine Hlc.out.mono ?_; rintro e w5 ⟨rfl, hb5⟩; have HG5 := Lib.hid (grown_of_below hb5 none); clear hb5)
          have HX5 := Lib.hid (HX.out.grown HG5.out (by simp))
          have HG6 := Lib.hid (grown_own HG.out HG5.out (by simp))
          go_roundw
          case rel => exact ⟨i2 + 1, by omega, by go_num, HX5, HG6⟩
          case measure => simp [intOf]; omega
        · have e6 : ¬ (i2 : Int) < (ls.length : Int) := by omega
          go_wp2_with fail
          go_ret
          exact ⟨rfl, below_of_grown HG.out⟩
theorem rise_sort (w0 : World) : ∀ (f : Nat) (j : J), Right f j → RiseIs w0 (sortJ f j)
  | 0, j, h => h.elim
  | f + 1, j, h => by
    have hK := right_kind h
    unfold Right at h
    obtain ⟨h1, h2, h3, h4, h5, h6⟩ := h
    obtain ⟨hkd, hbl, htx⟩ := sort_kd (f + 1) j
    by_cases h50 : j.kd = 5
    · obtain ⟨e1, e2⟩ := sort_obj (f := f) h50
      have hl := (hK.k5 h50).2
      have hnd := (h5 h50).2
      have key := rise_step w0 (sortJ (f + 1) j).kd (sortJ (f + 1) j).bl (sortJ (f + 1) j).tx (sortJ (f + 1) j).ks (sortJ (f + 1) j).ls (by rw [e1, List.length_map, ord_len]; omega) (by rw [e2, List.length_map, ord_len]; omega)
        (fun i a b ha hb => by
          rw [e1, List.getElem?_map] at ha hb
          obtain ⟨oa, hoa, rfl⟩ := Option.map_eq_some_iff.1 ha
          obtain ⟨ob, hob, rfl⟩ := Option.map_eq_some_iff.1 hb
          obtain ⟨la, ea⟩ := List.getElem?_eq_some_iff.1 hoa
          obtain ⟨lb, eb⟩ := List.getElem?_eq_some_iff.1 hob
          have hs := ord_sorted j.ks
          rw [List.pairwise_iff_getElem] at hs
          have hlt := hs i (i + 1) la lb (by omega)
          rw [ea, eb] at hlt
          have ma : oa < j.ks.length := ord_mem.1 (by rw [← ea]; exact List.getElem_mem _)
          have mb : ob < j.ks.length := ord_mem.1 (by rw [← eb]; exact List.getElem_mem _)
          show keyLt j.ks oa ob = true
          cases hc : keyLt j.ks oa ob with
          | true => rfl
          | false =>
            exfalso
            have := key_anti hnd ma mb hc hlt
            subst this
            have hndo : (ordOf j.ks).Nodup := (ord_perm j.ks).nodup_iff.2 List.nodup_range
            rw [List.nodup_iff_pairwise_ne, List.pairwise_iff_getElem] at hndo
            exact hndo i (i + 1) la lb (by omega) (ea.trans eb.symm))
        (fun x hx => by
          rw [e2] at hx
          obtain ⟨o, ho, rfl⟩ := List.mem_map.1 hx
          exact rise_sort w0 f _ (h6 _ (getD_mem (by have := ord_mem.1 ho; omega))))
      rw [← J.eta] at key
      exact key
    · obtain ⟨e1, e2⟩ := sort_flat (f := f) h50
      have hks : j.ks = [] := by
        rcases hK.all with e | e | e | e | e | e
        · have := congrArg J.ks (hK.k0 e); exact this
        · have := congrArg J.ks (hK.k1 e); exact this
        · have := congrArg J.ks (hK.k2 e); exact this
        · have := congrArg J.ks (hK.k3 e); exact this
        · have := congrArg J.ks (hK.k4 e); exact this
        · exact absurd e h50
      have key := rise_step w0 (sortJ (f + 1) j).kd (sortJ (f + 1) j).bl (sortJ (f + 1) j).tx (sortJ (f + 1) j).ks (sortJ (f + 1) j).ls (by rw [e1, hks]; simp) (by rw [e2, List.length_map]; exact h2)
        (fun i a b ha hb => by rw [e1, hks] at ha; simp at ha)
        (fun x hx => by
          rw [e2] at hx
          obtain ⟨o, ho, rfl⟩ := List.mem_map.1 hx
          exact rise_sort w0 f _ (h6 _ ho))
      rw [← J.eta] at key
      exact key
end Go.Proofs.YtlbilofnbhhmjaaDoor
