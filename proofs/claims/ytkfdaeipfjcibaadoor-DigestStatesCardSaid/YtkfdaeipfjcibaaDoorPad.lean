/- The reference's padding: a byte 128, zeros, the length. -/
import Derived.Test.YtkfdaeipfjcibaaDoorApp
namespace Go.Proofs.YtkfdaeipfjcibaaDoor
open Go.RowKit
set_option linter.unusedVariables false
set_option linter.unusedSimpArgs false
theorem lenBytes_take (n k : Nat) (hk : k < 8) : (lenBytes n).take (k + 1) = (lenBytes n).take k ++ [(8 * n : Int) / 2 ^ (56 - 8 * k) % 256] := by
  have hl : (lenBytes n).length = 8 := by simp [lenBytes]
  rw [List.take_succ_eq_append_getElem (by omega)]
  simp [lenBytes]
theorem lenBytes_all (n : Nat) : (lenBytes n).take 8 = lenBytes n := List.take_of_length_le (by simp [lenBytes])
set_option maxHeartbeats 1600000 in
set_option maxRecDepth 100000 in
theorem padded_any (A : Option Addr) (c : Nat) (x : List Int) (w : World) (hA : A = none → x = [] ∧ c = 0) (hx : Src w A x) (hsz : x.length ≤ 1073741824) :
    Calls Tryd.prog 21 #[.slice A x.length c] w fun e w' => ∃ v, e = .returned v ∧ Own w' w.heap.size v (padded x) ∧ w.grownBy w' none := by
  have HX := Lib.hid hx
  have HA := Lib.hid hA
  clear hx hA
  obtain ⟨n, hn⟩ : ∃ n, x.length = n := ⟨_, rfl⟩
  have HN := Lib.hid hn
  go_enter Tryd.func21, Tryd.ntmps21
  go_wp2_with (first
    | (refine wpList_append_bytes rfl (.tmp 6) (.tmp 7) rfl w.heap.size _ [] x rfl (own_nil w _) A c rfl HA.out HX.out (by simp; omega) (Nat.le_refl _) ?_; intro v1 w1 ho1 hg1; simp only [Act.put, List.setIfInBounds_toArray, List.set_cons_zero, List.set_cons_succ]
       rw [List.nil_append] at ho1
       have Ho1 := Lib.hid ho1
       have Hg1 : Hid (w.grownBy w1 none) := Lib.hid hg1
       clear ho1 hg1)
    | (refine wpList_build1 rfl 22 5 _ rfl Tryd.underlying22 (.int .u8 128) rfl _ info5 (by kernel_rfl) (.int .u8 0) (by kernel_rfl) rfl rfl ?_; intro w2 hr2 hg2 hs2; clear hs2; simp only [Act.put, List.setIfInBounds_toArray, List.set_cons_zero, List.set_cons_succ])
    | (refine wpList_append_bytes rfl (.tmp 9) (.tmp 10) rfl w.heap.size _ x [128] rfl (Ho1.out.grown hg2 (by cases h : v1.ownBlock <;> simp)) (some ⟨w1.heap.size, 0, none⟩) 1 rfl (by intro h; cases h) (src_build hr2) (by simp; omega) (by have := Hg1.out.size; have := hg2.size; omega) ?_; intro v3 w3 ho3 hg3; simp only [Act.put, List.setIfInBounds_toArray, List.set_cons_zero, List.set_cons_succ]
       have Ho3 := Lib.hid ho3
       have Hg3 : Hid (w.grownBy w3 none) := Lib.hid (grown_own (grown_own Hg1.out hg2 (by simp)) hg3 (fun i hi => Or.inr (Ho1.out.block i hi).1))
       clear ho3 hg3 hr2 hg2))
  obtain ⟨p, hp⟩ : ∃ p, padTo n = p := ⟨_, rfl⟩
  have hpd : p = (119 - n % 64) % 64 := by rw [← hp]; rfl
  have HPD := Lib.hid hpd
  have HP := Lib.hid hp
  clear hp hpd hn
  go_loopw [3] (fun v wr => ∃ k : Nat, k ≤ p ∧ Hid (Own wr w.heap.size v (x ++ [128] ++ List.replicate k 0)) ∧ Hid (w.grownBy wr none))
    (fun v _ => match v with | .slice _ m _ => n + 1 + p - m | _ => 0)
  case atStart => exact ⟨0, by omega, Lib.hid (by simpa using Ho3.out), Hg3⟩
  case round =>
    obtain ⟨k, hk, Ho, Hg⟩ := hrel
    have hlen : (x ++ [128] ++ List.replicate k 0).length = n + 1 + k := by have := HN.out; simp; omega
    obtain ⟨A1, c1, hv, hA1, hc1, hsrc1, hblk1⟩ := own_slice Ho.out
    rw [hlen] at hv hc1
    subst hv
    have HSrc := Lib.hid hsrc1
    have Hlen := Lib.hid hlen
    clear hA1 hsrc1 hlen hblk1
    obtain ⟨m, hm⟩ : ∃ m, n + 1 + k = m := ⟨_, rfl⟩
    rw [hm] at hc1 Ho ⊢
    have HM := Lib.hid hm
    clear hm
    by_cases hlt : k < p
    · have ht : (((m : Int) % 64) != 56) = true := by have := HM.out; have := HPD.out; rw [bne_iff_ne]; omega
      have Hk := Lib.hid hk
      have Hlt := Lib.hid hlt
      clear hk hlt
      go_wp2_with (first
        | (refine wpList_build1 rfl 22 5 _ rfl Tryd.underlying22 (.int .u8 0) rfl _ info5 (by kernel_rfl) (.int .u8 0) (by kernel_rfl) rfl rfl ?_; intro w4 hr4 hg4 hs4; clear hs4; simp only [Act.put, List.setIfInBounds_toArray, List.set_cons_zero, List.set_cons_succ])
        | (refine wpList_append_bytes rfl (.tmp 16) (.tmp 17) rfl w.heap.size _ (x ++ [128] ++ List.replicate k 0) [0] rfl (Ho.out.grown hg4 (by cases h : (Value.slice A1 m c1).ownBlock <;> simp)) (some ⟨wr.heap.size, 0, none⟩) 1 rfl (by intro h; cases h) (src_build hr4) (by have := Hlen.out; have := HM.out; have := HN.out; have := HPD.out; have := Hk.out; rw [Hlen.out]; simp; omega) (by have := Hg.out.size; have := hg4.size; omega) ?_; intro v5 w5 ho5 hg5; simp only [Act.put, List.setIfInBounds_toArray, List.set_cons_zero, List.set_cons_succ]
           have Ho5 := Lib.hid ho5
           have Hg5 : Hid (w.grownBy w5 none) := Lib.hid (grown_own (grown_own Hg.out hg4 (by simp)) hg5 (fun i hi => Or.inr (Ho.out.block i hi).1))
           clear ho5 hg5 hr4 hg4))
      go_roundw
      case rel =>
        refine ⟨k + 1, by have := Hlt.out; omega, Lib.hid ?_, Hg5⟩
        rw [List.replicate_succ', ← List.append_assoc]; exact Ho5.out
      case measure =>
        obtain ⟨A6, c6, hv6, _⟩ := own_slice Ho5.out
        have h6 := Hlen.out
        rw [List.length_append, h6] at hv6
        subst hv6
        have := HM.out; have := Hlt.out; simp; omega
    · have hkp : k = p := by omega
      have ht : (((m : Int) % 64) != 56) = false := by have := HM.out; have := HPD.out; rw [bne_eq_false_iff_eq]; omega
      have hpad : x ++ [128] ++ List.replicate k 0 ++ lenBytes n = padded x := by
        rw [padded, HN.out, HP.out, hkp]; simp
      have hnx := HN.out
      subst hnx
      have h8n : (8 * (x.length : Int)) % 18446744073709551616 = 8 * (x.length : Int) := by omega
      have Hpad := Lib.hid hpad
      have Hb : Hid ((x ++ [128] ++ List.replicate k 0).length ≤ 1073741824 + 100) := Lib.hid (by have := HN.out; have := HPD.out; rw [Hlen.out]; omega)
      obtain ⟨y, hy⟩ : ∃ y, x ++ [128] ++ List.replicate k 0 = y := ⟨_, rfl⟩
      rw [hy] at Ho Hpad Hlen Hb
      have HY := Lib.hid hy
      have Hkp := Lib.hid hkp
      clear hy hkp hk hlt hpad HSrc
      go_wp2_with fail
      go_loopw [3, 5] (fun v i wr => ∃ j : Nat, j ≤ 8 ∧ i = .int .i64 (7 - (j : Int)) ∧ Hid (Own wr w.heap.size v (y ++ (lenBytes x.length).take j)) ∧ Hid (w.grownBy wr none))
        (fun _ i _ => (intOf i + 1).toNat)
      case atStart => exact ⟨0, by omega, by go_num, Lib.hid (by simpa using Ho.out), Hg⟩
      case round =>
        obtain ⟨j, hj, rfl, Ho7, Hg7⟩ := hrel
        by_cases hlt : j < 8
        · have hb := lenBytes_take x.length j hlt
          have hlj : (y ++ (lenBytes x.length).take j).length + 1 ≤ 1099511627776 := by have := Hb.out; simp; omega
          have HLj := Lib.hid hlj
          have hsh : 8 * (7 - (j : Int)) = ((56 - 8 * j : Nat) : Int) := by omega
          obtain ⟨sh, hshd⟩ : ∃ sh : Nat, 56 - 8 * j = sh := ⟨_, rfl⟩
          rw [hshd] at hsh hb
          have HB := Lib.hid hb
          have hsh56 : sh ≤ 56 := by omega
          clear hlj hb hshd
          go_wp2_with (first
            | (refine wpList_build1 rfl 22 5 (.tmp 32) rfl Tryd.underlying22 (.int .u8 (8 * (x.length : Int) / 2 ^ sh % 256)) rfl _ info5 (by kernel_rfl) (.int .u8 0) (by kernel_rfl) rfl rfl ?_; intro w6 hr6 hg6 hs6; clear hs6; simp only [Act.put, List.setIfInBounds_toArray, List.set_cons_zero, List.set_cons_succ])
            | (refine wpList_append_bytes rfl (.tmp 27) (.tmp 33) rfl w.heap.size _ (y ++ (lenBytes x.length).take j) [8 * (x.length : Int) / 2 ^ sh % 256] rfl (Ho7.out.grown hg6 (by cases h : u3.ownBlock <;> simp)) (some ⟨wr.heap.size, 0, none⟩) 1 rfl (by intro h; cases h) (src_build hr6) HLj.out (by have := Hg7.out.size; have := hg6.size; omega) ?_; intro v8 w8 ho8 hg8; simp only [Act.put, List.setIfInBounds_toArray, List.set_cons_zero, List.set_cons_succ]
               have Ho8 := Lib.hid ho8
               have Hg8 : Hid (w.grownBy w8 none) := Lib.hid (grown_own (grown_own Hg7.out hg6 (by simp)) hg8 (fun i hi => Or.inr (Ho7.out.block i hi).1))
               clear ho8 hg8 hr6 hg6))
          go_roundw
          case rel => exact ⟨j + 1, by omega, by go_num, by rw [HB.out, ← List.append_assoc]; exact Ho8, Hg8⟩
          case measure => simp [intOf]; omega
        · have hj8 : j = 8 := by omega
          subst hj8
          have Ho9 : Hid (Own wr w.heap.size u3 (padded x)) := Lib.hid (by rw [← Hpad.out]; have := Ho7.out; rwa [lenBytes_all] at this)
          go_wp2_with fail
          go_ret
          exact ⟨_, rfl, Ho9.out, Hg7.out⟩
end Go.Proofs.YtkfdaeipfjcibaaDoor
