/- JsonSpelt: the walk. -/
import Derived.Test.YtlbilofnbhhmjaaDoorSgn
import Derived.Lib.ConvBytes
namespace Go.Proofs.YtlbilofnbhhmjaaDoor
open Go.RowKit
set_option linter.unusedVariables false
set_option linter.unusedSimpArgs false
theorem src_of_str (w : World) (s : ByteArray) : Src (Lib.bytesWorld w 5 s) (some ⟨w.heap.size, 0, none⟩) (restAt s 0) := fun h0 => ⟨_, rfl, rfl, fun j hj => by
  rw [restAt_len] at hj
  rw [Nat.zero_add, Lib.bytesWorld_cell w 5 s j hj]
  have e1 : (restAt s 0).getD j 0 = ch s j := by
    unfold restAt bytesAt
    rw [List.getD_eq_getElem?_getD, List.getElem?_map, List.getElem?_range (by omega)]
    simp
  rw [e1, ch_in hj]
  congr 2
  rw [List.getD_eq_getElem?_getD, Array.getElem?_toList, Array.getElem?_eq_getElem (show j < s.data.size from hj)]
  rfl⟩
set_option maxRecDepth 100000 in
theorem wpList_conv_str {ops : Array Oper} {rest : List Oper} {o : Oper} {a : Act} {w : World} {Q : Exit → Act → World → Prop} (hgd : o.guard = none) (x : Operand) (ho : o.op = .convert 9 22 x) (s : ByteArray) (hx : a.eval x = .string s)
    (h : ∀ c w', Src w' (some ⟨w.heap.size, 0, none⟩) (restAt s 0) → w.grownBy w' none → wpList Tryd.prog ops Q rest (a.put o.dst (.slice (some ⟨w.heap.size, 0, none⟩) (restAt s 0).length c)) w') : wpList Tryd.prog ops Q (o :: rest) a w :=
  wpList_plain hgd fun K hK => by
    have hrun := Lib.run_convert_string_bytes (P := Tryd.prog) w 9 22 5 s Tryd.underlying9 Tryd.underlying22 Tryd.underlying5
    rw [← restAt_len s] at hrun
    unfold Oper.wp execOp
    simp only [ho, hx, Sem.run_bind, hrun, Result.andThen_ok, Sem.run_pure]
    refine hK _ _ (h _ _ (src_of_str w s) ⟨rfl, rfl, rfl, by rw [Lib.bytesWorld_size]; omega, fun i hi _ => Lib.bytesWorld_at_old w 5 s i hi⟩)
/-- Whole numbers that lie where a slice begins. -/
def IntsAt (w : World) (A : Option Addr) (hs : List Int) : Prop := ∀ (j : Nat) x, hs[j]? = some x → ∃ b o, A = some ⟨b, o, none⟩ ∧ w.cell? ⟨b, o + j, none⟩ = some (.int .i64 x)
theorem IntsAt.grown {w w' : World} {A : Option Addr} {hs : List Int} (h : IntsAt w A hs) (hg : w.grownBy w' none) : IntsAt w' A hs := fun j x hx => by
  obtain ⟨b, o, e, hc⟩ := h j x hx
  exact ⟨b, o, e, below_cell (below_of_grown hg) hc⟩
/-- A text under way to be spelt: so much is, in these bytes. -/
structure SpAt (s : ByteArray) (p : Nat) (out : ByteArray) : Prop where
  is : ∃ l : List (List Int × Int), (∀ q ∈ l, Spl q.1 q.2 ∧ q.1 ≠ []) ∧ restAt out 0 = 34 :: l.flatMap (·.1) ∧ enc (l.map (·.2)) ++ restAt s p = restAt s 0
  utf : utfFrom s p = true
  len : out.size ≤ 1 + 6 * p
theorem SpAt.step {s out m : ByteArray} {p : Nat} {r : Int} (h : SpAt s p out) (hp : p < s.size) (hr : Lib.encodeRuneZ r = bytesAt s p (wholeAt s p)) (hw : wholeAt s p ≠ 0) (hs : Spl (restAt m 0) r) (h0 : 0 < m.size) (hl : m.size ≤ 6 * wholeAt s p) : SpAt s (p + wholeAt s p) (out ++ m) := by
  obtain ⟨⟨l, h1, h2, h3⟩, h4, h5⟩ := h
  obtain ⟨a1, a2, a3, a4, a5, _⟩ := runeAt_some hp hw
  have hu := utfFrom_step hp
  rw [h4, if_neg hw] at hu
  refine ⟨⟨l ++ [(restAt m 0, r)], fun q hq => ?_, ?_, ?_⟩, hu.symm, by rw [ByteArray.size_append]; omega⟩
  · rcases List.mem_append.1 hq with hq | hq
    · exact h1 q hq
    · obtain rfl : q = _ := by simpa using hq
      exact ⟨hs, fun e => by have := congrArg List.length e; rw [restAt_len, List.length_nil] at this; omega⟩
  · rw [restAt_append, h2]; simp
  · rw [List.map_append, enc_append, ← h3, restAt_step a5, ← hr]
    simp [enc]
/-- A text that is spelt whole, in quotes. -/
theorem SpAt.done {s out : ByteArray} (h : SpAt s s.size out) (hs : s.size ≤ 1200) : parse (strOfNums (restAt (out ++ ⟨#[34]⟩) 0)) = (.mk 3 false s [] [], 0, 0) := by
  obtain ⟨⟨l, h1, h2, h3⟩, _, h5⟩ := h
  rw [restAt_end (Nat.le_refl _), List.append_nil] at h3
  have e1 : restAt (out ++ ⟨#[34]⟩) 0 = 34 :: (l.flatMap (·.1) ++ [34]) := by
    rw [restAt_append, h2, show restAt (⟨#[34]⟩ : ByteArray) 0 = [34] by decide]; rfl
  have hb := bytes_rest (out ++ ⟨#[34]⟩) 0
  have hlen : (restAt (out ++ ⟨#[34]⟩) 0).length ≤ 8192 := by
    rw [restAt_len, ByteArray.size_append]
    have : (⟨#[34]⟩ : ByteArray).size = 1 := rfl
    omega
  rw [e1] at hb hlen ⊢
  have hat := at_str hb
  have hsz : (str (34 :: (l.flatMap (·.1) ++ [34]))).size = (34 :: (l.flatMap (·.1) ++ [34])).length := Go.strOfNums_size _
  show parse (str (34 :: (l.flatMap (·.1) ++ [34]))) = _
  generalize str (34 :: (l.flatMap (·.1) ++ [34])) = t at hat hsz
  have htx := text_spl (fun q hq => (h1 q hq).1) (fun q hq => (h1 q hq).2) hat
  have h34 : ch t 0 = 34 := hat.head
  have hsk : skip t 0 = 0 := skip_stop (by simp only [h34]; first | done | rfl)
  have hval : value t 16 0 = .ok (.mk 3 false s [] []) (0 + ((l.flatMap (·.1)).length + 2)) := by
    rw [(valueIs (d := 15) (by simp only [h34]; first | done | rfl)).textOk h34 _ _ htx, h3, str_restAt]
  unfold parse
  rw [if_neg (by omega), hsk, hval]
  simp only
  have he : t.size ≤ 0 + ((l.flatMap (·.1)).length + 2) := by rw [hsz]; simp only [List.length_cons, List.length_append, List.length_nil]; omega
  have hsk2 := skip_ge t (0 + ((l.flatMap (·.1)).length + 2))
  rw [if_neg (by omega)]
theorem spAt_zero {s : ByteArray} (h : utfFrom s 0 = true) : SpAt s 0 ⟨#[34]⟩ := ⟨⟨[], by simp, by show restAt (⟨#[34]⟩ : ByteArray) 0 = [34]; decide, rfl⟩, h, by decide⟩
theorem rest_extract {s : ByteArray} {p n : Nat} (h : p + n ≤ s.size) : restAt (s.extract p (p + n)) 0 = bytesAt s p n := by
  have hz := size_cut (s := s) (i := p) (j := p + n) h
  apply List.ext_getElem?
  intro k
  unfold restAt bytesAt
  rw [List.getElem?_map, List.getElem?_map, hz]
  by_cases hk : k < n
  · rw [List.getElem?_range (by omega), List.getElem?_range hk, Option.map_some, Option.map_some, Nat.zero_add, ch_extract s h (by omega)]
  · rw [List.getElem?_eq_none (by simp; omega), List.getElem?_eq_none (by simp; omega)]
    rfl
set_option maxHeartbeats 6400000 in
set_option maxRecDepth 100000 in
theorem spelt_any (s : ByteArray) (A : Option Addr) (c : Nat) (hs : List Int) (w : World) (hA : IntsAt w A hs) (hhr : ∀ x ∈ hs, -9223372036854775808 ≤ x ∧ x ≤ 9223372036854775807) (hT : Lib.Utf8Tabs 0 1 w) (hw : 1 < w.heap.size) :
    Calls Tryd.prog 5 #[.string s, .slice A hs.length c] w fun e w' => e = .returned (.bool true) ∧ Below w.heap.size w w' := by
  have HA := Lib.hid hA
  have Hhr := Lib.hid hhr
  have HT := Lib.hid hT
  have Hw := Lib.hid hw
  clear hA hhr hT hw
  obtain ⟨U, hU⟩ : ∃ u, utfFrom s 0 = u := ⟨_, rfl⟩
  have HU := Lib.hid hU
  clear hU
  by_cases h1 : s.size > 1200
  · have h1' : (1200 : Int) < (s.size : Int) := by omega
    go_enter Tryd.func5, Tryd.ntmps5
    go_wp2_with (go_at_call 9; refine (works_any w HT.out Hw.out).mono ?_; rintro e w1 ⟨rfl, hb1⟩; have Hb1 := Lib.hid hb1; clear hb1)
    go_ret
    exact ⟨rfl, Hb1.out⟩
  have h1' : ¬ (1200 : Int) < (s.size : Int) := by omega
  by_cases h2 : hs.length = 0
  · have h2' : ((hs.length : Int) == 0) = true := by simpa using h2
    have h2'' : hs = [] := List.eq_nil_of_length_eq_zero h2
    subst h2''
    clear h2 h2'
    go_enter Tryd.func5, Tryd.ntmps5
    go_wp2_with (go_at_call 9; refine (works_any w HT.out Hw.out).mono ?_; rintro e w1 ⟨rfl, hb1⟩; have Hb1 := Lib.hid hb1; clear hb1)
    go_ret
    exact ⟨rfl, Hb1.out⟩
  have h2' : ((hs.length : Int) == 0) = false := by simpa using h2
  cases U with
  | false =>
    go_enter Tryd.func5, Tryd.ntmps5
    go_wp2_with (first
      | (go_at_call 9; refine (works_any w HT.out Hw.out).mono ?_; rintro e w1 ⟨rfl, hb1⟩; have Hb1 := Lib.hid hb1; clear hb1)
      | (go_at_call 22; refine (utf_any s w (by omega)).mono ?_; rw [HU.out]; rintro e w1 ⟨rfl, rfl⟩))
    go_ret
    exact ⟨rfl, Hb1.out⟩
  | true =>
    have h2n : ¬ (hs.length : Int) = 0 := by omega
    go_enter Tryd.func5, Tryd.ntmps5
    go_wp2_with (go_at_call 22; refine (utf_any s w (by omega)).mono ?_; rw [HU.out]; rintro e w1 ⟨rfl, rfl⟩)
    have Hsz := Lib.hid h1
    go_loopw [5, 6, 7] (fun u5 u6 u7 wr => ∃ (out : ByteArray) (p i : Nat), p ≤ s.size ∧ u6 = .int .i64 (p : Int) ∧ u5 = .string out ∧ u7 = .int .i64 (i : Int) ∧ i ≤ p ∧ Hid (SpAt s p out) ∧ Hid (w.grownBy wr none)) (fun _ v _ _ => s.size - (intOf v).toNat)
    case atStart => exact ⟨⟨#[34]⟩, 0, 0, by omega, rfl, rfl, rfl, by omega, Lib.hid (spAt_zero HU.out), Lib.hid (grown_refl _ _)⟩
    case round =>
      obtain ⟨out, p, i, hp, rfl, rfl, rfl, hip, HS, HG⟩ := hrel
      by_cases hlt : p < s.size
      · have hst := utfFrom_step hlt
        have hwn : wholeAt s p ≠ 0 := fun e => by rw [HS.out.utf, if_pos e] at hst; cases hst
        obtain ⟨a1, a2, a3, a4, a5, a6, a7, a8, a9⟩ := runeAt_some hlt hwn
        obtain ⟨n, hn⟩ : ∃ n, wholeAt s p = n := ⟨_, rfl⟩
        obtain ⟨r, hr⟩ : ∃ r : Int, (((Utf8.decode s p).1 : Nat) : Int) = r := ⟨_, rfl⟩
        have hR : RuneV r := ⟨by omega, by omega, by omega⟩
        rw [hr] at a7
        have HE : Hid (Lib.encodeRuneZ r = bytesAt s p (wholeAt s p)) := Lib.hid a7
        have HN := Lib.hid hn
        have HWn := Lib.hid hwn
        rw [hn] at a3 a4 a5 a7
        have HR := Lib.hid hR
        obtain ⟨q, hq⟩ : ∃ q, p + n = q := ⟨_, rfl⟩
        have hq1 : p ≤ q := by omega
        have hq2 : q ≤ s.size := by omega
        obtain ⟨t, ht⟩ : ∃ t, s.extract p q = t := ⟨_, rfl⟩
        have HT2 : Hid (restAt t 0 = Lib.encodeRuneZ r ∧ t.size = n) := Lib.hid ⟨by rw [← ht, ← hq, rest_extract (by omega), a7], by rw [← ht, ← hq, size_cut (by omega)]; omega⟩
        have HQ := Lib.hid hq
        have hqi : (p : Int) + (n : Int) = (q : Int) := by omega
        obtain ⟨m, hm⟩ : ∃ m, i % hs.length = m := ⟨_, rfl⟩
        have hml : m < hs.length := by rw [← hm]; exact Nat.mod_lt _ (by omega)
        have hmi : (i : Int) % (hs.length : Int) = (m : Int) := by omega
        obtain ⟨x, hx⟩ : ∃ x, hs[m]? = some x := ⟨_, List.getElem?_eq_getElem hml⟩
        obtain ⟨b, o, rfl, hc⟩ := (HA.out.grown HG.out) m x hx
        obtain ⟨hx1, hx2⟩ := Hhr.out x (List.mem_of_getElem? hx)
        have e1 : (p : Int) < (s.size : Int) := by omega
        have hos := HS.out.len
        clear hst hwn a1 a2 a6 a7 a8 a9 hn hr hR hm hx hq
        by_cases hneg : x < 0
        · go_wp2_with (go_at_call 23; refine (rwhole_any p s wr (by omega) hlt).mono ?_; rw [HN.out]; rintro e w1 ⟨rfl, rfl⟩)
          refine (lawsign_any r _ t wr HR.out HT2.out.1 (by omega) (by omega)).mono ?_
          rintro e w2 ⟨m5, rfl, hs5, hl5, h05, n5, rfl⟩
          rw [HT2.out.2] at hl5
          have f1 : ∀ W : World, (Op.stringOp .add out m5).run Tryd.prog W = .ok (.string (out ++ m5)) W := fun W => run_string_add_sum W _ _ (by omega)
          have HS2 : Hid (SpAt s q (out ++ m5)) := Lib.hid (by rw [← HQ.out, ← HN.out]; exact HS.out.step hlt HE.out HWn.out hs5 h05 (by rw [HN.out]; exact hl5))
          have HG2 := Lib.hid (grown_drewN HG.out n5)
          go_wp2_with fail
          go_roundw
          case rel => exact ⟨out ++ m5, q, i + 1, hq2, rfl, rfl, by go_num, by omega, HS2, HG2⟩
          case measure => simp [intOf]; omega
        · have hneg' : ¬ x < 0 := hneg
          go_wp2_with (go_at_call 23; refine (rwhole_any p s wr (by omega) hlt).mono ?_; rw [HN.out]; rintro e w1 ⟨rfl, rfl⟩)
          refine (lawsign_any r _ t wr HR.out HT2.out.1 (by omega) (by omega)).mono ?_
          rintro e w2 ⟨m5, rfl, hs5, hl5, h05, n5, rfl⟩
          rw [HT2.out.2] at hl5
          have f1 : ∀ W : World, (Op.stringOp .add out m5).run Tryd.prog W = .ok (.string (out ++ m5)) W := fun W => run_string_add_sum W _ _ (by omega)
          have HS2 : Hid (SpAt s q (out ++ m5)) := Lib.hid (by rw [← HQ.out, ← HN.out]; exact HS.out.step hlt HE.out HWn.out hs5 h05 (by rw [HN.out]; exact hl5))
          have HG2 := Lib.hid (grown_drewN HG.out n5)
          go_wp2_with fail
          go_roundw
          case rel => exact ⟨out ++ m5, q, i + 1, hq2, rfl, rfl, by go_num, by omega, HS2, HG2⟩
          case measure => simp [intOf]; omega
      · obtain rfl : p = s.size := by omega
        have e1 : ¬ (s.size : Int) < (s.size : Int) := by omega
        have hos := HS.out.len
        have hpr := HS.out.done (by omega)
        have f1 : ∀ W : World, (Op.stringOp .add out (⟨#[34]⟩ : ByteArray)).run Tryd.prog W = .ok (.string (out ++ ⟨#[34]⟩)) W := fun W => run_string_add_sum W _ _ (by show _ + 1 ≤ _; omega)
        have hz2 : (out ++ (⟨#[34]⟩ : ByteArray)).size ≤ 8192 := by rw [ByteArray.size_append]; show _ + 1 ≤ _; omega
        obtain ⟨S, hS⟩ : ∃ x, out ++ (⟨#[34]⟩ : ByteArray) = x := ⟨_, rfl⟩
        rw [hS] at f1 hpr hz2
        have hbk := parse_back hpr (by rw [Go.strOfNums_size, restAt_len]; omega)
        have hjz := parse_sz (strOfNums (restAt S 0))
        rw [hpr] at hjz
        rw [Go.strOfNums_size, restAt_len] at hbk
        have HPr := Lib.hid (prints_of hbk.2.1 hbk.1 (by omega))
        have HZ := Lib.hid hjz
        have Hpr := Lib.hid hpr
        have Hz2 := Lib.hid hz2
        obtain ⟨L, hL⟩ : ∃ l, writeJ 16 (.mk 3 false s [] []) = l := ⟨_, rfl⟩
        have HL := Lib.hid hL
        clear hlt hip hp hpr hbk hjz hS hL hz2
        go_upto_region 16 with (first
          | (have _ := w4; refine wpList_store_Row rfl 29 _ _ rfl B5 [.int .i8 3, .bool false, .string s, r3, r4] (by rw [← HBn.out]; rfl) rfl 29 zero5 (HR.out) size29 rfl HJ.out.cells ?_; intro w5 hrc hgc hsc; have HK := Lib.hid (read_kept HGp.out HQ.out.1 hgc HBn.out HQ.out.2 hsc); have HR5 := Lib.hid hrc; clear HR hrc hgc hsc; simp only [Act.put, List.setIfInBounds_toArray, List.set_cons_zero, List.set_cons_succ])
          | (have _ := w3; refine wpList_alloc_abs rfl 29 rfl zero5 _ (zero29 _) rfl ?_; intro w4 hrb hgb hsb; rw [HBn.out] at hrb; have HR := Lib.hid hrb; have HQ := Lib.hid (And.intro hgb hsb); clear hrb hgb hsb; rw [HBn.out]; simp only [Act.put, List.setIfInBounds_toArray, List.set_cons_zero, List.set_cons_succ])
          | (have _ := HS1; go_at_call 11; refine (parse_any (some ⟨wr.heap.size, 0, none⟩) c1 (restAt S 0) w1 (by intro h; cases h) HS1.out (by rw [restAt_len]; have := Hz2.out; omega) (tabs_below HT.out HB1.out) (Nat.lt_of_lt_of_le Hw.out HB1.out.size)).mono ?_
             rw [Hpr.out]
             rintro e w3 ⟨hg, cs5, F5, rfl, hj⟩
             obtain ⟨r0, r1, r2, r3, r4, rfl⟩ := five_of hj.five.1
             obtain ⟨rfl, rfl, rfl⟩ : r0 = .int .i8 3 ∧ r1 = .bool false ∧ r2 = .string s := by
               have hj2 := hj
               unfold JAt at hj2
               obtain ⟨vk, vl, xs, G, e, _⟩ := hj2
               simp only [List.cons.injEq] at e
               exact ⟨e.1, e.2.1, e.2.2.1⟩
             obtain ⟨B5, hB⟩ : ∃ x, w3.heap.size = x := ⟨_, rfl⟩
             have HBn := Lib.hid hB
             have HJ := Lib.hid hj
             have HGp := Lib.hid hg
             clear hg hj hB)
          | (refine wpList_conv_str rfl (.tmp 67) rfl S rfl ?_; intro c1 w1 hs1 hg1
             have HS1 := Lib.hid hs1; have HB1 := Lib.hid (below_of_grown (grown_own HG.out hg1 (by simp))); clear hs1 hg1; simp only [Act.put, List.setIfInBounds_toArray, List.set_cons_zero, List.set_cons_succ]))
        have HJ5 := Lib.hid (HJ.out.kept HK.out.2.1 (by simp)).rd
        have HB5 := Lib.hid (below_step HB1.out HK.out.1)
        have HJz : Hid (∀ W : World, JR W (.mk 3 false s [] []) [.int .i8 3, .bool false, .string s, .slice none 0 0, .slice none 0 0]) := Lib.hid (fun W => (leaf_at W 0 3 false s).rd)
        clear HK HGp HJ HQ HBn HS1
        have b0 := HR5.out.at_ (j := 0) rfl
        have b2 := HR5.out.at_ (j := 2) rfl
        go_upto_region 18 with fail
        clear b0 b2
        go_upto_region 19 with (first
          | (go_at_call 17; refine (print_any (.mk 3 false s [] []) [.int .i8 3, .bool false, .string s, r3, r4] w5 HJ5.out (sz_47 HZ.out) (tabs_below HT.out HB5.out) HPr.out.room).mono ?_; rintro e w6 ⟨⟨v6, rfl, ho6, _⟩, hb6⟩; rw [HPr.out.e]; rw [HPr.out.t, HL.out] at ho6; obtain ⟨A6, c6, rfl, hA6, hc6, hs6, _⟩ := own_slice ho6
             have HB6 := Lib.hid (below_trans2 HB5.out hb6); have HS6 := Lib.hid hs6; have HA6 := Lib.hid hA6; clear ho6 hb6 hs6 hA6 hc6)
          | (refine wpList_load_Row rfl 29 _ rfl B5 rfl [.int .i8 3, .bool false, .string s, r3, r4] 29 HR5.out _ Tryd.underlying29 rfl size29 ?_; simp only [Act.put, List.setIfInBounds_toArray, List.set_cons_zero, List.set_cons_succ]))
        go_upto_region 20 with (go_at_call 17; refine (print_any (.mk 3 false s [] []) [.int .i8 3, .bool false, .string s, .slice none 0 0, .slice none 0 0] w6 (HJz.out w6) (sz_47 HZ.out) (tabs_below HT.out HB6.out) HPr.out.room).mono ?_; rintro e w7 ⟨⟨v7, rfl, ho7, _⟩, hb7⟩; rw [HPr.out.e]; rw [HPr.out.t, HL.out] at ho7; obtain ⟨A7, c7, rfl, hA7, hc7, hs7, _⟩ := own_slice ho7; have HB7 := Lib.hid (below_trans2 HB6.out hb7); have HS7 := Lib.hid hs7; have HA7 := Lib.hid hA7; have HSx := Lib.hid (src_below HS6.out hb7); clear ho7 hb7 hs7 hA7 hc7)
        go_wp2_with (first
          | (go_at_call 9; refine (works_any w7 (tabs_below HT.out HB7.out) (Nat.lt_of_lt_of_le Hw.out HB7.out.size)).mono ?_; rintro e w12 ⟨rfl, hb12⟩; have HB12 := Lib.hid hb12; clear hb12)
          | (go_at_call 25; refine (eqBytes_any A6 A7 c6 c7 L w7 (fun h => (HA6.out h).1) (fun h => (HA7.out h).1) HSx.out HS7.out).mono ?_; rintro e w11 ⟨rfl, rfl⟩))
        go_ret
        exact ⟨rfl, below_trans2 HB7.out HB12.out⟩
end Go.Proofs.YtlbilofnbhhmjaaDoor
