/- DigestStates: the walk. -/
import Derived.Test.YtkfdaeipfjcibaaDoorKeys
import Derived.Test.YtkfdaeipfjcibaaDoorNil
import Derived.Test.YtkfdaeipfjcibaaDoorFour
import Derived.Lib.QuietBelow
import Derived.Deep.RegionLaw
namespace Go.Proofs.YtkfdaeipfjcibaaDoor
open Go.RowKit
set_option linter.unusedVariables false
set_option linter.unusedSimpArgs false
structure OpRec where
  kind : Int
  which : Int
  dest : Int
  addr : Option Addr
  cap : Nat
  x : List Int
/-- One call on the states, as its four cells. -/
def OpRec.at_ (w : World) (b o : Nat) (r : OpRec) : Prop :=
  w.cell? ⟨b, o, none⟩ = some (.int .i64 r.kind) ∧ w.cell? ⟨b, o + 1, none⟩ = some (.int .i64 r.which) ∧ w.cell? ⟨b, o + 2, none⟩ = some (.int .i64 r.dest) ∧ w.cell? ⟨b, o + 3, none⟩ = some (.slice r.addr r.x.length r.cap) ∧
  (r.addr = none → r.x = [] ∧ r.cap = 0) ∧ Src w r.addr r.x ∧ r.x.length ≤ r.cap
theorem OpRec.at_.grown {w w' : World} {b o : Nat} {r : OpRec} (h : r.at_ w b o) (hg : w.grownBy w' none) : r.at_ w' b o := by
  obtain ⟨h1, h2, h3, h4, h5, h6, h7⟩ := h
  exact ⟨by rw [grown_cell hg (block_lt_of_cell h1) (by simp)]; exact h1, by rw [grown_cell hg (block_lt_of_cell h2) (by simp)]; exact h2, by rw [grown_cell hg (block_lt_of_cell h3) (by simp)]; exact h3,
    by rw [grown_cell hg (block_lt_of_cell h4) (by simp)]; exact h4, h5, h6.grown hg (by simp), h7⟩
def OpsAt (w : World) (A : Option Addr) (ops : List OpRec) : Prop := 0 < ops.length → ∃ b o : Nat, A = some ⟨b, o, none⟩ ∧ ∀ (j : Nat) r, ops[j]? = some r → r.at_ w b (o + j * 4)
theorem four_new (w w1 w2 w3 : World) (h0 : 0 < w.heap.size) (hr1 : Rep w1 w.heap.size []) (hg1 : w.grownBy w1 none) (hs1 : w.heap.size < w1.heap.size) (hr2 : Rep w2 w1.heap.size []) (hg2 : w1.grownBy w2 none) (hs2 : w1.heap.size < w2.heap.size)
    (hr3 : Rep w3 w2.heap.size []) (hg3 : w2.grownBy w3 none) (hs3 : w2.heap.size < w3.heap.size) (w6 : World)
    (h6 : ((w3.alloc (.cells #[.pointer (some ⟨w.heap.size, 0, none⟩), .pointer (some ⟨w1.heap.size, 0, none⟩), .pointer (some ⟨w2.heap.size, 0, none⟩), .pointer none] 32)).alloc (.cells #[.bool true, .bool true, .bool true, .bool false] 4)).alloc
      (.cells #[.slice none 0 0, .slice none 0 0, .slice none 0 0, .slice none 0 0] 22) = w6) :
    Four w6 w3.heap.size (w3.heap.size + 1) (w3.heap.size + 1 + 1) w.heap.size [some (w.heap.size, []), some (w1.heap.size, []), some (w2.heap.size, []), none] [true, true, true, false] [[], [], [], []] [.slice none 0 0, .slice none 0 0, .slice none 0 0, .slice none 0 0] ∧
      w.grownBy w6 none := by
  have hG : w3.grownBy w6 none := by rw [← h6]; exact grown_alloc (grown_alloc (grown_alloc (grown_refl _ _) _) _) _
  have e1 : ∀ (W : World) o, (W.alloc o).heap.size = W.heap.size + 1 := fun W o => by simp
  refine ⟨⟨?_, ?_, ?_, fun k p hp => ?_, fun j k p q hjk hp hq => ?_, fun k v l hv hl => ?_, fun j k v u hjk hv hu => ?_⟩, grown_own (grown_own (grown_own hg1 hg2 (by simp)) hg3 (by simp)) hG (by simp)⟩
  · rw [← h6]; exact ((Row.new w3 _ 32).alloc _).alloc _
  · rw [← h6]
    have h := (Row.new (w3.alloc (.cells #[.pointer (some ⟨w.heap.size, 0, none⟩), .pointer (some ⟨w1.heap.size, 0, none⟩), .pointer (some ⟨w2.heap.size, 0, none⟩), .pointer none] 32)) [.bool true, .bool true, .bool true, .bool false] 4).alloc (.cells #[.slice none 0 0, .slice none 0 0, .slice none 0 0, .slice none 0 0] 22)
    rw [e1] at h
    exact h
  · rw [← h6]
    have h := Row.new ((w3.alloc (.cells #[.pointer (some ⟨w.heap.size, 0, none⟩), .pointer (some ⟨w1.heap.size, 0, none⟩), .pointer (some ⟨w2.heap.size, 0, none⟩), .pointer none] 32)).alloc (.cells #[.bool true, .bool true, .bool true, .bool false] 4)) [.slice none 0 0, .slice none 0 0, .slice none 0 0, .slice none 0 0] 22
    rw [e1, e1] at h
    exact h
  · have r1 : Rep w6 w.heap.size [] := ((hr1.grown hg2 (by simp)).grown hg3 (by simp)).grown hG (by simp)
    have r2 : Rep w6 w1.heap.size [] := (hr2.grown hg3 (by simp)).grown hG (by simp)
    have r3 : Rep w6 w2.heap.size [] := hr3.grown hG (by simp)
    match k, hp with
    | 0, hp => obtain rfl := Option.some.inj (Option.some.inj hp); exact ⟨r1, by simp; omega, Nat.le_refl _⟩
    | 1, hp => obtain rfl := Option.some.inj (Option.some.inj hp); exact ⟨r2, by simp; omega, by simp; omega⟩
    | 2, hp => obtain rfl := Option.some.inj (Option.some.inj hp); exact ⟨r3, by simp; omega, by simp; omega⟩
    | 3, hp => cases hp
    | n + 4, hp => simp at hp
  · match j, k, hjk, hp, hq with
    | 0, 0, h, _, _ | 1, 1, h, _, _ | 2, 2, h, _, _ => exact absurd rfl h
    | 0, 1, _, hp, hq | 0, 2, _, hp, hq | 1, 0, _, hp, hq | 1, 2, _, hp, hq | 2, 0, _, hp, hq | 2, 1, _, hp, hq =>
      obtain rfl := Option.some.inj (Option.some.inj hp)
      obtain rfl := Option.some.inj (Option.some.inj hq)
      simp; omega
    | 3, _, _, hp, _ => cases hp
    | n + 4, _, _, hp, _ => simp at hp
    | _, 3, _, _, hq => cases hq
    | _, n + 4, _, _, hq => simp at hq
  · match k, hv, hl with
    | 0, hv, hl | 1, hv, hl | 2, hv, hl | 3, hv, hl =>
      obtain rfl := Option.some.inj hv
      obtain rfl := Option.some.inj hl
      exact own_nil _ _
    | n + 4, hv, _ => simp at hv
  · match j, hv with
    | 0, hv | 1, hv | 2, hv | 3, hv =>
      obtain rfl := Option.some.inj hv
      intro k h; cases h
    | n + 4, hv => simp at hv
/-- What an own slice of bytes gives where its three parts are known. -/
theorem own_src {w : World} {base : Nat} {A : Option Addr} {c : Nat} {l : List Int} (h : Own w base (.slice A l.length c) l) : (A = none → l = [] ∧ c = 0) ∧ l.length ≤ c ∧ Src w A l := by
  obtain ⟨A', c', he, h1, h2, h3, _⟩ := own_slice h
  injection he with e1 e2 e3
  subst e1 e3
  exact ⟨h1, h2, h3⟩
theorem step_append_bytes2 {ops : Array Oper} {o : Oper} {a : Act} {w : World} {K : Act → World → Prop} {Q : Exit → Act → World → Prop} (hw : Region.wanted o (yielded ops a.tmps) = true) (s x : Operand)
    (ho : o.op = .call { callee := .builtin .append, args := #[s, x], argTypes := #[22, 22] }) (base : Nat) (v : Value) (l y : List Int) (hs : a.eval s = v) (hown : Own w base v l)
    (A : Option Addr) (c : Nat) (hx : a.eval x = .slice A y.length c) (hA : A = none → y = [] ∧ c = 0) (hsrc : Src w A y) (hsz : l.length + y.length ≤ 1099511627776) (hbase : base ≤ w.heap.size)
    (h : ∀ v' w', Own w' base v' (l ++ y) → w.grownBy w' v.ownBlock → (∀ k, v'.ownBlock = some k → v.ownBlock = some k ∨ w.heap.size ≤ k) → K (a.put o.dst v') w') :
    if Region.wanted o (yielded ops a.tmps) = true then Oper.wp Tryd.prog o a w K Q else K (a.put o.dst undef) w := by
  rw [if_pos hw]
  cases A with
  | none =>
    obtain ⟨rfl, rfl⟩ := hA rfl
    have hrun := run_append_owned_none (P := Tryd.prog) (w := w) base 22 o.type 5 _ 1 Tryd.underlying22 info5 v l.length _ hown
    have h' := h v w (by rw [List.append_nil]; exact hown) (grown_refl _ _) (fun _ h => .inl h)
    have hx' : a.eval x = .slice none 0 0 := hx
    unfold Oper.wp
    simp [execOp, ho, resolve, invoke, builtin, hs, hx', hrun, Result.andThen]
    exact h'
  | some ad =>
    obtain ⟨v', w', hr, h2, h3, h4⟩ := run_append_block (P := Tryd.prog) w base 22 o.type 5 _ (.int .u8 0) 1 1 Tryd.underlying22 info5 (by kernel_rfl) (by kernel_rfl) (by kernel_rfl) rfl (by decide) v l.length _ hown ad y.length c (y.map (Value.int .u8)) (by simp) (src_list hsrc rfl) (oneCell_bytes y)
      (by unfold maxLen; omega) (by omega) hbase
    unfold Oper.wp execOp
    simp only [ho, resolve, invoke, builtin, Sem.run_bind, Sem.run_pure, Result.andThen_ok, List.map_toArray, List.map_cons, List.map_nil, hs, hx, hr]
    exact h _ _ (by unfold Own; rw [List.map_append, List.length_append]; exact h2) h3 h4
/-- Add on what a place holds: nil or a State. -/
theorem addp_any (p : Place) (x : List Int) (A : Option Addr) (c : Nat) (w : World) (hr : ∀ b l, p = some (b, l) → Rep w b l ∧ 0 ≠ b ∧ l.length + x.length ≤ 1073741824) (hK : HasK w)
    (hx : Src w A x) (hne : ∀ b l, p = some (b, l) → ∀ a, A = some a → a.block ≠ b) (hc : x.length ≤ c) :
    Calls Tryd.prog 15 #[ptr p, .slice A x.length c] w fun e w' => e = .returned (.tuple #[]) ∧ w.grownBy w' (p.map (·.1)) ∧ Hid (∀ b l, p = some (b, l) → Rep w' b (l ++ x)) := by
  rcases p with _ | ⟨b, l⟩
  · exact (add_nil A x.length c w).mono fun e w' ⟨h1, h2⟩ => ⟨h1, by subst h2; exact grown_refl _ _, Lib.hid (by intro b l h; cases h)⟩
  · obtain ⟨h1, h2, h3⟩ := hr b l rfl
    exact (add_any step_any b l x A c w h1 h2 hK hx (fun _ => hne b l rfl) hc h3).mono fun e w' ⟨k1, k2, k3⟩ => ⟨k1, k3, Lib.hid (by intro b' l' h; cases h; exact k2)⟩
theorem map_set_same {α β : Type} (f : α → β) (l : List α) (k : Nat) (p p' : α) (h : l[k]? = some p) (e : f p' = f p) : (l.set k p').map f = l.map f := by
  rw [List.map_set, e]
  refine List.ext_getElem? fun i => ?_
  rw [List.getElem?_set]
  split
  · rename_i hi
    subst hi
    rw [if_pos (by simpa using (List.getElem?_eq_some_iff.1 h).1), List.getElem?_map, h]; rfl
  · rfl
/-- What a place holds once the bytes are added to it. -/
def plus (p : Place) (x : List Int) : Place := p.map fun q => (q.1, q.2 ++ x)
theorem Four.plus {w w' : World} {Bs Bt Bh N0 : Nat} {ps : List Place} {ts : List Bool} {hl : List (List Int)} {hs : List Value} (h : Four w Bs Bt Bh N0 ps ts hl hs) {k : Nat} {p : Place} {x : List Int} (hk : ps[k]? = some p)
    (hg : w.grownBy w' (p.map (·.1))) (hr : ∀ b l, p = some (b, l) → Rep w' b (l ++ x)) : Four w' Bs Bt Bh N0 (ps.set k (plus p x)) ts hl hs := by
  rcases p with _ | ⟨b, l⟩
  · rw [show ps.set k (Go.Proofs.YtkfdaeipfjcibaaDoor.plus none x) = ps from by
      refine List.ext_getElem? fun i => ?_
      rw [List.getElem?_set]
      split
      · rename_i hi
        subst hi
        rw [if_pos (List.getElem?_eq_some_iff.1 hk).1, hk]; rfl
      · rfl]
    exact h.keep hg
  · exact h.add hk (hr b l rfl) hg
set_option maxHeartbeats 16000000 in
set_option maxRecDepth 100000 in
theorem states_any (A : Option Addr) (c : Nat) (ops : List OpRec) (w : World) (hops : OpsAt w A ops) (hK : HasK w) :
    Calls Tryd.prog 4 #[.slice A ops.length c] w fun e w' => e = .returned (.bool true) ∧ Below w.heap.size w w' := by
  have HO := Lib.hid hops
  have HK := Lib.hid hK
  clear hops hK
  go_enter Tryd.func4, Tryd.ntmps4
  go_wp2_with fail
  go_loopw [3, 4] (fun s i wr => ∃ n k : Nat, k ≤ n ∧ n ≤ 32768 + 65537 ∧ k ≤ ops.length ∧ s = .int .i64 n ∧ i = .int .i64 k ∧ Hid (n ≤ 32768 → ∀ (j : Nat) r, j < k → ops[j]? = some r → r.x.length ≤ 32768) ∧ Hid (wr = w))
    (fun _ i _ => ops.length - (intOf i).toNat)
  case atStart => exact ⟨0, 0, by omega, by omega, by omega, rfl, rfl, Lib.hid (by intro _ j r hj; omega), Lib.hid rfl⟩
  case round =>
    obtain ⟨n, k, hkn, hnb, hk, rfl, rfl, Hs, hw⟩ := hrel
    have hwe := hw.out
    subst hwe
    clear hw
    by_cases hlt : (k : Int) < ops.length
    · by_cases hn : (n : Int) ≤ 32768
      · obtain ⟨b, o, rfl, hat⟩ := HO.out (by omega)
        obtain ⟨r, hr⟩ : ∃ r, ops[k]? = some r := ⟨_, List.getElem?_eq_getElem (by omega)⟩
        obtain ⟨h1, h2, h3, h4, h5, h6, h7⟩ := hat k r hr
        have Hr := Lib.hid hr
        clear hat hr h1 h2 h3 h5 h6 h7
        obtain ⟨len, hlen⟩ : ∃ l, r.x.length = l := ⟨_, rfl⟩
        rw [hlen] at h4
        have Hlen := Lib.hid hlen
        clear hlen
        go_wp2_with fail
        go_roundw
        case rel =>
          refine ⟨n + 1 + min len 65536, k + 1, by omega, by omega, by omega, ?_, by go_num, Lib.hid ?_, by first | exact Lib.hid rfl | exact Lib.hid trivial⟩
          · congr 1
            split <;> omega
          · intro h j q hj hq
            by_cases hjk : j < k
            · exact Hs.out (by omega) j q hjk hq
            · obtain rfl : j = k := by omega
              obtain rfl := Option.some.inj (Hr.out.symm.trans hq)
              have := Hlen.out
              omega
        case measure => simp [intOf]; omega
      · go_wp2_with (go_at_call 8; refine (works_any wr HK.out).mono ?_; rintro e w1 ⟨rfl, hb1⟩; have Hb1 := Lib.hid hb1; clear hb1)
        go_ret
        exact ⟨rfl, Hb1.out⟩
    · have hk' : k = ops.length := by omega
      subst hk'
      by_cases hn : (n : Int) ≤ 32768
      · by_cases h60 : (ops.length : Int) > 60
        · go_wp2_with (go_at_call 8; refine (works_any wr HK.out).mono ?_; rintro e w1 ⟨rfl, hb1⟩; have Hb1 := Lib.hid hb1; clear hb1)
          go_ret
          exact ⟨rfl, Hb1.out⟩
        · have Hx : Hid (∀ (j : Nat) r, ops[j]? = some r → r.x.length ≤ 32768) := Lib.hid fun j r hr => Hs.out (by omega) j r (List.getElem?_eq_some_iff.1 hr).1 hr
          clear Hs
          go_wp2_with (first
            | (have _ := w2; go_at_call 13; refine (new_any w2).mono ?_; rintro e w3 ⟨rfl, hr3, hg3, hs3⟩; have Hr3 := Lib.hid hr3; have Hg3 := Lib.hid hg3; have Hs3 := Lib.hid hs3; clear hr3 hg3 hs3)
            | (have _ := w1; go_at_call 13; refine (new_any w1).mono ?_; rintro e w2 ⟨rfl, hr2, hg2, hs2⟩; have Hr2 := Lib.hid hr2; have Hg2 := Lib.hid hg2; have Hs2 := Lib.hid hs2; clear hr2 hg2 hs2)
            | (go_at_call 13; refine (new_any wr).mono ?_; rintro e w1 ⟨rfl, hr1, hg1, hs1⟩; have Hr1 := Lib.hid hr1; have Hg1 := Lib.hid hg1; have Hs1 := Lib.hid hs1; clear hr1 hg1 hs1))
          generalize hw6 : World.alloc (World.alloc (World.alloc w3 _) _) _ = w6
          obtain ⟨hF, hG⟩ := four_new wr w1 w2 w3 HK.out.lt Hr1.out Hg1.out Hs1.out Hr2.out Hg2.out Hs2.out Hr3.out Hg3.out Hs3.out w6 hw6
          have HF := Lib.hid hF
          have HG := Lib.hid hG
          have HN3 : Hid (wr.heap.size ≤ w3.heap.size) := Lib.hid (by have := Hg1.out.size; have := Hg2.out.size; have := Hg3.out.size; omega)
          clear hw6 hF hG Hr1 Hg1 Hs1 Hr2 Hg2 Hs2 Hr3 Hg3 Hs3
          obtain ⟨Bs, hBs⟩ : ∃ B, w3.heap.size = B := ⟨_, rfl⟩
          rw [hBs] at HF ⊢
          obtain ⟨Bt, hBt⟩ : ∃ B, Bs + 1 = B := ⟨_, rfl⟩
          rw [hBt] at HF ⊢
          obtain ⟨Bh, hBh⟩ : ∃ B, Bt + 1 = B := ⟨_, rfl⟩
          rw [hBh] at HF ⊢
          have HBs : Hid (wr.heap.size ≤ Bs ∧ wr.heap.size ≤ Bt ∧ wr.heap.size ≤ Bh) := Lib.hid (by rw [← hBh, ← hBt, ← hBs]; exact ⟨HN3.out, Nat.le_succ_of_le HN3.out, Nat.le_succ_of_le (Nat.le_succ_of_le HN3.out)⟩)
          clear hBs hBt hBh HN3
          obtain ⟨w0, hw0⟩ : ∃ w, w = wr := ⟨_, rfl⟩
          rw [← hw0] at HF HG HBs HK HO
          have Hw0 := Lib.hid hw0
          clear hw0
          go_loopw [8] (fun i wx => ∃ (m : Nat) (ps : List Place) (hs : List Value), m ≤ ops.length ∧ i = .int .i64 m ∧ ps.length = 4 ∧ hs.length = 4 ∧ Hid (Four wx Bs Bt Bh w0.heap.size ps (ps.map Option.isSome) (ps.map bytesOf) hs) ∧ Hid (∀ (k : Nat) (p : Nat × List Int), ps[k]? = some (some p) → p.2.length ≤ m * 32768) ∧ Hid (w0.grownBy wx none))
            (fun i _ => ops.length - (intOf i).toNat)
          case atStart => exact ⟨0, _, _, by omega, rfl, rfl, rfl, HF, Lib.hid (fun k p hp => by
            match k, hp with
            | 0, hp | 1, hp | 2, hp => obtain rfl := Option.some.inj (Option.some.inj hp); simp
            | 3, hp => cases hp
            | q + 4, hp => simp at hp), HG⟩
          case round =>
            clear HF HG
            obtain ⟨m, ps, hs, hm, rfl, hpl, hhl, HF, Hlen, HG⟩ := hrel
            by_cases hlt : (m : Int) < ops.length
            · obtain ⟨r, hr⟩ : ∃ r, ops[m]? = some r := ⟨_, List.getElem?_eq_getElem (by omega)⟩
              obtain ⟨b, o, hAe, hat⟩ := HO.out (by omega)
              subst hAe
              obtain ⟨hOb, _, _, _, _, hOs, _⟩ := hat m r hr
              obtain ⟨h1, h2, h3, h4, h5, h6, h7⟩ := (hat m r hr).grown HG.out
              have HOb := Lib.hid hOb
              have HOs := Lib.hid hOs
              clear hOb hOs
              have Hxl : Hid (r.x.length ≤ 32768) := Lib.hid (Hx.out m r hr)
              have H4 := Lib.hid h4
              have H5 := Lib.hid h5
              have H6 := Lib.hid h6
              have H7 := Lib.hid h7
              have hmb : (m : Int) ≤ 60 := by omega
              clear hat hr h4 h5 h6 h7
              by_cases hk1 : r.kind = 1
              · have hne1 := row_ne HF.out.rs HF.out.rt (by decide)
                have hne2 := row_ne HF.out.rs HF.out.rh (by decide)
                have hne3 := row_ne HF.out.rt HF.out.rh (by decide)
                obtain ⟨X, hX⟩ : ∃ X, r.x = X := ⟨_, rfl⟩
                obtain ⟨A4, hA4⟩ : ∃ A, r.addr = A := ⟨_, rfl⟩
                obtain ⟨c4, hc4⟩ : ∃ c, r.cap = c := ⟨_, rfl⟩
                rw [hX] at Hxl H4 H5 H6 H7 HOs
                rw [hA4] at H4 H5 H6 HOs
                rw [hc4] at H4 H5 H7
                clear hX hA4 hc4
                have hob := block_lt_of_cell H4.out
                go_upto_region 20 with (first
                  | (have _ := k; go_at_call_of 14 (Value.int .i64 r.dest); refine (place_any r.dest wr).mono ?_; rintro e w1 ⟨⟨t, ht, rfl⟩, rfl⟩)
                  | (go_at_call_of 14 (Value.int .i64 r.which); refine (place_any r.which wr).mono ?_; rintro e w1 ⟨⟨k, hk, rfl⟩, rfl⟩))
                obtain ⟨pk, hpk⟩ : ∃ p, ps[k]? = some p := ⟨_, List.getElem?_eq_getElem (by omega)⟩
                obtain ⟨vk, hvk⟩ : ∃ v, hs[k]? = some v := ⟨_, List.getElem?_eq_getElem (by omega)⟩
                have hkl : Hid (∀ b l, pk = some (b, l) → l.length ≤ m * 32768) := Lib.hid (fun b l h => Hlen.out k (b, l) (by rw [hpk, h]))
                have Hpk := Lib.hid hpk
                have Hvk := Lib.hid hvk
                have Hob := Lib.hid hob
                have HbN : Hid (∀ bb l, pk = some (bb, l) → w0.heap.size ≤ bb ∧ bb < wr.heap.size) := Lib.hid (fun bb l h => by
                  obtain ⟨h1, _, h2⟩ := HF.out.rep k (bb, l) (by rw [hpk, h])
                  exact ⟨h2, h1.lt⟩)
                have Hbne : Hid (some b ≠ pk.map (·.1)) := Lib.hid (fun e => by
                  rcases pk with _ | ⟨bb, l⟩
                  · cases e
                  · have h1 := (HbN.out bb l rfl).1
                    have h2 := block_lt_of_cell HOb.out
                    have h3 := Option.some.inj e
                    simp at h2 h3; omega)
                have Hold : Hid (∀ w', wr.grownBy w' (pk.map (·.1)) → Src w' A4 X) := Lib.hid (fun w' hg => H6.out.grown hg (fun h0 a ha e => by
                  have h1 := HOs.out.lt h0 a ha
                  rcases pk with _ | ⟨bb, l⟩
                  · cases e
                  · have h2 := (HbN.out bb l rfl).1
                    have h3 := Option.some.inj e
                    simp at h3; omega))
                have hXl := Hxl.out
                clear hpk hvk hob
                have c4f := H4.out
                go_wp2_with (first
                  | (have _ := w2; go_at_call 12; refine (kept_any g cap A4 c4 X w2 Hr2.out (fun h => (H5.out h).1) HX2.out (by omega)).mono ?_; rintro e w3 ⟨rfl, rfl⟩)
                  | (have _ := w1; go_at_call 15; refine (addp_any pk X (some ⟨g, 0, none⟩) cap w1 (fun b l h => by
                       obtain ⟨h1, h2, _⟩ := HF.out.rep k (b, l) (by rw [Hpk.out, h])
                       exact ⟨h1.grown Hg1.out (by simp), h2, by have := hkl.out b l h; omega⟩) ((HK.out.grown HG.out (by simp)).grown Hg1.out (by simp)) Hr1.out.src (fun b l h a ha => by
                       obtain ⟨h1, _⟩ := HF.out.rep k (b, l) (by rw [Hpk.out, h])
                       have := h1.lt; have := Hgb.out; obtain rfl := Option.some.inj ha; simp; omega) Hcap.out).mono ?_; rintro e w2 ⟨rfl, hg2, Hrp2⟩
                     have Hg2 : Hid (wr.grownBy w2 (pk.map (·.1))) := Lib.hid (grown_own (grown_none Hg1.out _) hg2 (fun i hi => .inl hi.symm))
                     have Hr2 : Hid (Roomed w2 g cap X) := Lib.hid (Hr1.out.grown hg2 (fun e => by
                       have := Hgb.out
                       rcases pk with _ | ⟨bb, l⟩
                       · cases e
                       · have := (HbN.out bb l rfl).2; have := Option.some.inj e; simp at this; omega))
                     have HX2 : Hid (Src w2 A4 X) := Lib.hid (Hold.out w2 Hg2.out)
                     have c4g : w2.cell? ⟨b, o + m * 4 + 3, none⟩ = some (.slice A4 X.length c4) := by rw [grown_cell Hg2.out Hob.out Hbne.out]; exact H4.out
                     clear hg2 cS1)
                  | (have _ := t; go_at_call 9; refine (roomy_any A4 c4 X wr H5.out H6.out (by omega)).mono ?_; rintro e w1 ⟨g, cap, rfl, hgb, hr1, hg1⟩
                     have Hcap : Hid (X.length ≤ cap) := Lib.hid (by obtain ⟨_, _, _, h, _⟩ := hr1; omega)
                     have Hr1 := Lib.hid hr1
                     have Hg1 := Lib.hid hg1
                     have Hgb := Lib.hid hgb
                     have cS1 : w1.cell? ⟨Bs, k, none⟩ = some (ptr pk) := (HF.out.keep hg1).rs.at_ (by rw [List.getElem?_map, Hpk.out]; rfl)
                     clear hr1 hg1 hgb c4f))
                clear c4g
                have HStep : Hid (∀ wx, w2.grownBy wx (some g) → Four wx Bs Bt Bh w0.heap.size (ps.set k (plus pk X)) (ps.map Option.isSome) (ps.map bytesOf) hs ∧ w0.grownBy wx none ∧ Src wx A4 X ∧ wx.cell? ⟨b, o + m * 4 + 3, none⟩ = some (.slice A4 X.length c4)) := Lib.hid (fun wx hgx => by
                  have hgw : wr.grownBy wx (pk.map (·.1)) := grown_own Hg2.out hgx (fun i hi => .inr (by obtain rfl := Option.some.inj hi; exact Hgb.out))
                  refine ⟨HF.out.plus Hpk.out hgw (fun bb l h => (Hrp2.out bb l h).grown hgx (fun e => by
                    have h1 := (HbN.out bb l h).2
                    have h2 := Hgb.out
                    have h3 := Option.some.inj e
                    omega)), grown_own HG.out hgw (fun i hi => .inr ?_), Hold.out wx hgw, by rw [grown_cell hgw Hob.out Hbne.out]; exact H4.out⟩
                  rcases pk with _ | ⟨bb, l⟩
                  · cases hi
                  · obtain rfl := Option.some.inj hi
                    exact (HbN.out _ l rfl).1)
                go_loopw [12] (fun j wx => ∃ q : Nat, q ≤ X.length ∧ j = .int .i64 q ∧ Hid (w2.grownBy wx (some g)) ∧ Hid (∃ cs, Row wx g 5 cs ∧ ∀ i, q ≤ i → i < X.length → cs[i]? = some (.int .u8 (X.getD i 0))))
                  (fun j _ => X.length - (intOf j).toNat)
                case atStart => exact ⟨0, by omega, rfl, Lib.hid (grown_refl _ _), Lib.hid (by
                  obtain ⟨cs, h1, h2, _⟩ := Hr2.out
                  refine ⟨cs, h1, fun i _ hi => ?_⟩
                  rw [h2 i (by omega)]
                  simp [List.getD_eq_getElem?_getD, List.getElem?_append, hi])⟩
                case round =>
                  obtain ⟨q, hq, rfl, HGx, Hcs⟩ := hrel
                  by_cases hlq : (q : Int) < X.length
                  · obtain ⟨cs, hrow, hcs⟩ := Hcs.out
                    obtain ⟨v, hv⟩ : ∃ v, X.getD q 0 = v := ⟨_, rfl⟩
                    have e1 := hcs q (Nat.le_refl _) (by omega)
                    rw [hv] at e1
                    have cq := hrow.at_ e1
                    have dq := hrow.frozen q
                    have Hrow := Lib.hid hrow
                    have Hcs' := Lib.hid hcs
                    clear hv e1 hrow hcs Hcs
                    have hcap := Hcap.out
                    go_wp2_with fail
                    go_roundw
                    case rel => exact ⟨q + 1, by omega, by go_num, Lib.hid (grown_set HGx.out (.inl rfl) _ _), Lib.hid ⟨_, Hrow.out.set q _, fun i h1 h2 => by rw [List.getElem?_set_ne (by omega)]; exact Hcs'.out i (by omega) h2⟩⟩
                    case measure => simp [intOf]; omega
                  · obtain ⟨hF, hG, hS, hC⟩ := HStep.out wr HGx.out
                    have HFx := Lib.hid hF
                    have HGy := Lib.hid hG
                    have HSx := Lib.hid hS
                    clear hF hG hS HStep Hcs
                    have cT : wr.cell? ⟨Bt, k, none⟩ = some (.bool pk.isSome) := HFx.out.rt.at_ (by rw [List.map_map, List.getElem?_map, Hpk.out]; rfl)
                    have H5' := H5
                    rcases pk with _ | ⟨b1, l1⟩
                    · simp only [Option.isSome] at cT
                      go_wp2_with fail
                      go_roundw
                      case rel => exact ⟨m + 1, ps.set k (plus none X), hs, by omega, by go_num, by simpa using hpl, hhl, Lib.hid (by rw [map_set_same Option.isSome ps k none (plus none X) Hpk.out rfl, map_set_same bytesOf ps k none (plus none X) Hpk.out rfl]; exact HFx.out), Lib.hid (fun i p hp => by
                        by_cases hik : i = k
                        · subst hik
                          rw [List.getElem?_set_self (by omega)] at hp
                          cases hp
                        · rw [List.getElem?_set_ne (Ne.symm hik)] at hp
                          have := Hlen.out i p hp; omega), HGy⟩
                      case measure => simp [intOf]; omega
                    · simp only [Option.isSome] at cT
                      have hown := HFx.out.own k vk l1 Hvk.out (by rw [List.getElem?_map, Hpk.out]; rfl)
                      obtain ⟨Ah, ch, rfl, hAh, hch, hsh, hbh⟩ := own_slice hown
                      have Hown := Lib.hid hown
                      have hl1 := hkl.out b1 l1 rfl
                      have Hl1 := Lib.hid hl1
                      clear hown hAh hch hsh hbh
                      go_upto_region 29 with fail
                      have cH : wr.cell? ⟨Bh, k, none⟩ = some (.slice Ah l1.length ch) := HFx.out.rh.at_ Hvk.out
                      have HF4 := HFx
                      have HG4 := HGy
                      have Hown4 := Hown
                      have hle : w0.heap.size ≤ wr.heap.size := HGy.out.size
                      have Hle := Lib.hid hle
                      obtain ⟨Y, hY⟩ : ∃ Y, l1 ++ X = Y := ⟨_, rfl⟩
                      have HY := Lib.hid hY
                      have HYl : Hid (Y.length = l1.length + X.length) := Lib.hid (by rw [← hY]; simp)
                      have Hsm : Hid (l1.length + X.length ≤ 1099511627776) := Lib.hid (by omega)
                      have HbV : Hid (some b ≠ (Value.slice Ah l1.length ch).ownBlock) := Lib.hid (fun e => by
                        have h1 := (Hown4.out.block b e.symm).1
                        have h2 := block_lt_of_cell HOb.out
                        simp at h2; omega)
                      have HvN : Hid ((Value.slice Ah l1.length ch).ownBlock = none ∨ (Value.slice Ah l1.length ch).ownBlock ≠ none) := Lib.hid (by cases (Value.slice Ah l1.length ch).ownBlock <;> simp)
                      clear hY hle cT
                      have hk4 : (k : Int) < 4 := by omega
                      have hk0 : (0 : Int) ≤ (k : Int) := by omega
                      have hkn : ¬ (k : Int) < 0 := by omega
                      go_region_law
                        (first
                          | (refine step_append_bytes2 rfl (.tmp 132) (.tmp 137) rfl w0.heap.size _ l1 X rfl (Hown4.out.grown (row := none) ⟨rfl, rfl, rfl, Nat.le_refl _, fun _ _ _ => rfl⟩ HvN.out) A4 c4 rfl H5'.out (HSx.out.grown (row := none) ⟨rfl, rfl, rfl, Nat.le_refl _, fun _ _ _ => rfl⟩ (by simp)) Hsm.out Hle.out ?_
                             intro v5 w5 ho5 hg5 ha5
                             rw [HY.out] at ho5
                             obtain ⟨A5, c5, rfl, -, -, -, -⟩ := own_slice ho5
                             have Ho5 := Lib.hid ho5
                             have Hg5 : Hid (wr.grownBy w5 (Value.slice Ah l1.length ch).ownBlock) := Lib.hid ⟨hg5.os, hg5.tape, hg5.output, hg5.size, hg5.block⟩
                             have Ha5 := Lib.hid ha5
                             have R5 := HF4.out.rh.grown Hg5.out (fun e => own_ne_row Hown4.out HF4.out.rh (by decide) e.symm)
                             have c5h : w5.cell? ⟨Bh, k, none⟩ = some (.slice Ah l1.length ch) := R5.at_ Hvk.out
                             have c5c : w5.cell? ⟨b, o + m * 4 + 3, none⟩ = some (.slice A4 X.length c4) := by rw [grown_cell Hg5.out (block_lt_of_cell hC) HbV.out]; exact hC
                             have d5h := R5.frozen k
                             clear ho5 hg5 ha5 R5))
                      all_goals go_wp2_with fail
                      all_goals
                        go_roundw
                        case rel =>
                          have F6 := HF4.out.app k (Value.slice Ah l1.length ch).ownBlock (.slice A5 Y.length c5) Y Hg5.out (.inr ⟨_, Hvk.out, rfl, l1, by rw [List.getElem?_map, Hpk.out]; rfl⟩) Ho5.out (fun i u hi hu => by
                            obtain ⟨l, hl⟩ : ∃ l, (ps.map bytesOf)[i]? = some l := ⟨_, List.getElem?_eq_getElem (by have := (List.getElem?_eq_some_iff.1 hu).1; simp; omega)⟩
                            exact (HF4.out.apt k i _ u (Ne.symm hi) Hvk.out hu).step Ha5.out (HF4.out.own i u l hu hl))
                          refine ⟨m + 1, ps.set k (plus (some (b1, l1)) X), hs.set k (.slice A5 Y.length c5), by omega, by go_num, by simpa using hpl, by simpa using hhl, Lib.hid ?_, Lib.hid ?_, Lib.hid ?_⟩
                          · rw [map_set_same Option.isSome ps k (some (b1, l1)) (plus (some (b1, l1)) X) Hpk.out rfl, List.map_set, show bytesOf (plus (some (b1, l1)) X) = Y from HY.out]
                            exact F6
                          · intro i p hp
                            by_cases hik : i = k
                            · subst hik
                              rw [List.getElem?_set_self (by omega)] at hp
                              obtain rfl := Option.some.inj (Option.some.inj hp)
                              have := Hl1.out
                              simp; omega
                            · rw [List.getElem?_set_ne (Ne.symm hik)] at hp
                              have := Hlen.out i p hp; omega
                          · have hB := HBs.out
                            exact grown_set (grown_own HG4.out Hg5.out (fun i hi => .inr (Hown4.out.block i hi).1)) (.inr (by omega)) _ _
                        case measure => simp [intOf]; omega
              by_cases hk2 : r.kind = 2
              · have hne1 := row_ne HF.out.rs HF.out.rt (by decide)
                have hne2 := row_ne HF.out.rs HF.out.rh (by decide)
                have hne3 := row_ne HF.out.rt HF.out.rh (by decide)
                go_upto_region 31 with (first
                  | (have _ := k; go_at_call_of 14 (Value.int .i64 r.dest); refine (place_any r.dest wr).mono ?_; rintro e w1 ⟨⟨t, ht, rfl⟩, rfl⟩)
                  | (go_at_call_of 14 (Value.int .i64 r.which); refine (place_any r.which wr).mono ?_; rintro e w1 ⟨⟨k, hk, rfl⟩, rfl⟩))
                obtain ⟨pk, hpk⟩ : ∃ p, ps[k]? = some p := ⟨_, List.getElem?_eq_getElem (by omega)⟩
                obtain ⟨vk, hvk⟩ : ∃ v, hs[k]? = some v := ⟨_, List.getElem?_eq_getElem (by omega)⟩
                have hown := HF.out.own k vk (bytesOf pk) hvk (by rw [List.getElem?_map, hpk]; rfl)
                obtain ⟨Ah, ch, rfl, hAh, hch, hsh, hbh⟩ := own_slice hown
                have hkl : Hid ((bytesOf pk).length ≤ m * 32768) := Lib.hid (by
                  cases pk with
                  | none => simp [bytesOf]
                  | some q => exact Hlen.out k q hpk)
                obtain ⟨lk, hlk⟩ : ∃ l, bytesOf pk = l := ⟨_, rfl⟩
                rw [hlk] at hAh hch hsh hkl hvk hown
                have cH : wr.cell? ⟨Bh, k, none⟩ = some (.slice Ah lk.length ch) := HF.out.rh.at_ hvk
                obtain ⟨S, hS⟩ : ∃ S, sha lk = S := ⟨_, rfl⟩
                have hSl : S.length = 32 := by rw [← hS]; exact sha_length lk
                have hSC : Hid ((S.map (Value.int .u8)).length = 32) := Lib.hid (by simpa using hSl)
                have H1S : Hid (∀ v ∈ S.map (Value.int .u8), v.oneCell' = true) := Lib.hid (oneCell_bytes S)
                have hneq := fun w => neq_same w S hSl
                have HS := Lib.hid hS
                have HAh := Lib.hid hAh
                have Hsh := Lib.hid hsh
                have Hlk := Lib.hid hlk
                have Hpk := Lib.hid hpk
                have H0 : Hid (wr.heap.size ≤ wr.heap.size) := Lib.hid (Nat.le_refl _)
                clear hAh hsh hlk hvk hown hbh hch hS hSl
                rcases pk with _ | ⟨b1, l1⟩
                · clear hneq
                  have hneq : ∀ w, (binOp .neq 25 (.agg z32.toArray) (.agg z32.toArray)).run Tryd.prog w = .ok (.bool false) w := fun w => neq_same w (List.replicate 32 0) rfl
                  have Hneq := Lib.hid hneq
                  clear hneq
                  have HZ1 := Lib.hid (show ∀ v ∈ z32, v.oneCell' = true by decide)
                  go_upto_region 34 with (first
                    | (have _ := w3; refine wpList_store_Row rfl 25 _ _ rfl w1.heap.size z32 rfl rfl 25 (S.map (Value.int .u8)) Hr3.out size25 (by rw [hSC.out]; rfl) HZ1.out ?_; intro w4 hr4 hg4 hs4; clear hs4; simp only [Act.put, List.setIfInBounds_toArray, List.set_cons_zero, List.set_cons_succ]
                       have Hr4 := Lib.hid hr4
                       have HG4 : Hid (wr.grownBy w4 none) := Lib.hid (grown_own HG3.out hg4 (by intro i hi; right; have := HB1.out.size; simp at hi; omega))
                       clear hr4 hg4 cTk)
                    | (have _ := w2; refine wpList_store_Row rfl 25 _ _ rfl w1.heap.size (S.map (Value.int .u8)) rfl rfl 25 z32 hr2 (by rw [hSC.out]; exact size25) (by rw [hSC.out]; rfl) H1S.out ?_; intro w3 hr3 hg3 hs3; clear hs3; simp only [Act.put, List.setIfInBounds_toArray, List.set_cons_zero, List.set_cons_succ]
                       have Hr3 := Lib.hid hr3
                       have HG3 : Hid (wr.grownBy w3 none) := Lib.hid (grown_own (grown_own (grown_of_below HB1.out none) hg2 (by simp)) hg3 (by intro i hi; right; have := HB1.out.size; simp at hi; omega))
                       have cTk : w3.cell? ⟨Bt, k, none⟩ = some (.bool false) := (HF.out.keep HG3.out).rt.at_ (by rw [List.map_map, List.getElem?_map, Hpk.out]; rfl)
                       clear hr2 hg2 hr3 hg3)
                    | (have _ := w1; refine wpList_alloc_abs rfl 25 rfl z32 _ (zero25 _) rfl ?_; intro w2 hr2 hg2 hs2; clear hs2; simp only [Act.put, List.setIfInBounds_toArray, List.set_cons_zero, List.set_cons_succ])
                    | (go_at_call 11; refine (rsum_any Ah ch lk wr HAh.out Hsh.out (by have := hkl.out; omega)).mono ?_; rintro e w1 ⟨rfl, hb1⟩
                       rw [HS.out]
                       unfold bytesA
                       have HB1 := Lib.hid hb1
                       clear hb1 cH))
                  have HF4 := Lib.hid (HF.out.keep HG4.out)
                  have cSk : w4.cell? ⟨Bs, k, none⟩ = some (.pointer none) := HF4.out.rs.at_ (by rw [List.getElem?_map, Hpk.out]; rfl)
                  have hfin : Hid (∀ wx, Below w4.heap.size w4 wx → Calls Tryd.prog 16 #[.pointer none] wx fun e w' => e = .returned (.agg z32.toArray) ∧ Below wx.heap.size wx w') := Lib.hid fun wx hb => fin_nil wx
                  have hneq := Hneq.out
                  have hcx := fun d os => cell_regrown cSk d os
                  refine wp_region_quiet_below (by kernel_rfl) (by kernel_rfl) ?_
                  repeat (first
                    | (refine wpQuiet_load_Row rfl 25 _ rfl w1.heap.size rfl z32 25 (by rintro _ ⟨p, rfl⟩; exact Hr4.out.below (below_regrown _ _ _) Hr4.out.lt) _ Tryd.underlying25 rfl size25 ?_; simp only [Act.put, List.setIfInBounds_toArray, List.set_cons_zero, List.set_cons_succ])
                    | go_big_quiet_step ((go_at_call 16; exact Calls.regrown_of (hfin.out _ (below_regrown _ _ _)))))
                  refine wpQuiet_nil ?_
                  rintro _ ⟨p, rfl⟩
                  have hbp := below_regrown w4 p.d p.os
                  generalize hwz : Sort.grow (redrawn w4 p.d) p.os = wz at hbp ⊢
                  clear hwz
                  have HGz : Hid (wr.grownBy wz none) := Lib.hid (grown_own HG4.out (grown_of_below hbp none) (by simp))
                  clear hbp hneq hcx cSk
                  go_wp2_with fail
                  go_roundw
                  case rel => exact ⟨m + 1, ps, hs, by omega, by go_num, hpl, hhl, Lib.hid (HF.out.keep HGz.out), Lib.hid (fun k p hp => by have := Hlen.out k p hp; omega), Lib.hid (grown_own HG.out HGz.out (by simp))⟩
                  case measure => simp [intOf]; omega
                · go_upto_region 34 with (first
                    | (have _ := w2; refine wpList_store_Row rfl 25 _ _ rfl w1.heap.size (S.map (Value.int .u8)) rfl rfl 25 z32 hr2 (by rw [hSC.out]; exact size25) (by rw [hSC.out]; rfl) H1S.out ?_; intro w3 hr3 hg3 hs3; clear hs3; simp only [Act.put, List.setIfInBounds_toArray, List.set_cons_zero, List.set_cons_succ]
                       have Hr3 := Lib.hid hr3
                       have HG3 : Hid (wr.grownBy w3 none) := Lib.hid (grown_own (grown_own (grown_of_below HB1.out none) hg2 (by simp)) hg3 (by intro i hi; right; have := HB1.out.size; simp at hi; omega))
                       have cTk : w3.cell? ⟨Bt, k, none⟩ = some (.bool true) := (HF.out.keep HG3.out).rt.at_ (by rw [List.map_map, List.getElem?_map, Hpk.out]; rfl)
                       clear hr2 hg2 hr3 hg3)
                    | (have _ := w1; refine wpList_alloc_abs rfl 25 rfl z32 _ (zero25 _) rfl ?_; intro w2 hr2 hg2 hs2; clear hs2; simp only [Act.put, List.setIfInBounds_toArray, List.set_cons_zero, List.set_cons_succ])
                    | (go_at_call 11; refine (rsum_any Ah ch lk wr HAh.out Hsh.out (by have := hkl.out; omega)).mono ?_; rintro e w1 ⟨rfl, hb1⟩
                       rw [HS.out]
                       unfold bytesA
                       have HB1 := Lib.hid hb1
                       clear hb1 cH))
                  have HF3 := Lib.hid (HF.out.keep HG3.out)
                  have cSk : w3.cell? ⟨Bs, k, none⟩ = some (.pointer (some ⟨b1, 0, none⟩)) := HF3.out.rs.at_ (by rw [List.getElem?_map, Hpk.out]; rfl)
                  have hfin : Hid (∀ wx, Below w3.heap.size w3 wx → Calls Tryd.prog 16 #[.pointer (some ⟨b1, 0, none⟩)] wx fun e w' => e = .returned (.agg (S.map (Value.int .u8)).toArray) ∧ Below wx.heap.size wx w') := Lib.hid fun wx hb => by
                    obtain ⟨hrep, h0, _⟩ := HF3.out.rep k _ Hpk.out
                    have h := fin_any step_any b1 l1 wx (hrep.grown (grown_of_below hb none) (by simp)) h0 ((HK.out.grown (grown_own HG.out HG3.out (by simp)) (by simp)).below hb) (by have := hkl.out; rw [← Hlk.out] at this; simp [bytesOf] at this; omega)
                    rw [show l1 = lk from Hlk.out, HS.out] at h
                    exact h
                  have hcx := fun d os => cell_regrown cSk d os
                  refine wp_region_quiet_below (by kernel_rfl) (by kernel_rfl) ?_
                  repeat (first
                    | (refine wpQuiet_load_Row rfl 25 _ rfl w1.heap.size rfl (S.map (Value.int .u8)) 25 (by rintro _ ⟨p, rfl⟩; exact Hr3.out.below (below_regrown _ _ _) Hr3.out.lt) _ Tryd.underlying25 rfl (by rw [hSC.out]; exact size25) ?_; simp only [Act.put, List.setIfInBounds_toArray, List.set_cons_zero, List.set_cons_succ])
                    | go_big_quiet_step ((go_at_call 16; exact Calls.regrown_of (hfin.out _ (below_regrown _ _ _)))))
                  refine wpQuiet_nil ?_
                  rintro _ ⟨p, rfl⟩
                  have hbp := below_regrown w3 p.d p.os
                  generalize hwz : Sort.grow (redrawn w3 p.d) p.os = wz at hbp ⊢
                  clear hwz
                  have HGz : Hid (wr.grownBy wz none) := Lib.hid (grown_own HG3.out (grown_of_below hbp none) (by simp))
                  clear hbp hneq hcx cSk
                  go_wp2_with fail
                  go_roundw
                  case rel => exact ⟨m + 1, ps, hs, by omega, by go_num, hpl, hhl, Lib.hid (HF.out.keep HGz.out), Lib.hid (fun k p hp => by have := Hlen.out k p hp; omega), Lib.hid (grown_own HG.out HGz.out (by simp))⟩
                  case measure => simp [intOf]; omega
              by_cases hk3 : r.kind = 3
              · have hne1 := row_ne HF.out.rs HF.out.rt (by decide)
                have hne2 := row_ne HF.out.rs HF.out.rh (by decide)
                have hne3 := row_ne HF.out.rt HF.out.rh (by decide)
                go_upto_region 37 with (first
                  | (have _ := k; go_at_call_of 14 (Value.int .i64 r.dest); refine (place_any r.dest wr).mono ?_; rintro e w1 ⟨⟨t, ht, rfl⟩, rfl⟩)
                  | (go_at_call_of 14 (Value.int .i64 r.which); refine (place_any r.which wr).mono ?_; rintro e w1 ⟨⟨k, hk, rfl⟩, rfl⟩))
                obtain ⟨pk, hpk⟩ : ∃ p, ps[k]? = some p := ⟨_, List.getElem?_eq_getElem (by omega)⟩
                obtain ⟨pt, hpt⟩ : ∃ p, ps[t]? = some p := ⟨_, List.getElem?_eq_getElem (by omega)⟩
                obtain ⟨vk, hvk⟩ : ∃ v, hs[k]? = some v := ⟨_, List.getElem?_eq_getElem (by omega)⟩
                obtain ⟨vt, hvt⟩ : ∃ v, hs[t]? = some v := ⟨_, List.getElem?_eq_getElem (by omega)⟩
                have hown := HF.out.own k vk (bytesOf pk) hvk (by rw [List.getElem?_map, hpk]; rfl)
                obtain ⟨Ah, ch, rfl, hAh, hch, hsh, hbh⟩ := own_slice hown
                have hkl : Hid ((bytesOf pk).length ≤ m * 32768) := Lib.hid (by
                  cases pk with
                  | none => simp [bytesOf]
                  | some q => exact Hlen.out k q hpk)
                obtain ⟨lk, hlk⟩ : ∃ l, bytesOf pk = l := ⟨_, rfl⟩
                rw [hlk] at hAh hch hsh hkl hvk hown
                have cSk : wr.cell? ⟨Bs, k, none⟩ = some (ptr pk) := HF.out.rs.at_ (by rw [List.getElem?_map, hpk]; rfl)
                have HAh := Lib.hid hAh
                have Hsh := Lib.hid hsh
                have Hlk := Lib.hid hlk
                have Hpk := Lib.hid hpk
                have Hpt := Lib.hid hpt
                have Hvk := Lib.hid hvk
                have Hvt := Lib.hid hvt
                clear hAh hsh hlk hpt hvk hvt hown hbh hch
                rcases pk with _ | ⟨b1, l1⟩
                · simp only [ptr] at cSk
                  have cSt : wr.cell? ⟨Bs, t, none⟩ = some (ptr pt) := HF.out.rs.at_ (by rw [List.getElem?_map, Hpt.out]; rfl)
                  have cTk : wr.cell? ⟨Bt, k, none⟩ = some (.bool false) := HF.out.rt.at_ (by rw [List.map_map, List.getElem?_map, Hpk.out]; rfl)
                  have cTt : wr.cell? ⟨Bt, t, none⟩ = some (.bool pt.isSome) := HF.out.rt.at_ (by rw [List.map_map, List.getElem?_map, Hpt.out]; rfl)
                  have dS := HF.out.rs.frozen t
                  have dT := HF.out.rt.frozen t
                  go_wp2_with (go_at_call 17; refine (copy_nil wr).mono ?_; rintro e w2 ⟨rfl, rfl⟩)
                  have F1 := HF.out.setp t none (by intro q hq; cases hq)
                  have hgs : w0.grownBy (wr.setCell ⟨Bs, t, none⟩ (ptr none)) none := grown_set HG.out (.inr (by have := HBs.out; omega)) _ _
                  generalize hw3 : wr.setCell ⟨Bs, t, none⟩ (ptr none) = w3 at F1 hgs
                  rw [show wr.setCell ⟨Bs, t, none⟩ (Value.pointer none) = w3 from hw3]
                  have HF3 := Lib.hid F1
                  have HG3 := Lib.hid hgs
                  clear hw3 F1 hgs cSk cSt cTk cTt dS dT
                  have cS : w3.cell? ⟨Bs, t, none⟩ = some (.pointer none) := HF3.out.rs.at_ (by rw [List.getElem?_map, List.getElem?_set_self (by omega)]; rfl)
                  have cT : w3.cell? ⟨Bt, k, none⟩ = some (.bool false) := HF3.out.rt.at_ (by rw [List.map_map, List.getElem?_map, Hpk.out]; rfl)
                  go_quiet (fail)
                  generalize hw4 : w3.drewN nq = w4
                  have F4 := HF3.out.keep (grown_drewN (grown_refl w3 none) nq)
                  rw [hw4] at F4
                  have HF4 := Lib.hid F4
                  have HG4 : Hid (w0.grownBy w4 none) := by rw [← hw4]; exact Lib.hid (grown_drewN HG3.out nq)
                  clear hw4 F4 HF3 HG3 cS cT
                  obtain ⟨sA, sc, sS⟩ := own_src (HF4.out.own k _ lk Hvk.out (by rw [List.getElem?_map, Hpk.out]; exact congrArg some Hlk.out))
                  have c1 : w4.cell? ⟨Bh, k, none⟩ = some (.slice Ah lk.length ch) := HF4.out.rh.at_ Hvk.out
                  have HS4 := Lib.hid sS
                  clear sA sc sS
                  go_wp2_with (first
                  | (go_at_call 18; refine (copyBytes_any Ah ch lk w4 HAh.out HS4.out (by have := hkl.out; omega)).mono ?_; rintro e w5 ⟨v5, rfl, ho5, hg5⟩
                     obtain ⟨A5, c5, rfl, -, -, -, -⟩ := own_slice ho5
                     have HF5 := Lib.hid (HF4.out.keep hg5)
                     have cT5 : w5.cell? ⟨Bt, k, none⟩ = some (.bool false) := HF5.out.rt.at_ (by rw [List.map_map, List.getElem?_map, Hpk.out]; rfl)
                     have cH5 : w5.cell? ⟨Bh, t, none⟩ = some vt := HF5.out.rh.at_ Hvt.out
                     have cU5 : w5.cell? ⟨Bt, t, none⟩ = some (.bool pt.isSome) := HF5.out.rt.at_ (by rw [List.map_map, List.getElem?_map, Hpt.out]; rfl)
                     have d1 := HF5.out.rh.frozen t
                     have d2 := HF5.out.rt.frozen t
                     have Ho5 := Lib.hid ho5
                     have Hg5 := Lib.hid hg5
                     clear ho5 hg5 c1))
                  go_roundw
                  case rel =>
                    refine ⟨m + 1, ps.set t none, hs.set t (.slice A5 lk.length c5), by omega, by go_num, by simpa using hpl, by simpa using hhl, Lib.hid ?_, Lib.hid ?_, Lib.hid ?_⟩
                    · have F6 := HF5.out.app t none (.slice A5 lk.length c5) lk (grown_refl _ _) (.inl rfl) (Ho5.out.mono HG4.out.size) (fun i u hi hu j hj hj' => by
                        have h1 := (Ho5.out.block j hj).1
                        obtain ⟨l, hl⟩ : ∃ l, (ps.map bytesOf)[i]? = some l := ⟨_, List.getElem?_eq_getElem (by have := (List.getElem?_eq_some_iff.1 hu).1; simp; omega)⟩
                        have h2 := ((HF4.out.own i u l hu hl).block j hj').2
                        omega)
                      have F7 := F6.sett t false
                      have eb : bytesOf none = lk := Hlk.out
                      rw [List.map_set, List.map_set, eb]
                      exact F7
                    · intro i p hp
                      by_cases hik : i = t
                      · subst hik
                        rw [List.getElem?_set_self (by omega)] at hp
                        cases hp
                      · rw [List.getElem?_set_ne (Ne.symm hik)] at hp
                        have := Hlen.out i p hp; omega
                    · have hB := HBs.out
                      exact grown_set (grown_set (grown_own HG4.out Hg5.out (by simp)) (.inr (by omega)) _ _) (.inr (by omega)) _ _
                  case measure => simp [intOf]; omega
                · simp only [ptr] at cSk
                  have cSt : wr.cell? ⟨Bs, t, none⟩ = some (ptr pt) := HF.out.rs.at_ (by rw [List.getElem?_map, Hpt.out]; rfl)
                  have dS := HF.out.rs.frozen t
                  have hrep := (HF.out.rep k _ Hpk.out).1
                  have Hrep := Lib.hid hrep
                  clear hrep
                  go_wp2_with (first
                  | (go_at_call 17; refine (copy_any b1 l1 wr Hrep.out).mono ?_; rintro e w2 ⟨rfl, hr2, hg2, hs2⟩
                     have HF2 := Lib.hid (HF.out.keep hg2)
                     have cSt2 : w2.cell? ⟨Bs, t, none⟩ = some (ptr pt) := HF2.out.rs.at_ (by rw [List.getElem?_map, Hpt.out]; rfl)
                     have dS2 := HF2.out.rs.frozen t
                     have Hr2 := Lib.hid hr2
                     have Hg2 := Lib.hid hg2
                     have Hs2 := Lib.hid hs2
                     clear hr2 hg2 hs2 cSk cSt dS))
                  have F1 := HF2.out.setp t (some (wr.heap.size, l1)) (by
                    rintro q hq
                    obtain rfl := Option.some.inj hq
                    refine ⟨Hr2.out, ?_, HG.out.size, fun i p hi hp => ?_⟩
                    · have := HK.out.lt; have := HG.out.size; simp; omega
                    · have := (HF.out.rep i p hp).1.lt; simp; omega)
                  have hgs : w0.grownBy (w2.setCell ⟨Bs, t, none⟩ (ptr (some (wr.heap.size, l1)))) none := grown_set (grown_own HG.out Hg2.out (by simp)) (.inr (by have := HBs.out; omega)) _ _
                  generalize hw3 : w2.setCell ⟨Bs, t, none⟩ (ptr (some (wr.heap.size, l1))) = w3 at F1 hgs
                  rw [show w2.setCell ⟨Bs, t, none⟩ (Value.pointer (some ⟨wr.heap.size, 0, none⟩)) = w3 from hw3]
                  have HF3 := Lib.hid F1
                  have HG3 := Lib.hid hgs
                  clear hw3 F1 hgs cSt2 dS2
                  have cS : w3.cell? ⟨Bs, t, none⟩ = some (.pointer (some ⟨wr.heap.size, 0, none⟩)) := HF3.out.rs.at_ (by rw [List.getElem?_map, List.getElem?_set_self (by omega)]; rfl)
                  have cT : w3.cell? ⟨Bt, k, none⟩ = some (.bool true) := HF3.out.rt.at_ (by rw [List.map_map, List.getElem?_map, Hpk.out]; rfl)
                  go_quiet (fail)
                  generalize hw4 : w3.drewN nq = w4
                  have F4 := HF3.out.keep (grown_drewN (grown_refl w3 none) nq)
                  rw [hw4] at F4
                  have HF4 := Lib.hid F4
                  have HG4 : Hid (w0.grownBy w4 none) := by rw [← hw4]; exact Lib.hid (grown_drewN HG3.out nq)
                  clear hw4 F4 HF3 HG3 cS cT
                  obtain ⟨sA, sc, sS⟩ := own_src (HF4.out.own k _ lk Hvk.out (by rw [List.getElem?_map, Hpk.out]; exact congrArg some Hlk.out))
                  have c1 : w4.cell? ⟨Bh, k, none⟩ = some (.slice Ah lk.length ch) := HF4.out.rh.at_ Hvk.out
                  have HS4 := Lib.hid sS
                  clear sA sc sS
                  go_wp2_with (first
                  | (go_at_call 18; refine (copyBytes_any Ah ch lk w4 HAh.out HS4.out (by have := hkl.out; omega)).mono ?_; rintro e w5 ⟨v5, rfl, ho5, hg5⟩
                     obtain ⟨A5, c5, rfl, -, -, -, -⟩ := own_slice ho5
                     have HF5 := Lib.hid (HF4.out.keep hg5)
                     have cT5 : w5.cell? ⟨Bt, k, none⟩ = some (.bool true) := HF5.out.rt.at_ (by rw [List.map_map, List.getElem?_map, Hpk.out]; rfl)
                     have cH5 : w5.cell? ⟨Bh, t, none⟩ = some vt := HF5.out.rh.at_ Hvt.out
                     have cU5 : w5.cell? ⟨Bt, t, none⟩ = some (.bool pt.isSome) := HF5.out.rt.at_ (by rw [List.map_map, List.getElem?_map, Hpt.out]; rfl)
                     have d1 := HF5.out.rh.frozen t
                     have d2 := HF5.out.rt.frozen t
                     have Ho5 := Lib.hid ho5
                     have Hg5 := Lib.hid hg5
                     clear ho5 hg5 c1))
                  go_roundw
                  case rel =>
                    refine ⟨m + 1, ps.set t (some (wr.heap.size, l1)), hs.set t (.slice A5 lk.length c5), by omega, by go_num, by simpa using hpl, by simpa using hhl, Lib.hid ?_, Lib.hid ?_, Lib.hid ?_⟩
                    · have F6 := HF5.out.app t none (.slice A5 lk.length c5) lk (grown_refl _ _) (.inl rfl) (Ho5.out.mono HG4.out.size) (fun i u hi hu j hj hj' => by
                        have h1 := (Ho5.out.block j hj).1
                        obtain ⟨l, hl⟩ : ∃ l, (ps.map bytesOf)[i]? = some l := ⟨_, List.getElem?_eq_getElem (by have := (List.getElem?_eq_some_iff.1 hu).1; simp; omega)⟩
                        have h2 := ((HF4.out.own i u l hu hl).block j hj').2
                        omega)
                      have F7 := F6.sett t true
                      have eb : bytesOf (some (wr.heap.size, l1)) = lk := Hlk.out
                      rw [List.map_set, List.map_set, eb]
                      exact F7
                    · intro i p hp
                      by_cases hik : i = t
                      · subst hik
                        rw [List.getElem?_set_self (by omega)] at hp
                        obtain rfl := Option.some.inj (Option.some.inj hp); have := Hlen.out k _ Hpk.out; simp at this ⊢; omega
                      · rw [List.getElem?_set_ne (Ne.symm hik)] at hp
                        have := Hlen.out i p hp; omega
                    · have hB := HBs.out
                      exact grown_set (grown_set (grown_own HG4.out Hg5.out (by simp)) (.inr (by omega)) _ _) (.inr (by omega)) _ _
                  case measure => simp [intOf]; omega
              by_cases hk4 : r.kind = 4
              · have hne1 := row_ne HF.out.rs HF.out.rt (by decide)
                have hne2 := row_ne HF.out.rs HF.out.rh (by decide)
                have hne3 := row_ne HF.out.rt HF.out.rh (by decide)
                go_wp2_with (first
                  | (have _ := t; go_at_call 13; refine (new_any wr).mono ?_; rintro e w2 ⟨rfl, hr2, hg2, hs2⟩
                     have HF2 := Lib.hid (HF.out.keep hg2)
                     obtain ⟨pk, hpk⟩ : ∃ p, ps[k]? = some p := ⟨_, List.getElem?_eq_getElem (by omega)⟩
                     obtain ⟨vk, hvk⟩ : ∃ v, hs[k]? = some v := ⟨_, List.getElem?_eq_getElem (by omega)⟩
                     have c1 : w2.cell? ⟨Bs, k, none⟩ = some (ptr pk) := HF2.out.rs.at_ (by rw [List.getElem?_map, hpk]; rfl)
                     have c2 : w2.cell? ⟨Bt, k, none⟩ = some (.bool pk.isSome) := HF2.out.rt.at_ (by rw [List.map_map, List.getElem?_map, hpk]; rfl)
                     have c3 : w2.cell? ⟨Bh, k, none⟩ = some vk := HF2.out.rh.at_ hvk
                     have d1 := HF2.out.rs.frozen k
                     have d2 := HF2.out.rt.frozen k
                     have d3 := HF2.out.rh.frozen k
                     have Hr2 := Lib.hid hr2
                     have Hg2 := Lib.hid hg2
                     clear hr2 hg2 hs2 hpk hvk)
                  | (have _ := k; go_at_call_of 14 (Value.int .i64 r.dest); refine (place_any r.dest wr).mono ?_; rintro e w1 ⟨⟨t, ht, rfl⟩, rfl⟩)
                  | (go_at_call_of 14 (Value.int .i64 r.which); refine (place_any r.which wr).mono ?_; rintro e w1 ⟨⟨k, hk, rfl⟩, rfl⟩))
                go_roundw
                case rel =>
                  refine ⟨m + 1, ps.set k (some (wr.heap.size, [])), hs.set k (.slice none 0 0), by omega, by go_num, by simpa using hpl, by simpa using hhl, Lib.hid ?_, Lib.hid ?_, Lib.hid ?_⟩
                  · have F1 := HF2.out.setp k (some (wr.heap.size, [])) (by
                      rintro q hq
                      obtain rfl := Option.some.inj hq
                      refine ⟨Hr2.out, ?_, HG.out.size, fun i p hi hp => ?_⟩
                      · have := HK.out.lt; have := HG.out.size; simp; omega
                      · have := (HF.out.rep i p hp).1.lt; simp; omega)
                    have F2 := F1.app k none (.slice none 0 0) [] (grown_refl _ _) (.inl rfl) (own_nil _ _) (fun _ _ _ _ i h => by cases h)
                    have F3 := F2.sett k true
                    rw [List.map_set, List.map_set]
                    exact F3
                  · intro i p hp
                    by_cases hik : i = k
                    · subst hik
                      rw [List.getElem?_set_self (by omega)] at hp
                      obtain rfl := Option.some.inj (Option.some.inj hp)
                      simp
                    · rw [List.getElem?_set_ne (Ne.symm hik)] at hp
                      have := Hlen.out i p hp; omega
                  · have hB := HBs.out
                    exact grown_set (grown_set (grown_set (grown_own HG.out Hg2.out (by simp)) (.inr (by omega)) _ _) (.inr (by omega)) _ _) (.inr (by omega)) _ _
                case measure => simp [intOf]; omega
              go_wp2_with (first
                | (go_at_call_of 14 (Value.int .i64 r.which); refine (place_any r.which wr).mono ?_; rintro e w1 ⟨⟨k, hk, rfl⟩, rfl⟩)
                | (go_at_call_of 14 (Value.int .i64 r.dest); refine (place_any r.dest wr).mono ?_; rintro e w1 ⟨⟨t, ht, rfl⟩, rfl⟩))
              go_roundw
              case rel => exact ⟨m + 1, ps, hs, by omega, by go_num, hpl, hhl, HF, Lib.hid (fun k p hp => by have := Hlen.out k p hp; omega), HG⟩
              case measure => simp [intOf]; omega
            · go_wp2_with (go_at_call 8; refine (works_any wr (HK.out.grown HG.out (by simp))).mono ?_; rintro e w1 ⟨rfl, hb1⟩; have Hb1 := Lib.hid hb1; clear hb1)
              go_ret
              exact ⟨rfl, by rw [← Hw0.out]; exact below_of_grown (grown_below HG.out Hb1.out HG.out.size)⟩
      · go_wp2_with (go_at_call 8; refine (works_any wr HK.out).mono ?_; rintro e w1 ⟨rfl, hb1⟩; have Hb1 := Lib.hid hb1; clear hb1)
        go_ret
        exact ⟨rfl, Hb1.out⟩
end Go.Proofs.YtkfdaeipfjcibaaDoor
