/- The statements' own: a value is written over, and gone on with. -/
import Derived.Test.YtlbilofnbhhmjaaGreatDoorSpec
import Derived.Test.YtlbilofnbhhmjaaGreatDoorList
namespace Go.Proofs.YtlbilofnbhhmjaaGreatDoor
open Go.RowKit
set_option linter.unusedVariables false
set_option linter.unusedSimpArgs false
def nine5 : List Value := [.int .i8 9, .bool false, .string ⟨#[]⟩, .slice none 0 0, .slice none 0 0]
theorem nine5_one : ∀ v ∈ nine5, v.oneCell' = true := by
  intro v hv
  simp [nine5] at hv
  rcases hv with rfl | rfl | rfl | rfl | rfl <;> rfl
theorem row_none {w : World} (v : Value) : v.ownBlock = none ∨ v.ownBlock ≠ none := by cases v.ownBlock <;> simp
theorem setCells_own {base e size g n cap K : Nat} : ∀ (cs : List Value) (w : World) (xs : List Value) (o : Nat), w.ownsRow base e size (.slice (some ⟨g, 0, none⟩) n cap) n xs → o + cs.length ≤ K →
    ∃ ys, (w.setCells g o cs).ownsRow base e size (.slice (some ⟨g, 0, none⟩) n cap) n ys ∧ ys.drop K = xs.drop K ∧ w.grownBy (w.setCells g o cs) (some g)
  | [], w, xs, o, h, hK => ⟨xs, h, rfl, grown_refl _ _⟩
  | c :: cs, w, xs, o, h, hK => by
    simp only [List.length_cons] at hK
    obtain ⟨h1, h2⟩ := h.stored o c
    obtain ⟨ys, a, b, d⟩ := setCells_own (K := K) cs _ _ (o + 1) h1 (by omega)
    refine ⟨ys, a, b.trans (List.drop_set_of_lt (show o < K by omega)), grown_trans h2 d⟩
section
variable {ops : Array Oper} {rest : List Oper} {o : Oper} {a : Act} {w : World} {Q : Exit → Act → World → Prop}
theorem wpList_store_own5 (hgd : o.guard = none) (x y : Operand) (ho : o.op = .store 26 x y) (base g n cap : Nat) (xs : List Value) (hown : w.ownsRow base 26 5 (.slice (some ⟨g, 0, none⟩) n cap) n xs)
    (i k : Nat) (hi : i < n) (hx : a.eval x = .pointer (some ⟨g, k, none⟩)) (hk : k = i * 5) (cs : List Value) (hcs : cs.length = 5) (hy : a.eval y = .agg cs.toArray) (h1 : ∀ v ∈ cs, v.oneCell' = true)
    (h : ∀ w', (∃ ys, w'.ownsRow base 26 5 (.slice (some ⟨g, 0, none⟩) n cap) n ys ∧ ys.drop ((i + 1) * 5) = xs.drop ((i + 1) * 5)) → w.grownBy w' (some g) → wpList Tryz.prog ops Q rest (a.put o.dst undef) w') : wpList Tryz.prog ops Q (o :: rest) a w := by
  subst hk
  refine wpList_store_mid hgd 26 x y ho g (i * 5) cs.toArray hx hy (fun j hj => ?_) (by rw [size29]; simp [hcs]) (all_oneCell_toArray h1) ?_
  · simp [hcs] at hj
    refine ⟨?_, hown.frozenAt _⟩
    rw [hown.cellAt _ (by omega), List.getElem?_eq_getElem (by have := hown.1; omega)]; rfl
  · obtain ⟨ys, a1, b1, c1⟩ := setCells_own (K := (i + 1) * 5) cs w xs (i * 5) hown (by omega)
    exact h _ ⟨ys, a1, b1⟩ c1
end
/-- A value under way to be written over: i of its list's values are. -/
structure Sp (w : World) (F G : List Nat) (lo p : Nat) (vk vl : Value) (box : List Value) (nk nl : Nat) (ls : List J) (i : Nat) (wr : World) : Prop where
  box : Row wr p 26 box
  only : Only F w wr
  keys : ∃ xs, wr.ownsRow lo 9 1 vk nk xs
  list : ∃ ys H, wr.ownsRow lo 26 5 vl nl ys ∧ JsAt wr lo (ls.drop i) (ys.drop (i * 5)) H ∧ ∀ g ∈ H, g ∈ G
/-- How its blocks lie. -/
structure SpF (w : World) (F G : List Nat) (p : Nat) (vk vl : Value) : Prop where
  k : ∀ g, vk.ownBlock = some g → g ∈ F ∧ g ∉ G ∧ vl.ownBlock ≠ some g
  l : ∀ g, vl.ownBlock = some g → g ∈ F ∧ g ∉ G ∧ vk.ownBlock ≠ some g
  g : ∀ g ∈ G, g ∈ F
  lt : ∀ g ∈ F, g < w.heap.size
  p : w.heap.size ≤ p
theorem spF_of {w : World} {lo : Nat} {vk vl : Value} {F G : List Nat} (hF : F = obs vk ++ (obs vl ++ G)) (hn : F.Nodup) (hlt : ∀ g ∈ F, lo ≤ g ∧ g < w.heap.size) {p : Nat} (hp : w.heap.size ≤ p) : SpF w F G p vk vl := by
  subst hF
  rw [List.nodup_append] at hn
  obtain ⟨h1, h2, h3⟩ := hn
  rw [List.nodup_append] at h2
  obtain ⟨h4, h5, h6⟩ := h2
  refine ⟨fun g hg => ⟨by simp [obs_mem.2 hg], fun hm => h3 g (obs_mem.2 hg) g (by simp [hm]) rfl, fun hm => h3 g (obs_mem.2 hg) g (by simp [obs_mem.2 hm]) rfl⟩,
    fun g hg => ⟨by simp [obs_mem.2 hg], fun hm => h6 g (obs_mem.2 hg) g hm rfl, fun hm => h3 g (obs_mem.2 hm) g (by simp [obs_mem.2 hg]) rfl⟩, fun g hg => by simp [hg], fun g hg => (hlt g hg).2, hp⟩
section
variable {w wr w5 w6 : World} {F G : List Nat} {lo p : Nat} {vk vl : Value} {box : List Value} {nk nl : Nat} {ls : List J} {i : Nat}
/-- What is left when the i-th value has been spoiled. -/
theorem Sp.call (h : Sp w F G lo p vk vl box nk nl ls i wr) (hf : SpF w F G p vk vl) {j : J} (hj : ls[i]? = some j) :
    ∃ (ys cs ds : List Value) (G1 H1 : List Nat), wr.ownsRow lo 26 5 vl nl ys ∧ ys.drop (i * 5) = cs ++ ds ∧ JAt wr lo j cs G1 ∧ (∀ g ∈ G1, g ∈ G) ∧
      ∀ w5, Only G1 wr w5 → Row w5 p 26 box ∧ w5.ownsRow lo 26 5 vl nl ys ∧ (∀ w6 gl, vl.ownBlock = some gl → w5.grownBy w6 (some gl) → (∃ zs, w6.ownsRow lo 26 5 vl nl zs ∧ zs.drop ((i + 1) * 5) = ys.drop ((i + 1) * 5)) → Sp w F G lo p vk vl box nk nl ls (i + 1) w6) := by
  obtain ⟨ys, H, h1, h2, h3⟩ := h.list
  have hd : ls.drop i = j :: ls.drop (i + 1) := by
    have hlt := (List.getElem?_eq_some_iff.1 hj).1
    rw [List.drop_eq_getElem_cons hlt, (List.getElem?_eq_some_iff.1 hj).2]
  rw [hd] at h2
  unfold JsAt at h2
  obtain ⟨cs, ds, G1, H1, e1, e2, e3, e4, e5⟩ := h2
  subst e4
  rw [List.nodup_append] at e5
  have hG1 : ∀ g ∈ G1, g ∈ G := fun g hg => h3 g (by simp [hg])
  refine ⟨ys, cs, ds, G1, H1, h1, e1, e2, hG1, fun w5 ho => ?_⟩
  have hb : Row w5 p 26 box := ho.row h.box (fun hm => by have := hf.lt p (hf.g p (hG1 p hm)); have := hf.p; omega)
  have hl : w5.ownsRow lo 26 5 vl nl ys := ownsRow_only h1 ho (fun g hg hm => (hf.l g hg).2.1 (hG1 g hm))
  refine ⟨hb, hl, fun w6 gl hgl hg ⟨zs, hz1, hz2⟩ => ?_⟩
  have hgl' := hf.l gl hgl
  obtain ⟨xs, hk⟩ := h.keys
  have hk5 := ownsRow_only hk ho (fun g hg hm => (hf.k g hg).2.1 (hG1 g hm))
  refine ⟨hb.grown hg (fun e => by have := Option.some.inj e; have := hf.lt gl hgl'.1; have := hf.p; omega),
    (h.only.trans ho (fun g hg => .inl (hf.g g (hG1 g hg)))).then hg (fun g e => .inl (Option.some.inj e ▸ hgl'.1)),
    ⟨xs, World.ownsRow.kept hk5 hg (by
      cases hb : vk.ownBlock with
      | none => exact .inl rfl
      | some g => exact .inr (fun e => hgl'.2.2 (hb.trans e)))⟩, zs, H1, hz1, ?_, fun g hg => h3 g (by simp [hg])⟩
  have hds : zs.drop ((i + 1) * 5) = ds := by
    rw [hz2, show (i + 1) * 5 = i * 5 + 5 by omega, ← List.drop_drop, e1, ← e2.five.1, List.drop_left]
  rw [hds]
  exact (JsAt.only ho e3 (fun g hg hm => e5.2.2 g hm g hg rfl)).kept hg (fun g hm e => by have := Option.some.inj e; subst this; exact hgl'.2.1 (h3 _ (by simp [hm])))
theorem Sp.key (h : Sp w F G lo p vk vl box nk nl ls i wr) (hf : SpF w F G p vk vl) {gk : Nat} (hk : vk.ownBlock = some gk) (hg : wr.grownBy w5 (some gk)) (hz : ∃ xs, w5.ownsRow lo 9 1 vk nk xs) : Sp w F G lo p vk vl box nk nl ls i w5 := by
  have hgk := hf.k gk hk
  obtain ⟨ys, H, h1, h2, h3⟩ := h.list
  refine ⟨h.box.grown hg (fun e => by have := Option.some.inj e; have := hf.lt gk hgk.1; have := hf.p; omega), h.only.then hg (fun g e => .inl (Option.some.inj e ▸ hgk.1)), hz, ys, H,
    World.ownsRow.kept h1 hg (by
      cases hb : vl.ownBlock with
      | none => exact .inl rfl
      | some g => exact .inr (fun e => hgk.2.2 (hb.trans e))), h2.kept hg (fun g hm e => by have := Option.some.inj e; subst this; exact hgk.2.1 (h3 _ hm)), h3⟩
/-- Behind the first append. -/
theorem Sp.app (h : Sp w F G lo p vk vl box nk nl ls i wr) (hf : SpF w F G p vk vl) (hg1 : wr.grownBy w5 none) (hg : w5.grownBy w6 vk.ownBlock) : Row w6 p 26 box ∧ Only F w w6 ∧ ∃ ys, w6.ownsRow lo 26 5 vl nl ys := by
  obtain ⟨ys, H, h1, h2, h3⟩ := h.list
  refine ⟨(h.box.grown hg1 (by simp)).grown hg (fun e => by have := hf.lt p (hf.k p e.symm).1; have := hf.p; omega), (h.only.then hg1 (by simp)).then hg (fun g e => .inl (hf.k g e).1), ys,
    World.ownsRow.kept (World.ownsRow.kept h1 hg1 (row_none (w := wr) _)) hg (by
      cases hb : vl.ownBlock with
      | none => exact .inl rfl
      | some g => exact .inr (fun e => (hf.l g hb).2.2 e.symm))⟩
end
theorem row_new_at {W : World} {g : Nat} (h : W.heap.size = g) (cs : List Value) (T : TypeId) : Row (W.alloc (.cells cs.toArray T)) g T cs := h ▸ Row.new W cs T
/-- Behind the second. -/
theorem app2 {w w7 w8 : World} {F G : List Nat} {p : Nat} {vk vl u : Value} {box : List Value} {o : Obj} (hf : SpF w F G p vk vl) (hb : Row w7 p 26 box) (hO : Only F w w7) (hg : ((w7.setCell ⟨p, 3, none⟩ u).alloc o).grownBy w8 vl.ownBlock) :
    Row w8 p 26 (box.set 3 u) ∧ Only F w w8 :=
  ⟨((hb.set 3 u).alloc o).grown hg (fun e => by have := hf.lt p (hf.l p e.symm).1; have := hf.p; omega),
    (hO.then (grown_alloc (grown_set (grown_refl w7 (some p)) (.inl rfl) 3 u) o) (fun g e => .inr (by have := hf.p; have := Option.some.inj e; omega))).then hg (fun g e => .inl (hf.l g e).1)⟩
def nine15 : List Value := nine5 ++ (nine5 ++ nine5)
theorem nine15_one : ∀ v ∈ nine15, v.oneCell' = true := by
  intro v hv
  rcases List.mem_append.1 hv with h | h
  · exact nine5_one v h
  · rcases List.mem_append.1 h with h | h <;> exact nine5_one v h
/-- What spoiling a value does. -/
def SpoilIs (j : J) : Prop := ∀ (cs : List Value) (F : List Nat) (lo : Nat) (w : World), JAt w lo j cs F → JAll (JSz 1073741824) j → lo ≤ w.heap.size →
  Calls Tryz.prog 12 #[.agg cs.toArray] w fun e w' => e = .returned (.tuple #[]) ∧ Only F w w'
set_option maxHeartbeats 6400000 in
set_option maxRecDepth 100000 in
theorem spoil_step (kd : Int) (bb : Bool) (t : ByteArray) (ks : List ByteArray) (ls : List J) (IH : ∀ x ∈ ls, SpoilIs x) : SpoilIs (.mk kd bb t ks ls) := by
  intro cs F lo w hj hsz hlo
  have hFl := hj.lt
  unfold JAt at hj
  obtain ⟨vk, vl, xs, G, rfl, hk, hl, hjs, hF, hnd⟩ := hj
  obtain ⟨A1, c1, rfl, hA1, hc1⟩ := ownsRow_val hk
  obtain ⟨B1, d1, rfl, hB1, hd1⟩ := ownsRow_val hl
  unfold JAll at hsz
  obtain ⟨⟨hts, hkl, hll, hks⟩, hall⟩ := hsz
  simp only [J.tx, J.ks, J.ls] at hts hkl hll hks
  have hfr : SpF w F G w.heap.size (.slice A1 ks.length c1) (.slice B1 ls.length d1) := spF_of hF hnd hFl (Nat.le_refl _)
  have hs0 : ∀ w1, Row w1 w.heap.size 26 [.int .i8 kd, .bool bb, .string t, .slice A1 ks.length c1, .slice B1 ls.length d1] → w.grownBy w1 none →
      Sp w F G lo w.heap.size (.slice A1 ks.length c1) (.slice B1 ls.length d1) [.int .i8 kd, .bool bb, .string t, .slice A1 ks.length c1, .slice B1 ls.length d1] ks.length ls.length ls 0 w1 := fun w1 hr hg =>
    ⟨hr, only_grown hg (by simp), ⟨_, World.ownsRow.kept hk hg (row_none (w := w) _)⟩, xs, G, World.ownsRow.kept hl hg (row_none (w := w) _), by rw [Nat.zero_mul]; exact hjs.kept hg (by simp), fun g hg => hg⟩
  have IH := Lib.hid IH
  have HFr := Lib.hid hfr
  have HS0 := Lib.hid hs0
  have HAll := Lib.hid hall
  have Hlo := Lib.hid hlo
  clear hk hl hjs hF hnd hall hks hts hA1 hB1 hFl hfr hs0 hlo
  go_enter Tryz.func12, Tryz.ntmps12
  go_upto_region 1 with (refine wpList_box_abs rfl 26 (.tmp 0) rfl [.int .i8 kd, .bool bb, .string t, .slice A1 ks.length c1, .slice B1 ls.length d1] rfl ?_; intro w1 hr1 hg1 hs1; clear hs1; simp only [Act.put, List.setIfInBounds_toArray, List.set_cons_zero, List.set_cons_succ])
  have HS1 := Lib.hid (HS0.out w1 hr1 hg1)
  have Hw1 := Lib.hid hg1.size
  obtain ⟨p, hp⟩ : ∃ x, w.heap.size = x := ⟨_, rfl⟩
  rw [hp] at HS1 HFr ⊢
  have HP := Lib.hid hp
  clear hr1 hg1 hp HS0
  go_wp2_with fail
  go_loopw [2] (fun v wr => ∃ i : Nat, i ≤ ls.length ∧ v = .int .i64 (i : Int) ∧ Hid (Sp w F G lo p (.slice A1 ks.length c1) (.slice B1 ls.length d1) [.int .i8 kd, .bool bb, .string t, .slice A1 ks.length c1, .slice B1 ls.length d1] ks.length ls.length ls i wr)) (fun v _ => ls.length - (intOf v).toNat)
  case atStart => exact ⟨0, by omega, rfl, HS1⟩
  case round =>
    clear HS1
    obtain ⟨i, hi, rfl, HS⟩ := hrel
    have a4 := HS.out.box.at_ (j := 4) rfl
    by_cases hlt : i < ls.length
    · obtain ⟨jv, hjv⟩ : ∃ jv, ls[i]? = some jv := ⟨_, List.getElem?_eq_getElem hlt⟩
      obtain ⟨ys, cs, ds, G1, H1, hys, hcs, hjj, hsub, hnext⟩ := HS.out.call HFr.out hjv
      obtain ⟨q0, q1, q2, q3, q4, rfl⟩ := five_of hjj.five.1
      obtain ⟨gb, rfl⟩ : ∃ gb, B1 = some ⟨gb, 0, none⟩ := by
        rcases hys.2 with ⟨e, h0⟩ | ⟨g, cap, cur, e, _⟩
        · omega
        · simp at e; exact ⟨g, e.1⟩
      have hIH := IH.out jv (List.mem_of_getElem? hjv) [q0, q1, q2, q3, q4] G1 lo wr hjj (HAll.out.get hjv) (Nat.le_trans Hlo.out HS.out.only.size)
      have hx : ∀ k v, [q0, q1, q2, q3, q4][k]? = some v → k < 5 → wr.cell? ⟨gb, i * 5 + k, none⟩ = some v := fun k v hv hk => by
        rw [hys.cellAt _ (by omega), ← List.getElem?_drop, hcs, List.getElem?_append_left (by simpa using hk), hv]
      have x0 : wr.cell? ⟨gb, i * 5, none⟩ = some q0 := hx 0 _ rfl (by omega)
      have x1 : wr.cell? ⟨gb, i * 5 + 1, none⟩ = some q1 := hx 1 _ rfl (by omega)
      have x2 : wr.cell? ⟨gb, i * 5 + 2, none⟩ = some q2 := hx 2 _ rfl (by omega)
      have x3 : wr.cell? ⟨gb, i * 5 + 3, none⟩ = some q3 := hx 3 _ rfl (by omega)
      have x4 : wr.cell? ⟨gb, i * 5 + 4, none⟩ = some q4 := hx 4 _ rfl (by omega)
      have HI := Lib.hid hIH
      have HN := Lib.hid hnext
      have e1 : (i : Int) < (ls.length : Int) := by omega
      clear hIH hnext hx hcs hjj hsub hjv hys
      go_wp2_with (first
        | (have _ := HB5; refine wpList_store_own5 rfl (.tmp 21) (.tmp 20) rfl lo gb ls.length d1 ys HL5.out i (i * 5) hlt rfl rfl nine5 rfl rfl nine5_one ?_; intro w6 hz6 hg6
           have HS6 := Lib.hid (HN5.out w6 gb rfl hg6 hz6); clear hz6 hg6; simp only [Act.put, List.setIfInBounds_toArray, List.set_cons_zero, List.set_cons_succ])
        | (refine HI.out.mono ?_; rintro e w5 ⟨rfl, ho⟩; obtain ⟨hb5, hl5, hn5⟩ := HN.out w5 ho; have a4 := hb5.at_ (j := 4) rfl; have HB5 := Lib.hid hb5; have HL5 := Lib.hid hl5; have HN5 := Lib.hid hn5; clear hb5 hl5 hn5 ho x0 x1 x2 x3 x4))
      go_roundw
      case rel => exact ⟨i + 1, by omega, by go_num, HS6⟩
      case measure => simp [intOf]; omega
    · obtain rfl : i = ls.length := by omega
      have e1 : ¬ (ls.length : Int) < (ls.length : Int) := by omega
      clear hlt hi
      go_wp2_with fail
      clear a4
      go_loopw [3] (fun v wr => ∃ i : Nat, i ≤ ks.length ∧ v = .int .i64 (i : Int) ∧ Hid (Sp w F G lo p (.slice A1 ks.length c1) (.slice B1 ls.length d1) [.int .i8 kd, .bool bb, .string t, .slice A1 ks.length c1, .slice B1 ls.length d1] ks.length ls.length ls ls.length wr)) (fun v _ => ks.length - (intOf v).toNat)
      case atStart => exact ⟨0, by omega, rfl, HS⟩
      case round =>
        clear HS
        obtain ⟨i, hi, rfl, HS⟩ := hrel
        have a3 := HS.out.box.at_ (j := 3) rfl
        by_cases hlt : i < ks.length
        · obtain ⟨xs, hxs⟩ := HS.out.keys
          obtain ⟨gb, rfl⟩ : ∃ gb, A1 = some ⟨gb, 0, none⟩ := by
            rcases hxs.2 with ⟨e, h0⟩ | ⟨g, cap, cur, e, _⟩
            · omega
            · simp at e; exact ⟨g, e.1⟩
          have x0 : wr.cell? ⟨gb, i, none⟩ = some (xs[i]'(by have := hxs.1; omega)) := by rw [hxs.cellAt _ (by omega), List.getElem?_eq_getElem]
          have f0 := hxs.frozenAt i
          obtain ⟨z, hz⟩ : ∃ z, xs[i]'(by have := hxs.1; omega) = z := ⟨_, rfl⟩
          rw [hz] at x0
          have HX := Lib.hid (hxs.stored i (.string ⟨#[33]⟩))
          have e1 : (i : Int) < (ks.length : Int) := by omega
          clear hxs hz
          go_wp2_with fail
          have HS6 := Lib.hid (HS.out.key HFr.out rfl HX.out.2 ⟨_, HX.out.1⟩)
          go_roundw
          case rel => exact ⟨i + 1, by omega, by go_num, HS6⟩
          case measure => simp [intOf]; omega
        · have e1 : ¬ (i : Int) < (ks.length : Int) := by omega
          clear hlt hi
          obtain ⟨xs, hxs⟩ := HS.out.keys
          have HXs := Lib.hid hxs
          have hlo9 : lo ≤ wr.heap.size := Nat.le_trans Hlo.out HS.out.only.size
          clear hxs
          go_wp2_with (first
            | (have _ := w7
               refine wpList_append29n rfl (.tmp 39) (.tmp 43) rfl lo (.slice B1 ls.length d1) ls.length ys7 rfl (HL7.out _ _) w7.heap.size 3 nine15 rfl (row_new_at (by simp) nine15 26) rfl nine15_one (by omega) hll (by simp; omega) ?_
               intro v8 w8 ho8 hg8
               obtain ⟨A8, c8, rfl, _, _⟩ := ownsRow_val ho8
               obtain ⟨hb8, hO8⟩ := app2 HFr.out HB7.out HO7.out hg8
               have HB8 := Lib.hid hb8; have HO8 := Lib.hid hO8
               have b8 := hb8.at_ (j := 4) rfl; have f8 := hb8.frozen 4
               clear ho8 hg8 hb8 hO8; simp only [Act.put, List.setIfInBounds_toArray, List.set_cons_zero, List.set_cons_succ])
            | (refine wpList_append9n rfl (.tmp 34) (.tmp 35) rfl lo (.slice A1 ks.length c1) ks.length xs rfl (HXs.out.alloc _) wr.heap.size 3 [.string ⟨#[33]⟩, .string ⟨#[33]⟩, .string ⟨#[33]⟩] rfl (Row.new wr _ 9) rfl (by intro u hu; simp at hu; subst hu; rfl) (by omega) hkl (by simp; omega) ?_
               intro v7 w7 ho7 hg7
               obtain ⟨A7, c7, rfl, _, _⟩ := ownsRow_val ho7
               obtain ⟨hb7, hO7, ys7, hl7⟩ := HS.out.app HFr.out (World.grownBy_alloc wr _ none) hg7
               have HB7 := Lib.hid hb7; have HO7 := Lib.hid hO7; have HL7 : Hid (∀ u o, ((w7.setCell ⟨p, 3, none⟩ u).alloc o).ownsRow lo 26 5 (.slice B1 ls.length d1) ls.length ys7) := Lib.hid (fun u o => (ownsRow_setCell_other hl7 (fun e => by have := HFr.out.lt p (HFr.out.l p e).1; have := HFr.out.p; omega) u).alloc o)
               have hs7 : lo ≤ w7.heap.size := Nat.le_trans Hlo.out hO7.size
               have b3 := hb7.at_ (j := 3) rfl; have b4 := hb7.at_ (j := 4) rfl; have f3 := hb7.frozen 3; have f4 := hb7.frozen 4
               clear ho7 hg7 hb7 hO7 hl7; simp only [Act.put, List.setIfInBounds_toArray, List.set_cons_zero, List.set_cons_succ]))
          go_end0
          exact ⟨rfl, HO8.out.then (grown_set (grown_refl w8 (some p)) (.inl rfl) 4 _) (fun g e => .inr (by have := HP.out; have := Option.some.inj e; omega))⟩
mutual
theorem spoil_any : ∀ j : J, SpoilIs j
  | .mk kd b t ks ls => spoil_step kd b t ks ls (spoils_any ls)
theorem spoils_any : ∀ ls : List J, ∀ x ∈ ls, SpoilIs x
  | [], x, h => absurd h (by simp)
  | j :: js, x, h => by
    rcases List.mem_cons.1 h with e | e
    · rw [e]; exact spoil_any j
    · exact spoils_any js x e
end
end Go.Proofs.YtlbilofnbhhmjaaGreatDoor
