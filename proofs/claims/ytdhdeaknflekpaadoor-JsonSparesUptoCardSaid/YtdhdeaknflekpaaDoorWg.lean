/- json's parser: what a backslash begins. -/
import Derived.Test.YtdhdeaknflekpaaDoorWf
import Derived.WalkSmall
set_option linter.unusedSimpArgs false
set_option linter.unusedVariables false
namespace Go.Proofs.YtdhdeaknflekpaaDoor
open Go.RowKit

/-- the table of what stands behind a backslash, in the world in which the parser was made -/
structure Base (pb : Nat) (w : World) : Prop where
  says : ∀ c : UInt8, w.cell? ⟨3, c.toNat, none⟩ = some (.int .u8 (TJ.says c).toNat)
  ne : pb ≠ 3
theorem But.cell {pb : Nat} {w w' : World} (h : But pb w w') {p : Addr} {v : Value} (hc : w.cell? p = some v) (hp : p.block ≠ pb) : w'.cell? p = some v := by
  have hlt := World.block_lt_of_cell? w p hc
  unfold World.cell? at hc ⊢
  rw [h.block p.block hlt hp]
  exact hc
theorem At.says {pb : Nat} {s : ByteArray} {out : Value} {d c : Int} {w w1 : World} {rest : List UInt8} (h : At pb s out d c w rest w1) (hb : Base pb w) (x : UInt8) : w1.cell? ⟨3, x.toNat, none⟩ = some (.int .u8 (TJ.says x).toNat) := by
  obtain ⟨-, -, -, -, hB⟩ := h
  exact hB.cell (hb.says x) (fun e => hb.ne e.symm)
theorem But.below {pb : Nat} {w w1 w2 : World} (h : But pb w w1) (hb : Below w.heap.size w1 w2) : But pb w w2 :=
  ⟨hb.os.trans h.os, hb.tape.trans h.tape, hb.output.trans h.output, Nat.le_trans h.size hb.size, fun k hk hp => (hb.block k hk).trans (h.block k hk hp)⟩
theorem Par.below {w w' : World} {pb : Nat} {s : ByteArray} {at_ : Nat} {out : Value} {d c : Int} (h : Par w pb s at_ out d c) {B : Nat} (hb : Below B w w') (hB : pb < B) : Par w' pb s at_ out d c := by
  unfold Par at *
  rw [hb.block pb hB]
  exact h
theorem At.below {pb : Nat} {s : ByteArray} {out : Value} {d c : Int} {w w1 w2 : World} {rest : List UInt8} (h : At pb s out d c w rest w1) (hpb : pb < w.heap.size) (hb : Below w.heap.size w1 w2) : At pb s out d c w rest w2 := by
  obtain ⟨k, h1, h2, h3, h4⟩ := h
  exact ⟨k, h1, h2, h3.below hb hpb, h4.below hb⟩
theorem At.trans {pb : Nat} {s : ByteArray} {out : Value} {d c : Int} {w w1 w2 : World} {l1 l2 : List UInt8} (h : At pb s out d c w l1 w1) (k : At pb s out d c w1 l2 w2) : At pb s out d c w l2 w2 := by
  obtain ⟨-, -, -, -, h4⟩ := h
  obtain ⟨k, h1, h2, h3, h5⟩ := k
  exact ⟨k, h1, h2, h3, h4.trans h5⟩
theorem At.here {pb : Nat} {s : ByteArray} {out : Value} {d c : Int} {w w1 : World} {l1 : List UInt8} (h : At pb s out d c w l1 w1) : At pb s out d c w1 l1 w1 := by
  obtain ⟨k, h1, h2, h3, -⟩ := h
  exact ⟨k, h1, h2, h3, But.refl _ _⟩
theorem At.but {pb : Nat} {s : ByteArray} {out : Value} {d c : Int} {w w1 : World} {l1 : List UInt8} (h : At pb s out d c w l1 w1) : But pb w w1 := by
  obtain ⟨k, h1, h2, h3, h4⟩ := h
  exact h4
/-- a row of the call's own, while the parser goes on -/
theorem own_but {w w1 : World} {base pb : Nat} {e : TypeId} {size n : Nat} {v : Value} {xs : List Value} (h : w.ownsRow base e size v n xs) (hb : But pb w w1) (hp : pb < base) : w1.ownsRow base e size v n xs := by
  obtain ⟨h1, h2⟩ := h
  refine ⟨h1, ?_⟩
  rcases h2 with h2 | ⟨g, cap, cur, hv, hg, hh, r⟩
  · exact .inl h2
  · exact .inr ⟨g, cap, cur, hv, hg, by rw [hb.block g (Array.getElem?_eq_some_iff.1 hh).1 (by omega)]; exact hh, r⟩
theorem info5 : (Tryd.prog.info? 5).map (fun i => (i.zero, i.size, i.bytes)) = some (some (.int .u8 0), 1, 1) := by kernel_rfl
/-- what 'escape' and 'char' leave: the row longer by what was read -/
def Got (pb : Nat) (s : ByteArray) (out : Value) (d c : Int) (w : World) (acc : List UInt8) (r : Option (List UInt8) × List UInt8) (e : Ending) (w' : World) : Prop :=
  ∃ v', e = .returned (.tuple #[v', .bool r.1.isSome]) ∧ At pb s out d c w r.2 w' ∧ ∀ b, r.1 = some b → w'.ownsRow w.heap.size 5 1 v' (acc.length + b.length) (bvals (acc ++ b))
theorem Got.no {pb : Nat} {s : ByteArray} {out : Value} {d c : Int} {w : World} {acc : List UInt8} {r : Option (List UInt8) × List UInt8} {l : List UInt8} {v : Value} {w' : World} (hr : r = (none, l)) (hA : At pb s out d c w l w') :
    Got pb s out d c w acc r (.returned (.tuple #[v, .bool false])) w' := by
  subst hr
  exact ⟨v, rfl, hA, fun _ h => by cases h⟩
theorem Got.yes {pb : Nat} {s : ByteArray} {out : Value} {d c : Int} {w : World} {acc b : List UInt8} {r : Option (List UInt8) × List UInt8} {l : List UInt8} {v : Value} {w' : World} (hr : r = (some b, l)) (hA : At pb s out d c w l w') {n : Nat} {xs : List Value}
    (hn : n = acc.length + b.length) (hx : xs = bvals (acc ++ b)) (hO : w'.ownsRow w.heap.size 5 1 v n xs) : Got pb s out d c w acc r (.returned (.tuple #[v, .bool true])) w' := by
  subst hr hn hx
  exact ⟨v, rfl, hA, fun _ h => by cases h; exact hO⟩
theorem says_lt (c : UInt8) : 0 ≤ ((TJ.says c).toNat : Int) ∧ ((TJ.says c).toNat : Int) ≤ 255 := by
  have := (TJ.says c).toNat_lt
  omega
theorem wrap_u8 (x : Int) (h0 : 0 ≤ x) (h1 : x ≤ 255) : IntKind.u8.wrap x = x := by
  rw [IntKind.wrap_u8]; omega
set_option maxRecDepth 100000 in
set_option maxHeartbeats 4000000 in
theorem escape_says {pb : Nat} {s : ByteArray} {out : Value} {d c : Int} {w w0 : World} {b : UInt8} {l0 acc : List UInt8} {v : Value} (hb : Base pb w) (hA : At pb s out d c w (b :: l0) w0) (hs : s.size ≤ 140737488355328)
    (hO : w0.ownsRow w.heap.size 5 1 v acc.length (bvals acc)) (hpb : pb < w.heap.size) (hacc : acc.length ≤ 1073741824) (hsay : TJ.says b ≠ 0) :
    Calls Tryd.prog 43 #[.pointer (some ⟨pb, 0, none⟩), v] w0 (Got pb s out d c w acc (TJ.escape (b :: l0))) := by
  obtain ⟨r, hr⟩ : ∃ r, r = TJ.escape (b :: l0) := ⟨_, rfl⟩
  rw [← hr]
  rw [TJ.escape, if_pos hsay] at hr
  have HR := Lib.hid hr
  have hx0 := hA.says hb b
  obtain ⟨hp1, hp2, hP, hB⟩ := hA.place
  obtain ⟨hk, hkb, hp3⟩ := drop_get hp2
  have HA := Lib.hid hA
  have HO := Lib.hid hO
  obtain ⟨k, hk0⟩ : ∃ k, k = s.size - (b :: l0).length := ⟨_, rfl⟩
  rw [← hk0] at hP hp3
  have hkk : k < s.size := by omega
  have hkb1 : s[k]'hkk = b := by
    simp only [hk0]
    exact hkb
  obtain ⟨x, hx⟩ : ∃ x : Int, x = ((TJ.says b).toNat : Int) := ⟨_, rfl⟩
  rw [← hx] at hx0
  rw [← hkb1] at hx0
  obtain ⟨c0, c1, -, -, -, -⟩ := hP.cells
  have hlt : decide ((k : Int) < (s.size : Int)) = true := by simp; omega
  have hne : (x != 0) = true := by
    rw [bne_iff_ne, hx]
    intro h
    apply hsay
    apply UInt8.toNat_inj.1
    simpa using h
  have z0 : (0 : Int) ≤ ((s[k]'hkk).toNat : Int) := by omega
  have z1 : ((s[k]'hkk).toNat : Int) < 256 := by have := (s[k]'hkk).toNat_lt; omega
  have HX := Lib.hid hx
  have HB1 := Lib.hid hkb1
  have HP := Lib.hid hP
  have HP3 := Lib.hid hp3
  have hnx : pb ≠ 3 := hb.ne
  have hsz : w.heap.size ≤ w0.heap.size := hB.size
  clear hp1 hp2 hk hkb hP hB hA hk0 hr hsay hkb1 hp3 hO hb hx
  go_enter Tryd.func43, Tryd.ntmps43
  go_wp2_with fail
  go_quiet (fail)
  obtain ⟨-, -, -, -, -, fz⟩ := (HP.out.draws nq).cells
  have f1 := fz ⟨pb, 1, none⟩ rfl
  clear fz
  have HP2 := Lib.hid ((HP.out.draws nq).set1 (k + 1) ((k : Int) + 1) (by simp))
  have HO2 := Lib.hid (own_but HO.out (((But.refl pb w0).draws nq).set 1 (.int .i64 ((k : Int) + 1))) hpb)
  have HB2 := Lib.hid ((HA.out.but.draws nq).set 1 (.int .i64 ((k : Int) + 1)))
  have hx2 := (((But.refl pb w0).draws nq).set 1 (.int .i64 ((k : Int) + 1))).cell hx0 (Ne.symm hnx)
  go_wp2_with fail
  clear hne hlt
  generalize (w0.drewN nq).setCell ⟨pb, 1, none⟩ (.int .i64 ((k : Int) + 1)) = W2 at *
  obtain ⟨d0, d1, -, -, -, -⟩ := HP2.out.cells
  have hz2 : w.heap.size ≤ W2.heap.size := HB2.out.size
  have y0 : (0 : Int) ≤ (k : Int) := by omega
  have y1 : (k : Int) < (s.size : Int) := by omega
  have hk1 : IntKind.i64.wrap (k : Int) = (k : Int) := IntWalk.i64_in _ (by omega)
  clear hx0 c0 c1 f1
  go_region_law (go_must (
    refine step_append_many (w0 := W2) w.heap.size rfl (.tmp 41) (.tmp 54) 46 5 (.int .u8 0) 1 1 rfl Tryd.underlying46 info5 rfl (by decide) (by decide) v acc.length 1 W2.heap.size _ _ rfl rfl rfl (bvals_one _) (heap_alloc_new W2 _) (HO2.out.alloc _) ((Below.refl _ _).alloc hz2 _).drew ?_ ?_ ?_
    · simp; omega
    · omega
    intro v1 w2 HO3 HB3 _ _))
  all_goals
    go_wp2_with fail
    go_ret2
    exact Got.yes HR.out (At.below ⟨k + 1, hkk, HP3.out, HP2.out, HB2.out⟩ hpb HB3) (n := acc.length + 1) rfl (by rw [HX.out]; simp [bvals]) HO3

/-- the bytes of a code point, as values -/
theorem byte_val (n : Int) (h0 : 0 ≤ n) (h1 : n ≤ 255) : Value.int .u8 n = .int .u8 ((UInt8.ofNat n.toNat).toNat : Int) := by
  have : (UInt8.ofNat n.toNat).toNat = n.toNat := by simp; omega
  rw [this]
  congr 1
  omega
theorem runeCells_eq (n : Int) (h0 : 0 ≤ n) (h1 : n ≤ 1114111) (h2 : n < 55296 ∨ 57343 < n) : Lib.runeCells n = bvals (TJ.rune n) := by
  unfold Lib.runeCells TJ.rune
  dsimp only
  by_cases a : n < 128
  · rw [Lib.encodeRuneZ_one h0 (by omega), if_pos a]
    simp only [bvals, List.map_cons, List.map_nil]
    rw [← byte_val _ (by omega) (by omega)]
  rw [if_neg a]
  by_cases b : n < 2048
  · rw [Lib.encodeRuneZ_two (by omega) (by omega), if_pos b]
    simp only [bvals, List.map_cons, List.map_nil]
    rw [← byte_val _ (by omega) (by omega), ← byte_val _ (by omega) (by omega)]
  rw [if_neg b]
  by_cases c : n < 65536
  · rw [Lib.encodeRuneZ_three (by omega), if_pos c]
    simp only [bvals, List.map_cons, List.map_nil]
    rw [← byte_val _ (by omega) (by omega), ← byte_val _ (by omega) (by omega), ← byte_val _ (by omega) (by omega)]
  rw [if_neg c, Lib.encodeRuneZ_four (by omega) (by omega)]
  simp only [bvals, List.map_cons, List.map_nil]
  rw [← byte_val _ (by omega) (by omega), ← byte_val _ (by omega) (by omega), ← byte_val _ (by omega) (by omega), ← byte_val _ (by omega) (by omega)]
theorem hexes_step {s : List UInt8} {ss : List (List UInt8)} {m n : Int} {l l' : List UInt8} (h : TJ.hexes (s :: ss) m l = (some n, l')) : ∃ c r, c ∈ s ∧ l = c :: r ∧ TJ.hexes ss (16 * m + TJ.hexOf c) r = (some n, l') := by
  cases l with
  | nil => cases h
  | cons c r =>
    rw [TJ.hexes] at h
    split at h
    · exact ⟨c, r, by simpa using ‹s.contains c = true›, rfl, h⟩
    · cases h
theorem four_ok {low : Bool} {l l' : List UInt8} {n : Int} (h : TJ.four low l = (some n, l')) : 0 ≤ n ∧ n ≤ 65535 ∧ (low = true → 56320 ≤ n ∧ n ≤ 57343) ∧ (low = false → n < 56320 ∨ 57343 < n) := by
  unfold TJ.four at h
  have hH := Hex.hex.2
  have key : ∀ {s0 s1 : List UInt8} {l : List UInt8}, TJ.hexes [s0, s1, TJ.sHex, TJ.sHex] 0 l = (some n, l') → ∃ c0 c1 d2 d3, c0 ∈ s0 ∧ (∃ q, l = c0 :: q) ∧ c1 ∈ s1 ∧ 0 ≤ d2 ∧ d2 ≤ 15 ∧ 0 ≤ d3 ∧ d3 ≤ 15 ∧ n = 16 * (16 * (16 * (16 * 0 + TJ.hexOf c0) + TJ.hexOf c1) + d2) + d3 := by
    intro s0 s1 l h
    obtain ⟨c0, r0, m0, hq, h⟩ := hexes_step h
    obtain ⟨c1, r1, m1, -, h⟩ := hexes_step h
    obtain ⟨c2, r2, m2, -, h⟩ := hexes_step h
    obtain ⟨c3, r3, m3, -, h⟩ := hexes_step h
    cases h
    exact ⟨c0, c1, _, _, m0, ⟨_, hq⟩, m1, (hH c2 m2).1, (hH c2 m2).2, (hH c3 m3).1, (hH c3 m3).2, rfl⟩
  have hd : ∀ c ∈ ([100, 68] : List UInt8), TJ.hexOf c = 13 := by decide
  have hlo : ∀ c ∈ TJ.sLow, 12 ≤ TJ.hexOf c ∧ TJ.hexOf c ≤ 15 := by decide
  have hhi : ∀ c ∈ TJ.sHigh, 0 ≤ TJ.hexOf c ∧ TJ.hexOf c ≤ 11 := by decide
  have hne : ∀ c ∈ TJ.sHex, c ∉ ([100, 68] : List UInt8) → TJ.hexOf c ≠ 13 := by decide
  split at h
  · rename_i hl
    obtain ⟨c0, c1, d2, d3, m0, ⟨q, hq⟩, m1, a, b, c, d, e⟩ := key h
    have := hd c0 m0
    have := hlo c1 m1
    exact ⟨by omega, by omega, fun _ => by omega, fun q => by rw [hl] at q; cases q⟩
  · rename_i hl
    split at h
    · obtain ⟨c0, c1, d2, d3, m0, ⟨q, hq⟩, m1, a, b, c, d, e⟩ := key h
      have := hH c0 m0
      have := hhi c1 m1
      have h13 := hd c0 (by
        have hh := ‹TJ.has [100, 68] _ = true›
        rw [hq] at hh
        simpa [TJ.has] using hh)
      exact ⟨by omega, by omega, fun q => absurd q hl, fun _ => by omega⟩
    · obtain ⟨c0, c1, d2, d3, m0, ⟨q, hq⟩, m1, a, b, c, d, e⟩ := key h
      have := hH c0 m0
      have := hH c1 m1
      have h13 := hne c0 m0 (by
        intro hc
        apply ‹¬ TJ.has [100, 68] _ = true›
        rw [hq]
        simpa [TJ.has] using hc)
      exact ⟨by omega, by omega, fun q => absurd q hl, fun _ => by omega⟩
/-- behind AppendRune -/
theorem rune_end {pb : Nat} {s : ByteArray} {out : Value} {d c : Int} {w w0 w5 w6 : World} {l0 l5 acc b : List UInt8} {v v' : Value} {r : Option (List UInt8) × List UInt8} {o : Obj} (hr : r = (some b, l5)) (hA : At pb s out d c w l0 w0) (hA5 : At pb s out d c w0 l5 w5) (hpb : pb < w.heap.size)
    (hO : w0.ownsRow w.heap.size 5 1 v acc.length (bvals acc)) (hO6 : w6.ownsRow w.heap.size 5 1 v' (acc.length + (bvals b).length) (bvals acc ++ bvals b)) (hg : (w5.alloc o).grownBy w6 v.ownBlock) : Got pb s out d c w acc r (.returned (.tuple #[v', .bool true])) w6 := by
  have hz5 : w.heap.size ≤ w5.heap.size := Nat.le_trans hA.but.size hA5.but.size
  have hb : Below w.heap.size w5 w6 := ((Below.refl _ _).alloc hz5 o).grown hg (by simp; omega) (fun k hk => (hO.lt k hk).1)
  exact Got.yes hr ((hA.trans hA5).below hpb hb) (by rw [bvals_length]) (by simp [bvals]) hO6
theorem escape_rest {l0 : List UInt8} (h : ∀ b r, l0 = b :: r → TJ.says b = 0) : TJ.escape l0 = match TJ.take [117] l0 with
    | (false, l) => (none, l)
    | (true, l) => match TJ.four false l with
      | (none, l) => (none, l)
      | (some n, l) =>
        if 55296 ≤ n ∧ n ≤ 56319 then match TJ.take [92] l with
          | (false, l) => (none, l)
          | (true, l) => match TJ.take [117] l with
            | (false, l) => (none, l)
            | (true, l) => match TJ.four true l with
              | (none, l) => (none, l)
              | (some m, l) => (some (TJ.rune (65536 + (n - 55296) * 1024 + (m - 56320))), l)
        else (some (TJ.rune n), l) := by
  cases l0 with
  | nil => rfl
  | cons b r =>
    have h1 := h b r rfl
    rw [TJ.escape, if_neg (by simp [h1])]
    by_cases h2 : b = 117
    · subst h2
      rw [if_pos rfl]
      show _ = match TJ.four false r with
        | (none, l) => _
        | (some n, l) => _
      generalize TJ.four false r = q
      obtain ⟨o, l⟩ := q
      cases o with
      | none => rfl
      | some n =>
        dsimp only
        split
        · unfold TJ.take
          by_cases h3 : TJ.has [92] l = true
          · rw [if_pos h3, if_pos h3]
            dsimp only
            by_cases h4 : TJ.has [117] l.tail = true
            · rw [if_pos h4, if_pos h4]
              dsimp only
              generalize TJ.four true l.tail.tail = q
              obtain ⟨o, l⟩ := q
              cases o <;> rfl
            · rw [if_neg h4, if_neg h4]
          · rw [if_neg h3, if_neg h3]
        · rfl
    · rw [if_neg h2]
      have h3 : TJ.has [117] (b :: r) = false := by
        simp [TJ.has]
        exact h2
      unfold TJ.take
      rw [if_neg (by simp [h3])]
set_option maxRecDepth 100000 in
set_option maxHeartbeats 4000000 in
theorem escape_else {pb : Nat} {s : ByteArray} {out : Value} {d c : Int} {w w0 : World} {l0 acc : List UInt8} {v : Value} (hb : Base pb w) (hA : At pb s out d c w l0 w0) (hs : s.size ≤ 140737488355328)
    (hO : w0.ownsRow w.heap.size 5 1 v acc.length (bvals acc)) (hpb : pb < w.heap.size) (hacc : acc.length ≤ 1073741824) (hsay : ∀ b r, l0 = b :: r → TJ.says b = 0) :
    Calls Tryd.prog 43 #[.pointer (some ⟨pb, 0, none⟩), v] w0 (Got pb s out d c w acc (TJ.escape l0)) := by
  obtain ⟨r, hr⟩ : ∃ r, r = TJ.escape l0 := ⟨_, rfl⟩
  rw [← hr]
  have HR := Lib.hid hr
  have HA := Lib.hid hA
  have HO := Lib.hid hO
  go_enter Tryd.func43, Tryd.ntmps43
  go_wp2_with fail
  go_upto_if 33 with fail
  go_cut [33] (fun s33 wx => s33 = .bool false ∧ ∃ n, wx = w0.drewN n)
  case first =>
    clear HR hr hO
    cases l0 with
    | nil =>
      obtain ⟨hp1, hp2, hP, hB⟩ := hA.place
      simp only [List.length_nil, Nat.sub_zero] at hP
      obtain ⟨c0, c1, -, -, -, -⟩ := hP.cells
      have hlt : decide ((s.size : Int) < (s.size : Int)) = false := by simp
      clear hp2 hP hA hb HA HO hsay
      go_quiet (fail)
      go_wp2_with fail
      go_meet
      exact ⟨rfl, _, rfl⟩
    | cons b l0 =>
      have hx0 := hA.says hb b
      rw [hsay b l0 rfl] at hx0
      obtain ⟨hp1, hp2, hP, hB⟩ := hA.place
      obtain ⟨hk, hkb, hp3⟩ := drop_get hp2
      obtain ⟨k, hk0⟩ : ∃ k, k = s.size - (b :: l0).length := ⟨_, rfl⟩
      rw [← hk0] at hP
      have hkk : k < s.size := by omega
      have hkb1 : s[k]'hkk = b := by
        simp only [hk0]
        exact hkb
      rw [← hkb1] at hx0
      have z0 : (0 : Int) ≤ ((s[k]'hkk).toNat : Int) := by omega
      have z1 : ((s[k]'hkk).toNat : Int) < 256 := by have := (s[k]'hkk).toNat_lt; omega
      obtain ⟨c0, c1, -, -, -, -⟩ := hP.cells
      have hlt : decide ((k : Int) < (s.size : Int)) = true := by simp; omega
      clear hp1 hp2 hp3 hk hkb hkb1 hk0 hP hA hb HA HO hsay hB
      go_quiet (fail)
      go_wp2_with fail
      go_meet
      exact ⟨rfl, _, rfl⟩
  case rest =>
    obtain ⟨rfl, n, rfl⟩ := hcut
    have hr2 := hr.trans (escape_rest hsay)
    have ht := Lib.hid (take_at ⟨#[117]⟩ [117] rfl (hA.here.draws n) hs)
    clear HR hr hsay hO hA
    generalize TJ.take [117] l0 = q at *
    obtain ⟨b, l1⟩ := q
    cases b with
    | false =>
      have HR := Lib.hid hr2
      clear hr2
      go_wp2_with fail
      refine ht.out.mono ?_
      rintro e w1 ⟨rfl, hA1⟩
      have HA1 := Lib.hid hA1
      clear hA1 ht
      go_wp2_with fail
      go_ret2
      exact Got.no HR.out (HA.out.trans HA1.out)
    | true =>
      dsimp only at hr2
      have HR2 := Lib.hid hr2
      clear hr2
      go_wp2_with fail
      refine ht.out.mono ?_
      rintro e w1 ⟨rfl, hA1⟩
      have hr2 := HR2.out
      clear HR2
      have hf := Lib.hid (four_high hA1 hs)
      have hok := fun (x : Int) (l' : List UInt8) (e : TJ.four false l1 = (some x, l')) => four_ok e
      clear hA1 ht
      generalize TJ.four false l1 = q at *
      obtain ⟨o, l2⟩ := q
      cases o with
      | none =>
        have HR := Lib.hid hr2
        clear hr2 hok
        go_wp2_with fail
        refine hf.out.mono ?_
        rintro e w2 ⟨he, hA2⟩
        obtain rfl : e = .returned (.tuple #[.int .i32 0, .bool false]) := he
        have HA2 := Lib.hid hA2
        clear hA2 hf
        go_wp2_with fail
        go_ret2
        exact Got.no HR.out (HA.out.trans HA2.out)
      | some x =>
        obtain ⟨x0, x1, -, x2⟩ := hok x l2 rfl
        have x3 := x2 rfl
        clear hok x2
        dsimp only at hr2
        have HR2 := Lib.hid hr2
        clear hr2
        go_wp2_with fail
        refine hf.out.mono ?_
        rintro e w2 ⟨he, hA2⟩
        obtain rfl : e = .returned (.tuple #[.int .i32 x, .bool true]) := he
        have hr2 := HR2.out
        clear HR2
        by_cases hsur : 55296 ≤ x ∧ x ≤ 56319
        · rw [if_pos hsur] at hr2
          obtain ⟨s0, s1⟩ := hsur
          have ht := Lib.hid (take_at ⟨#[92]⟩ [92] rfl hA2 hs)
          clear hA2 hf
          generalize TJ.take [92] l2 = q at *
          obtain ⟨b, l3⟩ := q
          cases b with
          | false =>
            have HR := Lib.hid hr2
            clear hr2
            go_wp2_with fail
            refine ht.out.mono ?_
            rintro e w1 ⟨rfl, hA1⟩
            have HA1 := Lib.hid hA1
            clear hA1 ht
            go_wp2_with fail
            go_ret2
            exact Got.no HR.out (HA.out.trans HA1.out)
          | true =>
            dsimp only at hr2
            have HR2 := Lib.hid hr2
            clear hr2
            go_wp2_with fail
            refine ht.out.mono ?_
            rintro e w3 ⟨rfl, hA3⟩
            have hr2 := HR2.out
            clear HR2
            have ht := Lib.hid (take_at ⟨#[117]⟩ [117] rfl hA3 hs)
            clear hA3
            generalize TJ.take [117] l3 = q at *
            obtain ⟨b, l4⟩ := q
            cases b with
            | false =>
              have HR := Lib.hid hr2
              clear hr2
              go_wp2_with fail
              refine ht.out.mono ?_
              rintro e w1 ⟨rfl, hA1⟩
              have HA1 := Lib.hid hA1
              clear hA1 ht
              go_wp2_with fail
              go_ret2
              exact Got.no HR.out (HA.out.trans HA1.out)
            | true =>
              dsimp only at hr2
              have HR2 := Lib.hid hr2
              clear hr2
              go_wp2_with fail
              refine ht.out.mono ?_
              rintro e w4 ⟨rfl, hA4⟩
              have hr2 := HR2.out
              clear HR2
              have hf := Lib.hid (four_low hA4 hs)
              have hok := fun (x : Int) (l' : List UInt8) (e : TJ.four true l4 = (some x, l')) => four_ok e
              clear hA4 ht
              generalize TJ.four true l4 = q at *
              obtain ⟨o, l5⟩ := q
              cases o with
              | none =>
                have HR := Lib.hid hr2
                clear hr2 hok
                go_wp2_with fail
                refine hf.out.mono ?_
                rintro e w2 ⟨he, hA2⟩
                obtain rfl : e = .returned (.tuple #[.int .i32 0, .bool false]) := he
                have HA2 := Lib.hid hA2
                clear hA2 hf
                go_wp2_with fail
                go_ret2
                exact Got.no HR.out (HA.out.trans HA2.out)
              | some y =>
                obtain ⟨y0, y1, y2, -⟩ := hok y l5 rfl
                have y3 := y2 rfl
                obtain ⟨y4, y5⟩ := y3
                clear hok y2
                dsimp only at hr2
                have HR := Lib.hid hr2
                clear hr2 x3
                go_wp2_with fail
                refine hf.out.mono ?_
                rintro e w5 ⟨he, hA5⟩
                obtain rfl : e = .returned (.tuple #[.int .i32 y, .bool true]) := he
                have HA5 := Lib.hid hA5
                have hO5 := own_but HO.out HA5.out.but hpb
                have hz5 : w.heap.size ≤ w5.heap.size := Nat.le_trans HA.out.but.size HA5.out.but.size
                clear hA5 hf
                have hrc := runeCells_eq (65536 + (x - 55296) * 1024 + (y - 56320)) (by omega) (by omega) (by omega)
                have hau := Lib.hid (Tryd.utf8_AppendRune_plain w.heap.size v acc.length (bvals acc) (65536 + (x - 55296) * 1024 + (y - 56320)) (by omega) (by omega) w5 hO5 (by omega) hz5)
                rw [hrc] at hau
                clear hrc
                go_wp2_with fail
                refine hau.out.mono ?_
                rintro e w6 ⟨v', rfl, hO6, o, hg⟩
                go_wp2_with fail
                go_ret2
                exact rune_end HR.out HA.out HA5.out hpb HO.out hO6 hg
        · rw [if_neg hsur] at hr2
          have HR := Lib.hid hr2
          have HA5 := Lib.hid hA2
          have hO5 := own_but HO.out HA5.out.but hpb
          have hz5 : w.heap.size ≤ w2.heap.size := Nat.le_trans HA.out.but.size HA5.out.but.size
          have hrc := runeCells_eq x x0 (by omega) (by omega)
          have hau := Lib.hid (Tryd.utf8_AppendRune_plain w.heap.size v acc.length (bvals acc) x (by omega) (by omega) w2 hO5 (by omega) hz5)
          rw [hrc] at hau
          clear hr2 hf hA2 hrc
          by_cases hge : 55296 ≤ x
          · have hgt : 56319 < x := by omega
            clear hsur x3
            go_wp2_with fail
            refine hau.out.mono ?_
            rintro e w6 ⟨v', rfl, hO6, o, hg⟩
            go_wp2_with fail
            go_ret2
            exact rune_end HR.out HA.out HA5.out hpb HO.out hO6 hg
          · have hgt : x < 55296 := by omega
            clear hsur x3
            go_wp2_with fail
            refine hau.out.mono ?_
            rintro e w6 ⟨v', rfl, hO6, o, hg⟩
            go_wp2_with fail
            go_ret2
            exact rune_end HR.out HA.out HA5.out hpb HO.out hO6 hg
theorem escape_at {pb : Nat} {s : ByteArray} {out : Value} {d c : Int} {w w0 : World} {l0 acc : List UInt8} {v : Value} (hb : Base pb w) (hA : At pb s out d c w l0 w0) (hs : s.size ≤ 140737488355328)
    (hO : w0.ownsRow w.heap.size 5 1 v acc.length (bvals acc)) (hpb : pb < w.heap.size) (hacc : acc.length ≤ 1073741824) :
    Calls Tryd.prog 43 #[.pointer (some ⟨pb, 0, none⟩), v] w0 (Got pb s out d c w acc (TJ.escape l0)) := by
  cases l0 with
  | nil => exact escape_else hb hA hs hO hpb hacc (fun b r h => by cases h)
  | cons b r =>
    by_cases h : TJ.says b = 0
    · exact escape_else hb hA hs hO hpb hacc (fun b' r' e => by cases e; exact h)
    · exact escape_says hb hA hs hO hpb hacc h
end Go.Proofs.YtdhdeaknflekpaaDoor
