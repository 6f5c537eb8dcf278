/- json.Int: of a shaped value's number whose text is a whole number's digits. -/
import Derived.Test.YtdhdeaknflekpaaDoorWw
set_option linter.unusedSimpArgs false
set_option linter.unusedVariables false
namespace Go.Proofs.YtdhdeaknflekpaaDoor
open Go.RowKit Go.Maps

/-- the number of digits -/
def dval (l : List UInt8) : Nat := l.foldl (fun n c => 10 * n + (c.toNat - 48)) 0
theorem dval_snoc (l : List UInt8) (c : UInt8) : dval (l ++ [c]) = 10 * dval l + (c.toNat - 48) := by simp [dval]
theorem dval_app (a b : List UInt8) : dval a ≤ dval (a ++ b) := by
  have h : ∀ (b : List UInt8) (n : Nat), n ≤ b.foldl (fun n c => 10 * n + (c.toNat - 48)) n := by
    intro b
    induction b with
    | nil => intro n; simp
    | cons c b ih => intro n; simp only [List.foldl_cons]; exact Nat.le_trans (by omega) (ih _)
  simp only [dval, List.foldl_append]
  exact h _ _
theorem dval_take (l : List UInt8) (k : Nat) : dval (l.take k) ≤ dval l := by
  have := dval_app (l.take k) (l.drop k)
  rwa [List.take_append_drop] at this
theorem neg_back {N : Nat} (h : (N : Int) ≤ 9223372036854775808) : wrap64 (IntKind.u64.wrap (-(N : Int))) = -(N : Int) := by
  rw [IntKind.wrap_u64]
  unfold wrap64
  omega
/-- what Int answers where it is -n or n -/
def intV (neg : Bool) (n : Nat) : Value := .tuple #[.int .i64 (if neg then -(n : Int) else n), .bool true]
set_option maxRecDepth 100000 in
set_option maxHeartbeats 2000000 in
theorem Int_calls (l : List TJ.N) (i : Nat) (hi : i < l.length) (v : Value) (w : World) (hRN : RN w v l) (hok : ∀ x ∈ l, NOk x) (hlen : l.length ≤ 4194304) (hT : Tabs w) (hsh : TJ.shaped l = true)
    (h4 : (l[i]'hi).kind = 4) (neg : Bool) (t : ByteArray) (ht : (l[i]'hi).text = (if neg then [45] else []) ++ bl t) (hd : ∀ c ∈ bl t, 48 ≤ c.toNat ∧ c.toNat ≤ 57) (hn : dval (bl t) ≤ 9223372036854775807 ∨ neg = true ∧ dval (bl t) ≤ 9223372036854775808) :
    Calls Tryd.prog 18 #[v, .int .i64 i] w fun e w' => e = .returned (intV neg (dval (bl t))) ∧ Below w.heap.size w w' := by
  have hs := Lib.hid (Shaped_calls _ v _ hRN hok hlen hT)
  have hts : t.size ≤ 16777216 := by
    have h := (hok _ (List.getElem_mem hi)).text
    rw [ht, List.length_append] at h
    have : (bl t).length = t.size := by simp [bl]
    omega
  have hcut := fun w2 => Lib.hid (Tryd.strings_CutPrefix ⟨(l[i]'hi).text.toArray⟩ ⟨#[45]⟩ w2)
  have e1 : Lib.trimPrefix (⟨(l[i]'hi).text.toArray⟩ : ByteArray).data.toList (⟨#[45]⟩ : ByteArray).data.toList = bl t ∧ Lib.hasPrefix (⟨(l[i]'hi).text.toArray⟩ : ByteArray).data.toList (⟨#[45]⟩ : ByteArray).data.toList = neg := by
    have e0 : (⟨(l[i]'hi).text.toArray⟩ : ByteArray).data.toList = (l[i]'hi).text := by simp
    have e9 : (⟨#[45]⟩ : ByteArray).data.toList = [45] := rfl
    rw [e0, e9, ht]
    cases neg with
    | true => simp [Lib.trimPrefix, Lib.hasPrefix]
    | false =>
      have hp : Lib.hasPrefix (bl t) [45] = false := by
        cases hb : bl t with
        | nil => rfl
        | cons c r =>
          have := hd c (by rw [hb]; simp)
          simp [Lib.hasPrefix, List.isPrefixOf]
          intro h
          subst h
          simp at this
      simp [Lib.trimPrefix, hp]
  rw [e1.1, e1.2] at hcut
  have e2 : (⟨(bl t).toArray⟩ : ByteArray) = t := (ba_eq rfl).symm
  rw [e2] at hcut
  have HCUT := Lib.hid hcut
  have HD := Lib.hid hd
  obtain ⟨a, c, rfl, hc, hcl⟩ := hRN
  obtain ⟨b, o, rfl, hcx⟩ := hcl (by intro h; rw [h] at hi; simp at hi)
  obtain ⟨d0, -, d2, -⟩ := hcx i hi
  have HC := Lib.hid (show ∀ w2, Below w.heap.size w w2 → ∀ (p : Addr) (x : Value), w.cell? p = some x → w2.cell? p = some x from fun w2 hb q u h => (hb.cell (World.block_lt_of_cell? w _ h)).trans h)
  rw [h4] at d0
  rw [hsh] at hs
  have hi' : (i : Int) < (l.length : Int) := by omega
  generalize (l[i]'hi).text = tx at *
  clear hcl hcx h4 hT hok hsh e1 e2 hcut hd ht
  generalize l.length = m at *
  have HN := Lib.hid hn
  clear hn
  go_enter Tryd.func18, Tryd.ntmps18
  go_wp2_with fail
  refine hs.out.mono ?_
  rintro e w1 ⟨rfl, hb1⟩
  have d2 := HC.out w1 hb1 _ _ d2
  go_wp2_with fail
  refine (HCUT.out w1).out.mono ?_
  rintro e w2 ⟨rfl, rfl⟩
  clear d2 d0
  go_wp2_with fail
  go_loopw [9, 8] (fun i n wr => ∃ k : Nat, k ≤ t.size ∧ i = .int .i64 k ∧ n = .int .u64 (dval ((bl t).take k)) ∧ Below w.heap.size w wr) (fun i _ _ => t.size - (intOf i).toNat)
  case atStart => exact ⟨0, Nat.zero_le _, rfl, rfl, hb1⟩
  case round =>
    obtain ⟨k, hk, rfl, rfl, HB⟩ := hrel
    by_cases hlt : k < t.size
    · have hlt' : (k : Int) < (t.size : Int) := by omega
      have hkb : k < (bl t).length := by simpa [bl] using hlt
      have hcb : (bl t)[k]'hkb = t[k]'hlt := by simp [bl]; rfl
      have hdc := HD.out _ (List.getElem_mem hkb)
      rw [hcb] at hdc
      have hsn : dval ((bl t).take (k + 1)) = 10 * dval ((bl t).take k) + ((t[k]'hlt).toNat - 48) := by rw [List.take_succ_eq_append_getElem hkb, dval_snoc, hcb]
      have htk := dval_take (bl t) (k + 1)
      have hN := HN.out
      have HSN := Lib.hid hsn
      obtain ⟨N, hNN⟩ : ∃ N, N = dval ((bl t).take k) := ⟨_, rfl⟩
      rw [← hNN] at hsn ⊢
      have HNN := Lib.hid hNN
      obtain ⟨z0, z1⟩ := hdc
      have z2 : (48 : Int) ≤ ((t[k]'hlt).toNat : Int) := by omega
      have z3 : ((t[k]'hlt).toNat : Int) ≤ 57 := by omega
      have z4 : 10 * (N : Int) + (((t[k]'hlt).toNat : Int) - 48) ≤ 9223372036854775808 := by omega
      have w1 : IntKind.u8.wrap (((t[k]'hlt).toNat : Int) - 48) = ((t[k]'hlt).toNat : Int) - 48 := wrap_u8 _ (by omega) (by omega)
      clear hsn htk hN hNN hcb z0 z1
      go_wp2_with fail
      refine ⟨⟨k + 1, hlt, by go_num, ?_, HB⟩, by simp [intOf]; omega⟩
      rw [HSN.out, ← HNN.out]
      congr 1
      omega
    · have hlt' : ¬ (k : Int) < (t.size : Int) := by omega
      have htk : (bl t).take k = bl t := List.take_of_length_le (by simp [bl]; omega)
      rw [htk]
      have hN := HN.out
      clear HCUT hs HN
      obtain ⟨N, hNN⟩ : ∃ N, N = dval (bl t) := ⟨_, rfl⟩
      rw [← hNN] at hN ⊢
      have HNN := Lib.hid hNN
      clear hNN htk
      cases neg with
      | false =>
        have hN : (N : Int) ≤ 9223372036854775807 := by
          rcases hN with h | ⟨h, -⟩
          · omega
          · cases h
        go_wp2_with fail
        go_ret2
        refine ⟨?_, HB⟩
        rw [intV, ← HNN.out]
        rfl
      | true =>
        have hN : (N : Int) ≤ 9223372036854775808 := by
          rcases hN with h | ⟨-, h⟩ <;> omega
        have HN8 := Lib.hid hN
        go_wp2_with fail
        go_ret2
        refine ⟨?_, HB⟩
        rw [intV, ← HNN.out]
        show Ending.returned (.tuple #[.int .i64 (wrap64 (IntKind.u64.wrap (-(N : Int)))), .bool true]) = _
        rw [neg_back HN8.out]
        rfl
end Go.Proofs.YtdhdeaknflekpaaDoor
