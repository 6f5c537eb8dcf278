/- Plain law of JsonReads: what is read is well shaped, and its print no longer than the text. -/
import Derived.Test.YtdhdeaknflekpaaDoorPm
set_option linter.unusedSimpArgs false
set_option linter.unusedVariables false
namespace Go.Proofs.YtdhdeaknflekpaaDoor.TJ

inductive U : List UInt8 → Prop where
  | nil : U []
  | low (c : UInt8) (r : List UInt8) : c < 128 → U r → U (c :: r)
  | high (c : UInt8) (r b l : List UInt8) : ¬ c < 128 → char (c :: r) = (some b, l) → U l → U (c :: r)
theorem char_ne {c : UInt8} {r l : List UInt8} : char (c :: r) ≠ (some [], l) := by
  intro h
  have := char_ext h []
  simp [char] at this
theorem char_lt {c : UInt8} {r b l : List UInt8} (h : char (c :: r) = (some b, l)) : l.length < (c :: r).length := by
  obtain ⟨h1, -⟩ := char_app h
  rw [h1, List.length_append]
  cases b with
  | nil => exact absurd h char_ne
  | cons x y => simp
theorem U.utf {l : List UInt8} (h : U l) : ∀ f, l.length ≤ f → utf f l = true := by
  induction h with
  | nil => intro f _; unfold TJ.utf; cases f <;> rfl
  | low c r h1 h2 ih =>
    intro f hf
    cases f with
    | zero => simp at hf
    | succ f =>
      rw [TJ.utf, if_pos h1]
      exact ih f (by simp at hf; omega)
  | high c r b l h1 h2 h3 ih =>
    intro f hf
    cases f with
    | zero => simp at hf
    | succ f =>
      rw [TJ.utf, if_neg h1, h2]
      have := char_lt h2
      exact ih f (by omega)
theorem U.valid {l : List UInt8} (h : U l) : valid l = true := h.utf _ (Nat.le_refl _)
theorem U.app {a b : List UInt8} (h : U a) (hb : U b) : U (a ++ b) := by
  induction h with
  | nil => exact hb
  | low c r h1 h2 ih => exact .low c _ h1 ih
  | high c r x l h1 h2 h3 ih =>
    refine .high c _ x (l ++ b) h1 ?_ ih
    have := char_ext h2 (l ++ b)
    rw [← List.append_assoc, ← (char_app h2).1] at this
    exact this
theorem U.char {c : UInt8} {r b l : List UInt8} (h : char (c :: r) = (some b, l)) : U b := by
  obtain ⟨h1, -, h3⟩ := char_app h
  rcases h3 with ⟨h3, rfl, -⟩ | ⟨h3, -⟩
  · exact .low c [] h3 .nil
  · have := char_ext h []
    rw [List.append_nil] at this
    cases b with
    | nil => exact .nil
    | cons x y =>
      have hx : x = c := by
        rw [List.cons_append] at h1
        injection h1 with h1 _
        exact h1.symm
      subst hx
      refine .high _ _ _ _ ?_ this .nil
      intro hh
      rw [UInt8.lt_iff_toNat_lt] at hh
      rw [UInt8.le_iff_toNat_le] at h3
      omega
theorem char_two {a b : UInt8} (ha : 194 ≤ a.toNat ∧ a.toNat ≤ 223) (hb : 128 ≤ b.toNat ∧ b.toNat ≤ 191) : char [a, b] = (some [a, b], []) := by
  rw [char, if_neg (by simp [UInt8.lt_iff_toNat_lt]; omega), if_neg (by simp [UInt8.lt_iff_toNat_lt]; omega), if_pos (by simp [UInt8.le_iff_toNat_le]; omega)]
  rw [more, if_pos (by simp [UInt8.le_iff_toNat_le]; omega), more]
  rfl
theorem char_three {a b c : UInt8} (ha : 224 ≤ a.toNat ∧ a.toNat ≤ 239) (hb : 128 ≤ b.toNat ∧ b.toNat ≤ 191) (h0 : a.toNat = 224 → 160 ≤ b.toNat) (h1 : a.toNat = 237 → b.toNat ≤ 159) (hc : 128 ≤ c.toNat ∧ c.toNat ≤ 191) : char [a, b, c] = (some [a, b, c], []) := by
  have e1 : (a = 224) = (a.toNat = 224) := by rw [← UInt8.toNat_inj]; rfl
  have e2 : (a = 237) = (a.toNat = 237) := by rw [← UInt8.toNat_inj]; rfl
  rw [char, if_neg (by simp [UInt8.lt_iff_toNat_lt]; omega), if_neg (by simp [UInt8.lt_iff_toNat_lt]; omega), if_neg (by simp [UInt8.le_iff_toNat_le]; omega), if_pos (by simp [UInt8.le_iff_toNat_le]; omega)]
  rw [more, if_pos, more, if_pos (by simp [UInt8.le_iff_toNat_le]; omega), more]
  · rfl
  · simp only [e1, e2]
    constructor
    · split
      · simp [UInt8.le_iff_toNat_le]; omega
      · simp [UInt8.le_iff_toNat_le]; omega
    · split
      · simp [UInt8.le_iff_toNat_le]; omega
      · simp [UInt8.le_iff_toNat_le]; omega
theorem char_four {a b c e : UInt8} (ha : 240 ≤ a.toNat ∧ a.toNat ≤ 244) (hb : 128 ≤ b.toNat ∧ b.toNat ≤ 191) (h0 : a.toNat = 240 → 144 ≤ b.toNat) (h1 : a.toNat = 244 → b.toNat ≤ 143) (hc : 128 ≤ c.toNat ∧ c.toNat ≤ 191) (he : 128 ≤ e.toNat ∧ e.toNat ≤ 191) : char [a, b, c, e] = (some [a, b, c, e], []) := by
  have e1 : (a = 240) = (a.toNat = 240) := by rw [← UInt8.toNat_inj]; rfl
  have e2 : (a = 244) = (a.toNat = 244) := by rw [← UInt8.toNat_inj]; rfl
  rw [char, if_neg (by simp [UInt8.lt_iff_toNat_lt]; omega), if_neg (by simp [UInt8.lt_iff_toNat_lt]; omega), if_neg (by simp [UInt8.le_iff_toNat_le]; omega), if_neg (by simp [UInt8.le_iff_toNat_le]; omega), if_pos (by simp [UInt8.le_iff_toNat_le]; omega)]
  rw [more, if_pos, more, if_pos (by simp [UInt8.le_iff_toNat_le]; omega), more, if_pos (by simp [UInt8.le_iff_toNat_le]; omega), more]
  · rfl
  · simp only [e1, e2]
    constructor
    · split
      · simp [UInt8.le_iff_toNat_le]; omega
      · simp [UInt8.le_iff_toNat_le]; omega
    · split
      · simp [UInt8.le_iff_toNat_le]; omega
      · simp [UInt8.le_iff_toNat_le]; omega
theorem byte_nat (k : Int) (h : 0 ≤ k ∧ k ≤ 255) : (UInt8.ofNat k.toNat).toNat = k.toNat := by
  rw [UInt8.toNat_ofNat']
  omega
/-- the bytes of a code point are well formed; in quotes they are six at most, and four if it is none of the first 128 -/
theorem rune_good (n : Int) (h0 : 0 ≤ n) (h1 : n ≤ 1114111) (h2 : ¬ (55296 ≤ n ∧ n ≤ 57343)) : U (rune n) ∧ ((rune n).flatMap qbyte).length ≤ 6 ∧ (65536 ≤ n → ((rune n).flatMap qbyte).length ≤ 4) := by
  have high : ∀ l : List UInt8, (∀ y ∈ l, 128 ≤ y.toNat) → l.length ≤ 4 → (l.flatMap qbyte).length ≤ 6 ∧ (65536 ≤ n → (l.flatMap qbyte).length ≤ 4) := by
    intro l hl h4
    rw [flat_high fun y hy => by rw [UInt8.le_iff_toNat_le]; exact hl y hy]
    omega
  unfold rune
  dsimp only
  split
  · refine ⟨.low _ _ ?_ .nil, ?_, fun h => by omega⟩
    · rw [UInt8.lt_iff_toNat_lt, byte_nat _ (by omega)]
      simp
      omega
    · rw [List.flatMap_cons]
      simpa using qbyte_len (UInt8.ofNat n.toNat)
  · split
    · have b0 := byte_nat (192 + n / 64) (by omega)
      have b1 := byte_nat (128 + n % 64) (by omega)
      generalize UInt8.ofNat (192 + n / 64).toNat = a at *
      generalize UInt8.ofNat (128 + n % 64).toNat = b at *
      refine ⟨U.char (char_two (by omega) (by omega)), high _ ?_ (by simp)⟩
      intro y hy
      simp only [List.mem_cons, List.not_mem_nil, or_false] at hy
      rcases hy with rfl | rfl <;> omega
    · split
      · have b0 := byte_nat (224 + n / 4096) (by omega)
        have b1 := byte_nat (128 + n / 64 % 64) (by omega)
        have b2 := byte_nat (128 + n % 64) (by omega)
        generalize UInt8.ofNat (224 + n / 4096).toNat = a at *
        generalize UInt8.ofNat (128 + n / 64 % 64).toNat = b at *
        generalize UInt8.ofNat (128 + n % 64).toNat = c at *
        refine ⟨U.char (char_three (by omega) (by omega) (by omega) (by omega) (by omega)), high _ ?_ (by simp)⟩
        intro y hy
        simp only [List.mem_cons, List.not_mem_nil, or_false] at hy
        rcases hy with rfl | rfl | rfl <;> omega
      · have b0 := byte_nat (240 + n / 262144) (by omega)
        have b1 := byte_nat (128 + n / 4096 % 64) (by omega)
        have b2 := byte_nat (128 + n / 64 % 64) (by omega)
        have b3 := byte_nat (128 + n % 64) (by omega)
        generalize UInt8.ofNat (240 + n / 262144).toNat = a at *
        generalize UInt8.ofNat (128 + n / 4096 % 64).toNat = b at *
        generalize UInt8.ofNat (128 + n / 64 % 64).toNat = c at *
        generalize UInt8.ofNat (128 + n % 64).toNat = e at *
        refine ⟨U.char (char_four (by omega) (by omega) (by omega) (by omega) (by omega) (by omega)), high _ ?_ (by simp)⟩
        intro y hy
        simp only [List.mem_cons, List.not_mem_nil, or_false] at hy
        rcases hy with rfl | rfl | rfl | rfl <;> omega
theorem hexes_four {a b c e l r : List UInt8} {n : Int} (h : hexes [a, b, c, e] 0 l = (some n, r)) : ∃ x y z w, l = x :: y :: z :: w :: r ∧ a.contains x = true ∧ b.contains y = true ∧ c.contains z = true ∧ e.contains w = true ∧ n = 16 * (16 * (16 * (16 * 0 + hexOf x) + hexOf y) + hexOf z) + hexOf w := by
  cases l with
  | nil => simp [hexes] at h
  | cons x l =>
    rw [hexes] at h
    split at h
    · rename_i hx
      cases l with
      | nil => simp [hexes] at h
      | cons y l =>
        rw [hexes] at h
        split at h
        · rename_i hy
          cases l with
          | nil => simp [hexes] at h
          | cons z l =>
            rw [hexes] at h
            split at h
            · rename_i hz
              cases l with
              | nil => simp [hexes] at h
              | cons w l =>
                rw [hexes] at h
                split at h
                · rename_i hw
                  rw [hexes] at h
                  injection h with h1 h2
                  injection h1 with h1
                  exact ⟨x, y, z, w, by rw [h2], hx, hy, hz, hw, h1.symm⟩
                · cases h
            · cases h
        · cases h
    · cases h
theorem hex_rng : ∀ c ∈ sHex, 0 ≤ hexOf c ∧ hexOf c ≤ 15 ∧ (hexOf c = 13 → c ∈ ([100, 68] : List UInt8)) := by decide
theorem high_rng : ∀ c ∈ sHigh, 0 ≤ hexOf c ∧ hexOf c ≤ 11 := by decide
theorem low_rng : ∀ c ∈ sLow, 12 ≤ hexOf c ∧ hexOf c ≤ 15 := by decide
theorem d_rng : ∀ c ∈ ([100, 68] : List UInt8), hexOf c = 13 := by decide
theorem four_false {l r : List UInt8} {n : Int} (h : four false l = (some n, r)) : r.length + 4 = l.length ∧ 0 ≤ n ∧ n ≤ 65535 ∧ ¬ (56320 ≤ n ∧ n ≤ 57343) := by
  unfold four at h
  rw [if_neg (by simp)] at h
  split at h
  · rename_i hd
    obtain ⟨x, y, z, w, rfl, hx, hy, hz, hw, hn⟩ := hexes_four h
    have q1 := d_rng x (by simpa [has] using hd)
    have q2 := high_rng y (by simpa using hy)
    have q3 := hex_rng z (by simpa using hz)
    have q4 := hex_rng w (by simpa using hw)
    refine ⟨by simp, ?_⟩
    omega
  · rename_i hd
    obtain ⟨x, y, z, w, rfl, hx, hy, hz, hw, hn⟩ := hexes_four h
    have q1 := hex_rng x (by simpa using hx)
    have q2 := hex_rng y (by simpa using hy)
    have q3 := hex_rng z (by simpa using hz)
    have q4 := hex_rng w (by simpa using hw)
    have q5 : hexOf x ≠ 13 := fun e => hd (by simpa [has] using q1.2.2 e)
    refine ⟨by simp, ?_⟩
    omega
theorem four_true {l r : List UInt8} {n : Int} (h : four true l = (some n, r)) : r.length + 4 = l.length ∧ 56320 ≤ n ∧ n ≤ 57343 := by
  unfold four at h
  rw [if_pos rfl] at h
  obtain ⟨x, y, z, w, rfl, hx, hy, hz, hw, hn⟩ := hexes_four h
  have q1 := d_rng x (by simpa using hx)
  have q2 := low_rng y (by simpa using hy)
  have q3 := hex_rng z (by simpa using hz)
  have q4 := hex_rng w (by simpa using hw)
  refine ⟨by simp, ?_⟩
  omega
theorem escape_reads {l b r : List UInt8} (h : escape l = (some b, r)) : U b ∧ (b.flatMap qbyte).length + r.length ≤ l.length + 1 := by
  cases l with
  | nil => rw [escape] at h; cases h
  | cons c l =>
    rw [escape] at h
    split at h
    · rename_i hc
      injection h with h1 h2
      injection h1 with h1
      subst h1 h2
      obtain ⟨q1, q2⟩ := says_len c hc
      refine ⟨.low _ _ q2 .nil, ?_⟩
      rw [List.flatMap_cons]
      simp
      omega
    · split at h
      · cases hf : four false l with
        | mk o l1 =>
          rw [hf] at h
          cases o with
          | none => cases h
          | some n =>
            dsimp only at h
            obtain ⟨f1, f2, f3, f4⟩ := four_false hf
            split at h
            · rename_i hn
              split at h
              · rename_i h92
                split at h
                · rename_i h117
                  cases hg : four true l1.tail.tail with
                  | mk o l2 =>
                    rw [hg] at h
                    cases o with
                    | none => cases h
                    | some m =>
                      dsimp only at h
                      injection h with h1 h2
                      injection h1 with h1
                      subst h1 h2
                      obtain ⟨g1, g2, g3⟩ := four_true hg
                      have z1 := has_len h92
                      have z2 := has_len h117
                      obtain ⟨r1, r2, r3⟩ := rune_good (65536 + (n - 55296) * 1024 + (m - 56320)) (by omega) (by omega) (by omega)
                      refine ⟨r1, ?_⟩
                      simp only [List.length_cons]
                      omega
                · cases h
              · cases h
            · injection h with h1 h2
              injection h1 with h1
              subst h1 h2
              obtain ⟨r1, r2, r3⟩ := rune_good n (by omega) (by omega) (by omega)
              refine ⟨r1, ?_⟩
              simp only [List.length_cons]
              omega
      · cases h
theorem strs_reads : ∀ {f : Nat} {acc l b r : List UInt8}, strs f acc l = (some b, r) → ∃ s, b = acc ++ s ∧ U s ∧ (s.flatMap qbyte).length + 1 + r.length ≤ l.length
  | 0, acc, l, b, r, h => by rw [strs] at h; cases h
  | f + 1, acc, [], b, r, h => by rw [strs] at h; cases h
  | f + 1, acc, c :: l, b, r, h => by
    rw [strs] at h
    split at h
    · injection h with h1 h2
      injection h1 with h1
      subst h1 h2
      exact ⟨[], by simp, .nil, by simp; omega⟩
    · rename_i h34
      have go : ∀ x y, U x → (x.flatMap qbyte).length + y.length ≤ l.length + 1 → strs f (acc ++ x) y = (some b, r) → ∃ s, b = acc ++ s ∧ U s ∧ (s.flatMap qbyte).length + 1 + r.length ≤ (c :: l).length := by
        intro x y h1 h2 h3
        obtain ⟨s, e1, e2, e3⟩ := strs_reads h3
        refine ⟨x ++ s, by rw [e1, List.append_assoc], h1.app e2, ?_⟩
        rw [List.flatMap_append, List.length_append]
        simp only [List.length_cons]
        omega
      split at h
      · cases h
      · rename_i x y hxy
        split at hxy
        · obtain ⟨q1, q2⟩ := escape_reads hxy
          exact go x y q1 q2 h
        · rename_i h92
          obtain ⟨q1, q2, q3⟩ := char_app hxy
          refine go x y (U.char hxy) ?_ h
          rcases q3 with ⟨q3, rfl, rfl⟩ | ⟨q3, q4⟩
          · rw [List.flatMap_cons, qbyte_plain c q2 h34 h92]
            simp
            omega
          · rw [flat_high q4, ← List.length_append, ← q1]
            simp
theorem str_reads {l s r : List UInt8} (h : str l = (some s, r)) : valid s = true ∧ (quote s).length + r.length ≤ l.length := by
  unfold str at h
  split at h
  · rename_i hh
    obtain ⟨s', e1, e2, e3⟩ := strs_reads h
    rw [List.nil_append] at e1
    subst e1
    refine ⟨e2.valid, ?_⟩
    have := has_len hh
    unfold quote
    simp only [List.length_append, List.length_cons, List.length_nil]
    omega
  · cases h
/-- what reads says of one value -/
def Reads (d : Nat) (key l : List UInt8) (v : List N) (r : List UInt8) : Prop :=
  ∃ n u, v = n :: u ∧ n.key = key ∧ ∀ kf : Bool, (kf = false → key = []) → valid key = true → ∀ z, ∃ p, sub d kf (v ++ z) = some z ∧ prt d kf (v ++ z) = ((if kf then quote key ++ [58] else []) ++ p, z) ∧ p.length + r.length ≤ l.length
theorem kd_reads {keys : List (List UInt8)} {l k l1 : List UInt8} (h : kd keys l = .ok k l1) : valid k = true ∧ keys.contains k = false ∧ (quote k).length + 1 + l1.length ≤ l.length := by
  unfold kd at h
  cases hf : fresh keys l with
  | no d x => rw [hf] at h; cases h
  | ok s x =>
    rw [hf] at h
    have h : TJ.opt [58] (fun l => .ok s l) (fun l => .no false l) (blanks x) = .ok k l1 := h
    unfold opt at h
    split at h
    · rename_i hh
      injection h with h1 h2
      subst h1 h2
      unfold fresh at hf
      cases hs : str l with
      | mk o l' =>
        rw [hs] at hf
        cases o with
        | none => cases hf
        | some s' =>
          dsimp only at hf
          split at hf
          · cases hf
          · rename_i hc
            injection hf with h1 h2
            subst h1 h2
            obtain ⟨q1, q2⟩ := str_reads hs
            have := has_len hh
            have := blanks_len l'
            exact ⟨q1, by simpa using hc, by omega⟩
    · cases h
theorem items_reads {d : Nat} {obj : Bool} (ih : ∀ key l v r, value d key l = .ok v r → Reads d key l v r) : ∀ (F : Nat) (keys keys' : List (List UInt8)) (l : List UInt8) (m : Nat) (v : List N) (r : List UInt8), (obj = true → keys' = keys) → items (value d) obj F keys l = .ok (m, v) r →
    1 ≤ m ∧ ∀ z, ∃ b, subs (sub d obj) obj m keys' (v ++ z) = some z ∧ prts (prt d obj) m false (v ++ z) = (b, z) ∧ b.length + 1 + r.length ≤ l.length
  | 0, keys, keys', l, m, v, r, hkk, h => by rw [items] at h; cases h
  | F + 1, keys, keys', l, m, v, r, hkk, h => by
    have e := congrFun (items_eq (value d) obj F keys) l
    try dsimp only at e
    rw [e] at h
    clear e
    cases hk : keyP obj keys l with
    | no a b => rw [hk] at h; cases h
    | ok k l1 =>
      rw [hk] at h
      have h : (valP (value d) obj k l1).bind (fun v l => rest (value d) obj F keys k v (blanks l)) = .ok (m, v) r := h
      have hkey : (obj = true → valid k = true ∧ keys.contains k = false ∧ (quote k).length + 1 + l1.length ≤ l.length) ∧ (obj = false → k = [] ∧ l1 = l) := by
        cases obj with
        | true => exact ⟨fun _ => kd_reads hk, (fun h => by cases h)⟩
        | false => cases hk; exact ⟨(fun h => by cases h), fun _ => ⟨rfl, rfl⟩⟩
      cases hv : valP (value d) obj k l1 with
      | no a b => rw [hv] at h; cases h
      | ok v1 l2 =>
        rw [hv] at h
        have h : rest (value d) obj F keys k v1 (blanks l2) = .ok (m, v) r := h
        obtain ⟨l1', hl1, hv⟩ : ∃ l1' : List UInt8, l1'.length ≤ l1.length ∧ value d k l1' = .ok v1 l2 := by
          cases obj with
          | true => exact ⟨blanks l1, blanks_len l1, hv⟩
          | false => exact ⟨l1, Nat.le_refl _, hv⟩
        obtain ⟨n, u, rfl, hn, hr⟩ := ih k l1' v1 l2 hv
        have hvk : valid k = true := by
          cases obj with
          | true => exact (hkey.1 rfl).1
          | false => rw [(hkey.2 rfl).1]; rfl
        have hr := hr obj (fun ho => (hkey.2 ho).1) hvk
        have hK : (if obj = true then quote k ++ [58] else []).length + l1.length ≤ l.length := by
          cases obj with
          | true => have := (hkey.1 rfl).2.2; simp at this ⊢; omega
          | false => rw [(hkey.2 rfl).2]; simp
        have hb := blanks_len l2
        have hsub : ∀ (j : Nat) (z : List N) (z' : List N), sub d obj (n :: u ++ z) = some z → subs (sub d obj) obj j (if obj then k :: keys' else keys') z = some z' → subs (sub d obj) obj (j + 1) keys' (n :: u ++ z) = some z' := by
          intro j z z' h1 h2
          rw [subs, h1]
          dsimp only
          have : (n :: u ++ z).head!.key = k := hn
          rw [this]
          cases obj with
          | true =>
            rw [if_pos rfl, if_neg (by rw [hkk rfl, (hkey.1 rfl).2.1]; simp)]
            exact h2
          | false => exact h2
        unfold rest opt at h
        split at h
        · rename_i hs
          injection h with h1 h2
          injection h1 with h1 h3
          subst h1 h2 h3
          refine ⟨Nat.le_refl _, fun z => ?_⟩
          obtain ⟨p, s1, s2, s3⟩ := hr z
          refine ⟨(if obj = true then quote k ++ [58] else []) ++ p, hsub 0 z z s1 (by rw [subs]), ?_, ?_⟩
          · rw [prts, s2]
            simp [prts]
          · have := has_len hs
            rw [List.length_append]
            omega
        · split at h
          · rename_i hs hc
            cases hi : items (value d) obj F (k :: keys) (blanks (blanks l2).tail) with
            | no a b =>
              have h : (items (value d) obj F (k :: keys) (blanks (blanks l2).tail)).bind (fun p l => R.ok (1 + p.1, n :: u ++ p.2) l) = .ok (m, v) r := h
              rw [hi] at h
              cases h
            | ok p r' =>
              obtain ⟨m', v'⟩ := p
              have h : (items (value d) obj F (k :: keys) (blanks (blanks l2).tail)).bind (fun p l => R.ok (1 + p.1, n :: u ++ p.2) l) = .ok (m, v) r := h
              rw [hi] at h
              have h : R.ok (1 + m', n :: u ++ v') r' = .ok (m, v) r := h
              injection h with h1 h2
              injection h1 with h1 h3
              subst h1 h2 h3
              obtain ⟨i1, i2⟩ := items_reads ih F (k :: keys) (if obj then k :: keys' else keys') _ _ _ _ (by intro ho; rw [if_pos ho, hkk ho]) hi
              refine ⟨by omega, fun z => ?_⟩
              obtain ⟨b, b1, b2, b3⟩ := i2 z
              obtain ⟨p, s1, s2, s3⟩ := hr (v' ++ z)
              rw [Nat.add_comm 1 m', List.append_assoc]
              refine ⟨(if obj = true then quote k ++ [58] else []) ++ p ++ 44 :: b, hsub m' (v' ++ z) z s1 b1, ?_, ?_⟩
              · rw [prts, s2]
                obtain ⟨j, rfl⟩ : ∃ j, m' = j + 1 := ⟨m' - 1, by omega⟩
                dsimp only
                rw [prts_more, b2]
                simp
              · have q1 := has_len hc
                have q2 := blanks_len (blanks l2).tail
                simp only [List.length_append, List.length_cons]
                omega
          · cases h
theorem sub_leaf (d : Nat) (kf : Bool) (n : N) (z : List N) (hs : sound n = true) (hk : kf = false → n.key = []) (h67 : ¬ (n.kind = 6 ∨ n.kind = 7)) : sub d kf (n :: z) = some z := by
  rw [sub.eq_def]
  dsimp only
  rw [if_neg, if_neg h67]
  rw [hs]
  cases kf with
  | true => simp
  | false => rw [hk rfl]; simp
theorem reads : ∀ (d : Nat) (key l : List UInt8) (v : List N) (r : List UInt8), value d key l = .ok v r → Reads d key l v r
  | d, key, l, v, r, h => by
    have word : ∀ (kind : Int) (w : List UInt8), (∀ z kf, prt d kf (⟨kind, key, [], 0⟩ :: z) = ((if kf then quote key ++ [58] else []) ++ w, z)) → (kind = 1 ∨ kind = 2 ∨ kind = 3) → wordP kind key w l = .ok v r → Reads d key l v r := by
      intro kind w hp hkind h
      unfold wordP at h
      cases hw : TJ.word w l with
      | mk o l' =>
        rw [hw] at h
        cases o with
        | false => cases h
        | true =>
          have h : R.ok [(⟨kind, key, [], 0⟩ : N)] l' = .ok v r := h
          injection h with h1 h2
          subst h1 h2
          have := word_len hw
          refine ⟨_, [], rfl, rfl, fun kf hkf hval z => ⟨w, sub_leaf d kf _ z ?_ hkf (by dsimp only; omega), hp z kf, by omega⟩⟩
          unfold sound
          dsimp only
          rw [hval, if_neg (by simp), if_neg (by omega), if_neg (by omega), if_neg (by omega), if_pos hkind]
          rfl
    rw [value_eq] at h
    unfold valueP alt at h
    split at h
    · exact word 1 _ (fun z kf => by rw [prt.eq_def]; rfl) (by omega) h
    · split at h
      · exact word 2 _ (fun z kf => by rw [prt.eq_def]; rfl) (by omega) h
      · split at h
        · exact word 3 _ (fun z kf => by rw [prt.eq_def]; rfl) (by omega) h
        · split at h
          · unfold strP at h
            cases hs : str l with
            | mk o l' =>
              rw [hs] at h
              cases o with
              | none => cases h
              | some s =>
                have h : R.ok [(⟨5, key, s, 0⟩ : N)] l' = .ok v r := h
                injection h with h1 h2
                subst h1 h2
                obtain ⟨q1, q2⟩ := str_reads hs
                refine ⟨_, [], rfl, rfl, fun kf hkf hval z => ⟨quote s, sub_leaf d kf _ z ?_ hkf (by dsimp only; omega), ?_, q2⟩⟩
                · unfold sound
                  dsimp only
                  rw [hval, if_neg (by simp), if_neg (by omega), if_neg (by omega), if_pos rfl, q1]
                  rfl
                · show prt d kf (⟨5, key, s, 0⟩ :: z) = _
                  rw [prt.eq_def]
                  rfl
          · split at h
            · rename_i hb
              cases d with
              | zero =>
                have h : deep0 l = .ok v r := h
                rw [deep0, if_pos hb] at h
                cases h
              | succ d =>
                have many : ∀ (obj : Bool) (x : List UInt8), l = (if obj then 123 else 91) :: x → (body (value d) obj x).bind (fun p l => R.ok ((⟨if obj then 7 else 6, key, [], p.1⟩ : N) :: p.2) l) = .ok v r → Reads (d + 1) key l v r := by
                  intro obj x hl h
                  cases hbd : body (value d) obj x with
                  | no a b => rw [hbd] at h; cases h
                  | ok p r' =>
                    obtain ⟨m, u⟩ := p
                    rw [hbd] at h
                    have h : R.ok ((⟨if obj then 7 else 6, key, [], (m : Int)⟩ : N) :: u) r' = .ok v r := h
                    injection h with h1 h2
                    subst h1 h2
                    refine ⟨_, u, rfl, rfl, fun kf hkf hval z => ?_⟩
                    have hmain : ∃ b, subs (sub d obj) obj m [] (u ++ z) = some z ∧ prts (prt d obj) m false (u ++ z) = (b, z) ∧ b.length + 1 + r'.length ≤ x.length := by
                      unfold body opt at hbd
                      split at hbd
                      · rename_i hs
                        injection hbd with h1 h2
                        injection h1 with h1 h3
                        subst h1 h2 h3
                        have q1 := has_len hs
                        have q2 := blanks_len x
                        exact ⟨[], by rw [subs]; rfl, by rw [prts]; rfl, by simp; omega⟩
                      · obtain ⟨-, hi⟩ := items_reads (reads d) _ [] [] (blanks x) m u r' (fun _ => rfl) hbd
                        obtain ⟨b, b1, b2, b3⟩ := hi z
                        have := blanks_len x
                        exact ⟨b, b1, b2, by omega⟩
                    obtain ⟨b, b1, b2, b3⟩ := hmain
                    refine ⟨(if obj then 123 else 91) :: (b ++ [shut obj]), ?_, ?_, ?_⟩
                    · rw [List.cons_append, sub.eq_def]
                      dsimp only
                      have hs : sound ⟨if obj = true then 7 else 6, key, [], (m : Int)⟩ = true := by
                        unfold sound
                        dsimp only
                        rw [hval, if_neg (by simp), if_pos (by cases obj <;> simp)]
                        rfl
                      rw [hs, if_neg, if_pos (by cases obj <;> simp)]
                      · have e : (decide ((if obj = true then (7 : Int) else 6) = 7)) = obj := by cases obj <;> rfl
                        rw [e]
                        exact b1
                      · cases kf with
                        | true => simp
                        | false => rw [hkf rfl]; simp
                    · rw [List.cons_append, prt.eq_def]
                      dsimp only
                      have e7 : ((if obj = true then (7 : Int) else 6) = 7) = (obj = true) := by cases obj <;> simp
                      have e : (decide ((if obj = true then (7 : Int) else 6) = 7)) = obj := by cases obj <;> rfl
                      rw [if_neg (by cases obj <;> simp), if_neg (by cases obj <;> simp), if_neg (by cases obj <;> simp), if_neg (by cases obj <;> simp), if_neg (by cases obj <;> simp)]
                      simp only [e]
                      simp only [e7]
                      rw [show ((m : Nat) : Int).toNat = m by simp, b2]
                      have es : shut obj = if obj = true then 125 else 93 := by cases obj <;> rfl
                      rw [es]
                      simp
                    · rw [hl]
                      simp only [List.length_cons, List.length_append, List.length_nil]
                      omega
                have h : brack (d + 1) key l = .ok v r := h
                rw [brack_succ] at h
                split at h
                · rename_i h1
                  cases l with
                  | nil => cases h1
                  | cons c x =>
                    have : c = 123 := by simpa [has] using h1
                    exact many true x (by rw [this]; rfl) h
                · split at h
                  · rename_i h1
                    cases l with
                    | nil => cases h1
                    | cons c x =>
                      have : c = 91 := by simpa [has] using h1
                      exact many false x (by rw [this]; rfl) h
                  · cases h
            · unfold numP told at h
              dsimp only at h
              cases hn : number l with
              | mk o l' =>
                rw [hn] at h
                cases o with
                | false => cases h
                | true =>
                  have h : R.ok [(⟨4, key, l.take (l.length - l'.length), 0⟩ : N)] l' = .ok v r := h
                  injection h with h1 h2
                  subst h1 h2
                  obtain ⟨x, hx, hy⟩ := number_good.s (l := l) (a := ()) (r := l') (by show ofB (number l) = _; rw [hn]; rfl)
                  have hnum : isNum x = true := by
                    have := hy [] l' rfl
                    rw [List.append_nil] at this
                    unfold isNum
                    cases hq : number x with
                    | mk o q =>
                      rw [hq] at this
                      cases o with
                      | false => cases this
                      | true => cases this; rfl
                  have htake : l.take (l.length - l'.length) = x := by rw [hx, take_told]
                  rw [htake]
                  refine ⟨_, [], rfl, rfl, fun kf hkf hval z => ⟨x, sub_leaf d kf _ z ?_ hkf (by dsimp only; omega), ?_, by rw [hx]; simp⟩⟩
                  · unfold sound
                    dsimp only
                    rw [hval, if_neg (by simp), if_neg (by omega), if_pos rfl, hnum]
                    rfl
                  · show prt d kf (⟨4, key, x, 0⟩ :: z) = _
                    rw [prt.eq_def]
                    rfl
termination_by d => d
/-- what is read is well shaped, its print no longer, and read as it -/
theorem parse_reads {l r : List UInt8} {v : List N} (h : parse l = .ok v r) : shaped v = true ∧ (print v).length ≤ l.length ∧ parse (print v) = .ok v [] := by
  obtain ⟨r1, h1, h2⟩ := parse_ok h
  obtain ⟨n, u, hv, hk, hr⟩ := reads 64 [] (blanks l) v r1 h1
  obtain ⟨p, s1, s2, s3⟩ := hr false (fun _ => rfl) (by rfl) []
  rw [List.append_nil] at s1 s2
  have hs : shaped v = true := by unfold shaped; rw [s1]; rfl
  refine ⟨hs, ?_, parse_print hs⟩
  have := blanks_len l
  unfold print
  rw [s2]
  show (([] : List UInt8) ++ p).length ≤ _
  rw [List.nil_append]
  omega
end Go.Proofs.YtdhdeaknflekpaaDoor.TJ
