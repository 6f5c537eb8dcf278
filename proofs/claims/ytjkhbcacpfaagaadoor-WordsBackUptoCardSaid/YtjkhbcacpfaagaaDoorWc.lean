/- What words.Cut returns. -/
import Derived.Test.YtjkhbcacpfaagaaDoorWb
import Derived.Test.YtjkhbcacpfaagaaDoorMb
import Derived.Test.YtjkhbcacpfaagaaDoorShelf
import Derived.Lib.IndexLaws
set_option linter.unusedSimpArgs false
set_option linter.unusedVariables false
namespace Go.Proofs.YtjkhbcacpfaagaaDoor
open Go.RowKit

def wvals1 (w : TW.W) : List Value := [.int .i64 w.kind, .string ⟨w.text.toArray⟩, .int .i64 w.n, .int .i64 w.pos]
def wvals (l : List TW.W) : List Value := l.flatMap wvals1
theorem wvals_length (l : List TW.W) : (wvals l).length = l.length * 4 := by
  induction l with
  | nil => rfl
  | cons x r ih => simp only [wvals, List.flatMap_cons, List.length_append, List.length_cons] at *; rw [ih]; simp [wvals1]; omega
theorem wvals_one {k n p : Int} {t : ByteArray} (u : Value) (h : u ∈ (#[Value.int .i64 k, .string t, .int .i64 n, .int .i64 p] : Array Value).toList) : u.oneCell' = true := by
  simp at h
  rcases h with rfl | rfl | rfl | rfl <;> rfl
theorem wsnoc {w : World} {b e n : Nat} {v : Value} {out : List TW.W} {k m p : Int} {t : ByteArray} {text : List UInt8} (ht : t = ⟨text.toArray⟩)
    (h : w.ownsRow b e 4 v (n + 1) (wvals out ++ (#[Value.int .i64 k, .string t, .int .i64 m, .int .i64 p] : Array Value).toList)) (hn : out.length = n) :
    w.ownsRow b e 4 v (out ++ [TW.W.mk k text m p]).length (wvals (out ++ [TW.W.mk k text m p])) := by
  subst ht hn
  simpa [wvals, wvals1] using h
theorem info28 : (Tryd.prog.info? 28).map (fun i => (i.zero, i.size, i.bytes)) = some (some (.agg #[.int .i64 0, .string (⟨#[]⟩ : ByteArray), .int .i64 0, .int .i64 0]), 4, 40) := by kernel_rfl
theorem toUInt8_byte (c : UInt8) : ((c.toNat : Int)).toNat.toUInt8 = c := by simp
theorem sign_index (c : UInt8) : decide (0 ≤ Lib.indexByte [123, 125, 40, 41, 124, 42, 43, 63, 58, 59, 44, 61, 64] c) = TW.signs.contains c := by
  have hge := Lib.indexByte_ge [123, 125, 40, 41, 124, 42, 43, 63, 58, 59, 44, 61, 64] c
  rw [Bool.eq_iff_iff, decide_eq_true_eq, List.contains_iff_mem]
  show _ ↔ c ∈ [123, 125, 40, 41, 124, 42, 43, 63, 58, 59, 44, 61, 64]
  constructor
  · intro h
    obtain ⟨o, ho⟩ : ∃ o : Nat, Lib.indexByte [123, 125, 40, 41, 124, 42, 43, 63, 58, 59, 44, 61, 64] c = o := ⟨_, (Int.toNat_of_nonneg h).symm⟩
    exact List.mem_of_getElem? (Lib.indexByte_some ho).1
  · intro h
    apply Decidable.byContradiction
    intro hn
    obtain ⟨k, hk⟩ := List.mem_iff_getElem?.1 h
    exact Lib.indexByte_none (show Lib.indexByte [123, 125, 40, 41, 124, 42, 43, 63, 58, 59, 44, 61, 64] c = -1 by omega) k hk

/-- what holds at a label -/
def CI (s : ByteArray) (out : List TW.W) (l f j : Nat) (n : Int) : Prop :=
  match l with
  | 0 => TW.cut (bl s) 0 0 = TW.wapp out (TW.cut ((bl s).drop j) j 0)
  | 1 => j = f ∧ (∃ h : f < s.size, ((s[f]'h).toNat : Int) = 35) ∧ TW.cut (bl s) 0 0 = TW.wapp out (TW.cutC ((bl s).drop j) j) ∨ f < j ∧ TW.cut (bl s) 0 0 = TW.wapp out (TW.cutC ((bl s).drop j) j)
  | 2 => (j = f ∧ (∃ h : f < s.size, TW.letter ((s[f]'h).toNat : Int) = true) ∨ f < j) ∧ TW.cut (bl s) 0 0 = TW.wapp out (TW.cutN (((bl s).drop f).take (j - f)) ((bl s).drop j) f j)
  | 3 => (j = f ∧ (∃ h : f < s.size, TW.digit ((s[f]'h).toNat : Int) = true) ∨ f < j) ∧ 0 ≤ n ∧ n ≤ 65536 ∧ TW.cut (bl s) 0 0 = TW.wapp out (TW.cutD ((bl s).drop j) n f j)
  | 4 => j = f ∧ (∃ h : f < s.size, ((s[f]'h).toNat : Int) = 34) ∧ TW.cut (bl s) 0 0 = TW.wapp out (TW.cut ((bl s).drop f) f 0)
  | 5 => j = f ∧ (∃ h : f < s.size, ((s[f]'h).toNat : Int) = 47) ∧ TW.cut (bl s) 0 0 = TW.wapp out (TW.cut ((bl s).drop f) f 0)
  | _ => False
def CJ (s : ByteArray) (w0 : World) (l : Nat) (a : Act) (w : World) : Prop :=
  l < 6 ∧ ∃ (f j : Nat) (n : Int) (out : List TW.W) (v : Value), f ≤ j ∧ j ≤ s.size ∧ out.length ≤ j ∧ (l ≠ 0 → out.length ≤ f) ∧ CI s out l f j n
    ∧ w.ownsRow w0.heap.size 28 4 v out.length (wvals out) ∧ Below w0.heap.size w0 w ∧ w0.heap.size ≤ w.heap.size
    ∧ ∃ t : Nat → Value, a = ⟨#[.string s, t 1, .slice none 0 0, .int .i64 0, .int .i64 0, v, t 6, t 7, .int .i64 j, .int .i64 f, .int .i64 n, t 11, t 12, t 13, t 14, t 15, t 16, t 17, t 18, t 19, t 20, t 21, t 22, t 23, t 24, t 25, t 26, t 27, t 28, t 29, t 30, t 31, t 32, t 33, t 34, t 35, t 36, t 37, t 38, t 39, t 40, t 41, t 42, t 43, t 44, t 45, t 46, t 47, t 48, t 49, t 50, t 51, t 52, t 53, t 54, t 55, t 56, t 57, t 58, t 59, t 60, t 61, t 62, t 63, t 64, t 65, t 66, t 67, t 68, t 69, t 70, t 71, t 72, t 73, t 74, t 75, t 76, t 77, t 78, t 79, t 80, t 81, t 82, t 83, t 84, t 85, t 86, t 87, t 88, t 89, t 90, t 91, t 92, t 93, t 94, t 95, t 96, t 97, t 98, t 99, t 100, t 101, t 102, t 103, t 104, t 105, t 106, t 107, t 108, t 109, t 110, t 111, t 112, t 113, t 114, t 115, t 116, t 117, t 118, t 119, t 120, t 121, t 122, t 123, t 124, t 125, t 126, t 127, t 128, t 129, t 130, t 131, t 132, t 133, t 134, t 135, t 136, t 137, t 138, t 139, t 140, t 141, t 142, t 143, t 144, t 145, t 146, t 147, t 148, t 149, t 150, t 151, t 152, t 153, t 154, t 155, t 156, t 157, t 158, t 159, t 160, t 161, t 162, t 163, t 164, t 165, t 166, t 167, t 168, t 169], []⟩
def CMj (s : ByteArray) (l f j : Nat) : Nat := if l = 0 then 3 * (s.size - j) + 2 else if j = f then 3 * (s.size - f) + 1 else 3 * (s.size - j) + 3
def CM (s : ByteArray) (l : Nat) (a : Act) (_ : World) : Nat := CMj s l (intOf (a.tmps.getD 9 undef)).toNat (intOf (a.tmps.getD 8 undef)).toNat
theorem m_back {s : ByteArray} {l f j g : Nat} (hl : l ≠ 0) (h : f < j) : CMj s 0 g j < CMj s l f j := by
  simp only [CMj, if_true]; rw [if_neg hl, if_neg (by omega)]; omega
theorem m_go {s : ByteArray} {l f j : Nat} (hl : l ≠ 0) (h : f ≤ j) (hj : j < s.size) : CMj s l f (j + 1) < CMj s l f j := by
  simp only [CMj]; rw [if_neg hl, if_neg hl, if_neg (by omega)]; split <;> omega
theorem m_in {s : ByteArray} {l f j : Nat} (hl : l ≠ 0) : CMj s l j j < CMj s 0 f j := by
  simp only [CMj, if_true]; rw [if_neg hl]; omega
theorem m_next {s : ByteArray} {f g j k : Nat} (h : j < k) (hk : k ≤ s.size) : CMj s 0 f k < CMj s 0 g j := by
  simp only [CMj, if_true]; omega
theorem m_word {s : ByteArray} {l f g k : Nat} (hl : l ≠ 0) (h : f < k) (hk : k ≤ s.size) : CMj s 0 g k < CMj s l f f := by
  simp only [CMj, if_true]; rw [if_neg hl]; omega
def CPost (r : List TW.W × Int × Int) (w : World) (e : Ending) (w' : World) : Prop :=
  ∃ v, e = .returned (.tuple #[v, .int .i64 r.2.1, .int .i64 r.2.2]) ∧ w'.ownsRow w.heap.size 28 4 v r.1.length (wvals r.1) ∧ Below w.heap.size w w'
theorem cut_total {l : List UInt8} {r : List TW.W × Int × Int} (hl : l.length ≤ 16384) (h : TW.cut l 0 0 = r) : TW.Cut l = r := by rw [TW.Cut, if_neg (by omega), h]
theorem take_more (s : ByteArray) (f j : Nat) (h : f ≤ j) (hj : j < s.size) : ((bl s).drop f).take (j - f) ++ [s[j]'hj] = ((bl s).drop f).take (j + 1 - f) := by
  have h2 : j - f < ((bl s).drop f).length := by rw [List.length_drop, bl_length]; omega
  rw [show j + 1 - f = j - f + 1 by omega, List.take_succ_eq_append_getElem h2]
  congr 2
  rw [List.getElem_drop]
  show _ = (bl s)[f + (j - f)]'_
  simp only [show f + (j - f) = j by omega]
  rfl
set_option maxRecDepth 100000 in
set_option maxHeartbeats 4000000 in
theorem Cut_calls (s : ByteArray) (w : World) (hs : s.size ≤ 140737488355328) : Calls Tryd.prog 10 #[.string s] w (CPost (TW.Cut (bl s)) w) := by
  by_cases hlong : s.size > 16384
  · have H : TW.Cut (bl s) = ([], 80, 16384) := by rw [TW.Cut, if_pos (by rw [bl_length]; exact hlong)]
    rw [H]
    have hl : (16384 : Int) < (s.size : Int) := by omega
    clear hlong H
    go_enter Tryd.func10, Tryd.ntmps10
    go_wp2_with fail
    refine wp_scope_straight ?_
    go_wp2_with fail
    rw [Exit.noGoto_ret]
    go_ret3
    exact ⟨_, rfl, World.ownsRow_nil _ _ _ _, Below.refl _ _⟩
  · have hs : s.size ≤ 16384 := by omega
    have hl : ¬ (16384 : Int) < (s.size : Int) := by omega
    have hbl : (bl s).length ≤ 16384 := by rw [bl_length]; exact hs
    clear hlong
    go_enter Tryd.func10, Tryd.ntmps10
    go_wp2_with fail
    refine wp_scope6 (CJ s w) (CM s) rfl rfl rfl rfl rfl rfl (fun l a w h => h.1) ?p0 ?p1 ?p2 ?p3 ?p4 ?p5 ?first
    case first =>
      intro H
      go_wp2_with fail
      refine wp_label ?_
      go_step
      go_step
      exact H _ _ ⟨by omega, 0, 0, 0, [], _, by omega, by omega, by simp, fun h => absurd rfl h, by simp [CI, TW.wapp_nil], World.ownsRow_nil _ _ _ _, Below.refl _ _, Nat.le_refl _, frame_intro rfl⟩
    case p1 =>
      intro a w1 hJ
      obtain ⟨-, f, j, n, out, v, hfj, hj, ho, ho2, hI, HO, HB, hsz, t, rfl⟩ := hJ
      have ho2 := ho2 (by decide)
      by_cases hjl : j < s.size
      · have hd := bl_drop s j hjl
        have hjl' : (j : Int) < (s.size : Int) := by omega
        by_cases c10 : ((s[j]'hjl).toNat : Int) = 10
        · have c10b : (((s[j]'hjl).toNat : Int) != 10) = false := by rw [c10]; rfl
          have hfj' : f < j ∧ TW.cut (bl s) 0 0 = TW.wapp out (TW.cut ((bl s).drop j) j 0) := by
            rcases hI with ⟨rfl, ⟨h1, h2⟩, _⟩ | ⟨h1, h2⟩
            · exact absurd (h2.symm.trans c10) (by decide)
            · rw [hd, TW.cutC_nl _ _ _ c10, ← hd] at h2
              exact ⟨h1, h2⟩
          obtain ⟨hlt, heq⟩ := hfj'
          have Heq := Lib.hid heq
          clear heq hI hd c10 hs hl hbl
          go_wp2_with fail
          refine wp_goto ?_
          go_wp2_with fail
          simp only [jumps]
          refine ⟨⟨by omega, f, j, n, out, v, hfj, hj, ho, fun h => absurd rfl h, Heq.out, HO, HB, hsz, frame_intro rfl⟩, ?_⟩
          exact m_back (by decide) hlt
        · have c10b : (((s[j]'hjl).toNat : Int) != 10) = true := by rw [bne_iff_ne]; exact c10
          have heq : TW.cut (bl s) 0 0 = TW.wapp out (TW.cutC ((bl s).drop (j + 1)) (j + 1)) := by
            rcases hI with ⟨rfl, _, h2⟩ | ⟨h1, h2⟩ <;> rw [hd, TW.cutC_go _ _ _ c10] at h2 <;> exact h2
          have Heq := Lib.hid heq
          clear heq hI hd c10 hs hl hbl
          go_wp2_with fail
          refine wp_goto ?_
          go_wp2_with fail
          simp only [jumps]
          refine ⟨⟨by omega, f, j + 1, n, out, v, by omega, by omega, by omega, fun _ => ho2, .inr ⟨by omega, Heq.out⟩, HO, HB, hsz, frame_intro rfl⟩, ?_⟩
          exact m_go (by decide) hfj hjl
      · have hfj' : f < j ∧ TW.cut (bl s) 0 0 = TW.wapp out (TW.cut ((bl s).drop j) j 0) := by
          rcases hI with ⟨rfl, ⟨h1, h2⟩, _⟩ | ⟨h1, h2⟩
          · exact absurd h1 hjl
          · rw [bl_drop_end s j (by omega), TW.cutC_end, ← bl_drop_end s j (by omega)] at h2
            exact ⟨h1, h2⟩
        obtain ⟨hlt, heq⟩ := hfj'
        have Heq := Lib.hid heq
        have hjl' : ¬ (j : Int) < (s.size : Int) := by omega
        clear heq hI hs hl hbl
        go_wp2_with fail
        refine wp_goto ?_
        go_wp2_with fail
        simp only [jumps]
        refine ⟨⟨by omega, f, j, n, out, v, hfj, hj, ho, fun h => absurd rfl h, Heq.out, HO, HB, hsz, frame_intro rfl⟩, ?_⟩
        exact m_back (by decide) hlt
    case p4 =>
      intro a w1 hJ
      obtain ⟨-, f, j, n, out, v, hfj, hj, ho, ho2, hI, HO, HB, hsz, t, rfl⟩ := hJ
      have ho2 := ho2 (by decide)
      obtain ⟨rfl, ⟨hfs, hc⟩, heq⟩ := hI
      have hcall := quoted_calls s j w1 hfs (by omega)
      have hq := TW.quoted_ends j ((bl s).drop (j + 1)) (j + 1) 0
      have hd := bl_drop s j hfs
      rw [hd, TW.cut_str _ _ _ hc, ← hd] at heq
      rw [List.length_drop, bl_length] at hq
      generalize TW.quoted j ((bl s).drop (j + 1)) (j + 1) 0 = q at *
      obtain ⟨b, code, p⟩ := q
      simp only at hq heq
      by_cases hz : code = 0
      · subst hz
        obtain ⟨-, hp1, hp2⟩ : True ∧ (j : Int) + 2 ≤ p ∧ p ≤ s.size := ⟨trivial, by omega, by omega⟩
        obtain ⟨k, rfl⟩ : ∃ k : Nat, p = (k : Int) := ⟨p.toNat, by omega⟩
        rw [if_pos rfl, TW.wapp_wapp, List.drop_drop, show j + ((k : Int) - j).toNat = k by omega] at heq
        have Heq := Lib.hid heq
        have Hcall := Lib.hid hcall
        clear heq hq hd hc hcall
        go_wp2_with (first | (go_at_call 21; refine Hcall.out.mono ?_; rintro e w3 ⟨vb, rfl, hR, hB3⟩; have hcv := hR.conv (P := Tryd.prog) (src := 41) (dst := 9) (e := 5) Tryd.underlying41 Tryd.underlying5 Tryd.underlying9; have HO3 := own_below HO hB3; have HB3 := below_then HB hsz hB3; have hsz3 := HB3.size; clear hR HO HB) | (at_builtin; go_must (refine append_one (w0 := w) w.heap.size rfl _ _ 22 28 (.agg #[.int .i64 0, .string ⟨#[]⟩, .int .i64 0, .int .i64 0]) 4 40 rfl Tryd.underlying22 info28 rfl (by decide) (by decide) v out.length (wvals out) _ rfl rfl rfl wvals_one HO3 HB3 hsz3 (by omega) ?_); intro v1 w2 HO2 HB2 _ _))
        refine wp_goto ?_
        go_wp2_with fail
        simp only [jumps]
        refine ⟨⟨by omega, j, k, n, out ++ [TW.W.mk 2 b 0 j], v1, by omega, by omega, by simp; omega, fun h => absurd rfl h, Heq.out, wsnoc rfl HO2 rfl, HB2, HB2.size, frame_intro rfl⟩, ?_⟩
        exact m_word (s := s) (f := j) (g := j) (k := k) (by decide) (by omega) (by omega)
      · rw [if_neg hz, TW.wapp_err _ _ _ hz] at heq
        have hzb : (code != 0) = true := by rw [bne_iff_ne]; exact hz
        have Heq := Lib.hid (cut_total hbl heq)
        have Hcall := Lib.hid hcall
        clear heq hq hd hc hcall hz
        go_wp2_with (go_at_call 21; refine Hcall.out.mono ?_; rintro e w3 ⟨vb, rfl, hR, hB3⟩; have HB3 := below_then HB hsz hB3; clear hR HO HB)
        simp only [jumps]
        go_ret3
        rw [Heq.out]
        exact ⟨_, rfl, World.ownsRow_nil _ _ _ _, HB3⟩
    case p5 =>
      intro a w1 hJ
      obtain ⟨-, f, j, n, out, v, hfj, hj, ho, ho2, hI, HO, HB, hsz, t, rfl⟩ := hJ
      have ho2 := ho2 (by decide)
      obtain ⟨rfl, ⟨hfs, hc⟩, heq⟩ := hI
      have hcall := slashed_calls s j w1 hfs (by omega)
      have hq := TW.slashes_ends j ((bl s).drop (j + 1))
      have hd := bl_drop s j hfs
      rw [hd, TW.cut_regex _ _ _ hc, ← hd] at heq
      rw [List.length_drop, bl_length] at hq
      generalize TW.slashes j ((bl s).drop (j + 1)) = q at *
      obtain ⟨b, code, p⟩ := q
      simp only at hq heq
      by_cases hz : code = 0
      · subst hz
        obtain ⟨-, hp1, hp2⟩ : True ∧ (j : Int) + 2 ≤ p ∧ p ≤ s.size := ⟨trivial, by omega, by omega⟩
        obtain ⟨k, rfl⟩ : ∃ k : Nat, p = (k : Int) := ⟨p.toNat, by omega⟩
        rw [if_pos rfl, TW.wapp_wapp, List.drop_drop, show j + ((k : Int) - j).toNat = k by omega] at heq
        have Heq := Lib.hid heq
        have Hcall := Lib.hid hcall
        clear heq hq hd hc hcall
        go_wp2_with (first | (go_at_call 22; refine Hcall.out.mono ?_; rintro e w3 ⟨vb, rfl, hR, hB3⟩; have hcv := hR.conv (P := Tryd.prog) (src := 41) (dst := 9) (e := 5) Tryd.underlying41 Tryd.underlying5 Tryd.underlying9; have HO3 := own_below HO hB3; have HB3 := below_then HB hsz hB3; have hsz3 := HB3.size; clear hR HO HB) | (at_builtin; go_must (refine append_one (w0 := w) w.heap.size rfl _ _ 22 28 (.agg #[.int .i64 0, .string ⟨#[]⟩, .int .i64 0, .int .i64 0]) 4 40 rfl Tryd.underlying22 info28 rfl (by decide) (by decide) v out.length (wvals out) _ rfl rfl rfl wvals_one HO3 HB3 hsz3 (by omega) ?_); intro v1 w2 HO2 HB2 _ _))
        refine wp_goto ?_
        go_wp2_with fail
        simp only [jumps]
        refine ⟨⟨by omega, j, k, n, out ++ [TW.W.mk 3 b 0 j], v1, by omega, by omega, by simp; omega, fun h => absurd rfl h, Heq.out, wsnoc rfl HO2 rfl, HB2, HB2.size, frame_intro rfl⟩, ?_⟩
        exact m_word (s := s) (f := j) (g := j) (k := k) (by decide) (by omega) (by omega)
      · rw [if_neg hz, TW.wapp_err _ _ _ hz] at heq
        have hzb : (code != 0) = true := by rw [bne_iff_ne]; exact hz
        have Heq := Lib.hid (cut_total hbl heq)
        have Hcall := Lib.hid hcall
        clear heq hq hd hc hcall hz
        go_wp2_with (go_at_call 22; refine Hcall.out.mono ?_; rintro e w3 ⟨vb, rfl, hR, hB3⟩; have HB3 := below_then HB hsz hB3; clear hR HO HB)
        simp only [jumps]
        go_ret3
        rw [Heq.out]
        exact ⟨_, rfl, World.ownsRow_nil _ _ _ _, HB3⟩
    case p2 =>
      intro a w1 hJ
      obtain ⟨-, f, j, n, out, v, hfj, hj, ho, ho2, hI, HO, HB, hsz, t, rfl⟩ := hJ
      have ho2 := ho2 (by decide)
      obtain ⟨hfirst, heq⟩ := hI
      have hpl : (((bl s).drop f).take (j - f)).length = j - f := by rw [List.length_take, List.length_drop, bl_length]; omega
      by_cases hgo : ∃ h : j < s.size, TW.isN (s[j]'h) = true
      · obtain ⟨hjl, hn⟩ := hgo
        have hd := bl_drop s j hjl
        have hsn := take_more s f j hfj hjl
        rw [hd, TW.cutN_go _ _ _ _ _ hn, hsn] at heq
        have hjl' : (j : Int) < (s.size : Int) := by omega
        have Heq := Lib.hid heq
        simp only [TW.isN] at hn
        clear heq hd hfirst hpl hsn hs hl hbl
        by_cases hlt : TW.letter ((s[j]'hjl).toNat : Int) = true
        · clear hn
          go_wp2_with (first | (go_at_call 18; refine (letter_calls _ _).mono ?_; rintro e w' ⟨rfl, rfl⟩) | (go_at_call 19; refine (digit_calls _ _).mono ?_; rintro e w' ⟨rfl, rfl⟩))
          refine wp_goto ?_
          go_wp2_with fail
          simp only [jumps]
          refine ⟨⟨by omega, f, j + 1, n, out, v, by omega, by omega, by omega, fun _ => ho2, ⟨.inr (by omega), Heq.out⟩, HO, HB, hsz, frame_intro rfl⟩, ?_⟩
          exact m_go (by decide) hfj hjl
        · have hlf : TW.letter ((s[j]'hjl).toNat : Int) = false := by simpa using hlt
          have hdg : TW.digit ((s[j]'hjl).toNat : Int) = true := by simpa [hlf] using hn
          clear hn hlt
          go_wp2_with (first | (go_at_call 18; refine (letter_calls _ _).mono ?_; rintro e w' ⟨rfl, rfl⟩) | (go_at_call 19; refine (digit_calls _ _).mono ?_; rintro e w' ⟨rfl, rfl⟩))
          refine wp_goto ?_
          go_wp2_with fail
          simp only [jumps]
          refine ⟨⟨by omega, f, j + 1, n, out, v, by omega, by omega, by omega, fun _ => ho2, ⟨.inr (by omega), Heq.out⟩, HO, HB, hsz, frame_intro rfl⟩, ?_⟩
          exact m_go (by decide) hfj hjl
      · have hstop : f < j ∧ TW.cut (bl s) 0 0 = TW.wapp out (if (((bl s).drop f).take (j - f)).length > 24 then ([], 83, (f : Int)) else TW.wapp [⟨1, ((bl s).drop f).take (j - f), 0, f⟩] (TW.cut ((bl s).drop j) j 0)) := by
          refine ⟨?_, ?_⟩
          · rcases hfirst with ⟨rfl, h1, h2⟩ | h1
            · exact absurd ⟨h1, by simp [TW.isN, h2]⟩ hgo
            · exact h1
          · by_cases hjl : j < s.size
            · have hn : TW.isN (s[j]'hjl) = false := by simpa using fun h => hgo ⟨hjl, h⟩
              rw [bl_drop s j hjl, TW.cutN_stop _ _ _ _ _ hn, ← bl_drop s j hjl] at heq
              exact heq
            · rw [bl_drop_end s j (by omega), TW.cutN_end, ← bl_drop_end s j (by omega)] at heq
              exact heq
        obtain ⟨hlt, heq⟩ := hstop
        rw [hpl] at heq
        have a2 : (f : Int) ≤ (j : Int) := by omega
        have a3 : (j : Int) ≤ (s.size : Int) := by omega
        have a1 : (0 : Int) ≤ (f : Int) := by omega
        have hex : s.extract f j = ⟨(((bl s).drop f).take (j - f)).toArray⟩ := by rw [← bl_extract]
        by_cases hlong : j - f > 24
        · rw [if_pos hlong, TW.wapp_err _ _ _ (by decide)] at heq
          have Heq := Lib.hid (cut_total hbl heq)
          have hlg : (24 : Int) < (j : Int) - (f : Int) := by omega
          clear heq hex hpl hlong hfirst hs hl hbl
          by_cases hjl : j < s.size
          · have hjl' : (j : Int) < (s.size : Int) := by omega
            have hnn : TW.letter ((s[j]'hjl).toNat : Int) = false ∧ TW.digit ((s[j]'hjl).toNat : Int) = false := by
              have : TW.isN (s[j]'hjl) = false := by simpa using fun h => hgo ⟨hjl, h⟩
              simpa [TW.isN] using this
            obtain ⟨hlf, hdf⟩ := hnn
            clear hgo
            go_wp2_with (first | (go_at_call 18; refine (letter_calls _ _).mono ?_; rintro e w' ⟨rfl, rfl⟩) | (go_at_call 19; refine (digit_calls _ _).mono ?_; rintro e w' ⟨rfl, rfl⟩))
            simp only [jumps]
            go_ret3
            rw [Heq.out]
            exact ⟨_, rfl, World.ownsRow_nil _ _ _ _, HB⟩
          · have hjl' : ¬ (j : Int) < (s.size : Int) := by omega
            clear hgo
            go_wp2_with fail
            simp only [jumps]
            go_ret3
            rw [Heq.out]
            exact ⟨_, rfl, World.ownsRow_nil _ _ _ _, HB⟩
        · rw [if_neg hlong, TW.wapp_wapp] at heq
          have Heq := Lib.hid heq
          have Hex := Lib.hid hex
          have hlg : ¬ (24 : Int) < (j : Int) - (f : Int) := by omega
          clear heq hex hpl hlong hfirst hl hbl
          by_cases hjl : j < s.size
          · have hjl' : (j : Int) < (s.size : Int) := by omega
            have hnn : TW.letter ((s[j]'hjl).toNat : Int) = false ∧ TW.digit ((s[j]'hjl).toNat : Int) = false := by
              have : TW.isN (s[j]'hjl) = false := by simpa using fun h => hgo ⟨hjl, h⟩
              simpa [TW.isN] using this
            obtain ⟨hlf, hdf⟩ := hnn
            clear hgo
            go_wp2_with (first | (go_at_call 18; refine (letter_calls _ _).mono ?_; rintro e w' ⟨rfl, rfl⟩) | (go_at_call 19; refine (digit_calls _ _).mono ?_; rintro e w' ⟨rfl, rfl⟩) | (at_builtin; go_must (refine append_one (w0 := w) w.heap.size rfl _ _ 22 28 (.agg #[.int .i64 0, .string ⟨#[]⟩, .int .i64 0, .int .i64 0]) 4 40 rfl Tryd.underlying22 info28 rfl (by decide) (by decide) v out.length (wvals out) _ rfl rfl rfl wvals_one HO HB hsz (by omega) ?_); intro v1 w2 HO2 HB2 _ _))
            refine wp_goto ?_
            go_wp2_with fail
            simp only [jumps]
            refine ⟨⟨by omega, f, j, n, out ++ [TW.W.mk 1 (((bl s).drop f).take (j - f)) 0 f], v1, by omega, by omega, by simp; omega, fun h => absurd rfl h, Heq.out, wsnoc Hex.out HO2 rfl, HB2, HB2.size, frame_intro rfl⟩, ?_⟩
            exact m_back (by decide) hlt
          · have hjl' : ¬ (j : Int) < (s.size : Int) := by omega
            clear hgo
            go_wp2_with (first | (at_builtin; go_must (refine append_one (w0 := w) w.heap.size rfl _ _ 22 28 (.agg #[.int .i64 0, .string ⟨#[]⟩, .int .i64 0, .int .i64 0]) 4 40 rfl Tryd.underlying22 info28 rfl (by decide) (by decide) v out.length (wvals out) _ rfl rfl rfl wvals_one HO HB hsz (by omega) ?_); intro v1 w2 HO2 HB2 _ _))
            refine wp_goto ?_
            go_wp2_with fail
            simp only [jumps]
            refine ⟨⟨by omega, f, j, n, out ++ [TW.W.mk 1 (((bl s).drop f).take (j - f)) 0 f], v1, by omega, by omega, by simp; omega, fun h => absurd rfl h, Heq.out, wsnoc Hex.out HO2 rfl, HB2, HB2.size, frame_intro rfl⟩, ?_⟩
            exact m_back (by decide) hlt
    case p3 =>
      intro a w1 hJ
      obtain ⟨-, f, j, n, out, v, hfj, hj, ho, ho2, hI, HO, HB, hsz, t, rfl⟩ := hJ
      have ho2 := ho2 (by decide)
      obtain ⟨hfirst, hn0, hn1, heq⟩ := hI
      by_cases hgo : ∃ h : j < s.size, TW.digit ((s[j]'h).toNat : Int) = true
      · obtain ⟨hjl, hn⟩ := hgo
        have hd := bl_drop s j hjl
        rw [hd, TW.cutD_go _ _ _ _ _ hn] at heq
        have hjl' : (j : Int) < (s.size : Int) := by omega
        have hb : 48 ≤ ((s[j]'hjl).toNat : Int) ∧ ((s[j]'hjl).toNat : Int) ≤ 57 := by simpa [TW.digit] using hn
        obtain ⟨hb1, hb2⟩ := hb
        have Heq := Lib.hid heq
        clear heq hd hfirst hs hl hbl
        go_wp2_with (go_at_call 19; refine (digit_calls _ _).mono ?_; rintro e w' ⟨rfl, rfl⟩)
        refine wp_goto ?_
        go_wp2_with fail
        simp only [jumps]
        refine ⟨⟨by omega, f, j + 1, _, out, v, by omega, by omega, by omega, fun _ => ho2, ⟨.inr (by omega), by omega, by omega, Heq.out⟩, HO, HB, hsz, frame_intro rfl⟩, ?_⟩
        exact m_go (by decide) hfj hjl
      · have hstop : f < j ∧ TW.cut (bl s) 0 0 = TW.wapp out (if n > 65535 then ([], 84, (f : Int)) else TW.wapp [⟨4, [], n, f⟩] (TW.cut ((bl s).drop j) j 0)) := by
          refine ⟨?_, ?_⟩
          · rcases hfirst with ⟨rfl, h1, h2⟩ | h1
            · exact absurd ⟨h1, h2⟩ hgo
            · exact h1
          · by_cases hjl : j < s.size
            · have hn : TW.isD (s[j]'hjl) = false := by simpa [TW.isD] using fun h => hgo ⟨hjl, h⟩
              rw [bl_drop s j hjl, TW.cutD_stop _ _ _ _ _ hn, ← bl_drop s j hjl] at heq
              exact heq
            · have e := bl_drop_end s j (by omega)
              rw [e, TW.cutD_end] at heq
              rw [e]
              exact heq
        obtain ⟨hlt, heq⟩ := hstop
        by_cases hbig : n > 65535
        · rw [if_pos hbig, TW.wapp_err _ _ _ (by decide)] at heq
          have Heq := Lib.hid (cut_total hbl heq)
          clear heq hfirst hs hl hbl
          by_cases hjl : j < s.size
          · have hjl' : (j : Int) < (s.size : Int) := by omega
            have hdf : TW.digit ((s[j]'hjl).toNat : Int) = false := by simpa using fun h => hgo ⟨hjl, h⟩
            clear hgo
            go_wp2_with (go_at_call 19; refine (digit_calls _ _).mono ?_; rintro e w' ⟨rfl, rfl⟩)
            simp only [jumps]
            go_ret3
            rw [Heq.out]
            exact ⟨_, rfl, World.ownsRow_nil _ _ _ _, HB⟩
          · have hjl' : ¬ (j : Int) < (s.size : Int) := by omega
            clear hgo
            go_wp2_with fail
            simp only [jumps]
            go_ret3
            rw [Heq.out]
            exact ⟨_, rfl, World.ownsRow_nil _ _ _ _, HB⟩
        · rw [if_neg hbig, TW.wapp_wapp] at heq
          have Heq := Lib.hid heq
          clear heq hfirst hl hbl
          by_cases hjl : j < s.size
          · have hjl' : (j : Int) < (s.size : Int) := by omega
            have hdf : TW.digit ((s[j]'hjl).toNat : Int) = false := by simpa using fun h => hgo ⟨hjl, h⟩
            clear hgo
            go_wp2_with (first | (go_at_call 19; refine (digit_calls _ _).mono ?_; rintro e w' ⟨rfl, rfl⟩) | (at_builtin; go_must (refine append_one (w0 := w) w.heap.size rfl _ _ 22 28 (.agg #[.int .i64 0, .string ⟨#[]⟩, .int .i64 0, .int .i64 0]) 4 40 rfl Tryd.underlying22 info28 rfl (by decide) (by decide) v out.length (wvals out) _ rfl rfl rfl wvals_one HO HB hsz (by omega) ?_); intro v1 w2 HO2 HB2 _ _))
            refine wp_goto ?_
            go_wp2_with fail
            simp only [jumps]
            refine ⟨⟨by omega, f, j, n, out ++ [TW.W.mk 4 [] n f], v1, by omega, by omega, by simp; omega, fun h => absurd rfl h, Heq.out, wsnoc rfl HO2 rfl, HB2, HB2.size, frame_intro rfl⟩, ?_⟩
            exact m_back (by decide) hlt
          · have hjl' : ¬ (j : Int) < (s.size : Int) := by omega
            clear hgo
            go_wp2_with (first | (go_at_call 19; refine (digit_calls _ _).mono ?_; rintro e w' ⟨rfl, rfl⟩) | (at_builtin; go_must (refine append_one (w0 := w) w.heap.size rfl _ _ 22 28 (.agg #[.int .i64 0, .string ⟨#[]⟩, .int .i64 0, .int .i64 0]) 4 40 rfl Tryd.underlying22 info28 rfl (by decide) (by decide) v out.length (wvals out) _ rfl rfl rfl wvals_one HO HB hsz (by omega) ?_); intro v1 w2 HO2 HB2 _ _))
            refine wp_goto ?_
            go_wp2_with fail
            simp only [jumps]
            refine ⟨⟨by omega, f, j, n, out ++ [TW.W.mk 4 [] n f], v1, by omega, by omega, by simp; omega, fun h => absurd rfl h, Heq.out, wsnoc rfl HO2 rfl, HB2, HB2.size, frame_intro rfl⟩, ?_⟩
            exact m_back (by decide) hlt
    case p0 =>
      intro a w1 hJ
      obtain ⟨-, f, j, n, out, v, hfj, hj, ho, -, heq, HO, HB, hsz, t, rfl⟩ := hJ
      simp only [CI] at heq
      by_cases hjl : j < s.size
      · have hje : ((j : Int) == (s.size : Int)) = false := by rw [beq_eq_false_iff_ne]; omega
        have hjl' : (j : Int) < (s.size : Int) := by omega
        have hd := bl_drop s j hjl
        by_cases hbk : TW.blank ((s[j]'hjl).toNat : Int) = true
        · rw [hd, TW.cut_blank _ _ _ hbk] at heq
          have Heq := Lib.hid heq
          clear heq hd hs hl hbl
          go_wp2_with (first | (go_at_call 17; refine (blank_calls _ _).mono ?_; rintro e w' ⟨rfl, rfl⟩) | (go_at_call 18; refine (letter_calls _ _).mono ?_; rintro e w' ⟨rfl, rfl⟩) | (go_at_call 19; refine (digit_calls _ _).mono ?_; rintro e w' ⟨rfl, rfl⟩) | (go_at_call 20; refine (Tryd.strings_IndexByte _ _ _).mono ?_; rintro e w' ⟨rfl, rfl⟩))
          refine wp_goto ?_
          go_wp2_with fail
          simp only [jumps]
          refine ⟨⟨by omega, j, j + 1, n, out, v, by omega, by omega, by omega, fun h => absurd rfl h, Heq.out, HO, HB, hsz, frame_intro rfl⟩, ?_⟩
          exact m_next (s := s) (f := j) (g := f) (j := j) (k := j + 1) (by omega) hjl
        have hbk : TW.blank ((s[j]'hjl).toNat : Int) = false := by simpa using hbk
        by_cases c35 : ((s[j]'hjl).toNat : Int) = 35
        · have c35b : (((s[j]'hjl).toNat : Int) == 35) = true := by rw [c35]; rfl
          rw [hd, TW.cut_comment _ _ _ hbk c35, ← hd] at heq
          have Heq := Lib.hid heq
          have C35 := Lib.hid c35
          clear heq hd hs hl hbl c35
          go_wp2_with (first | (go_at_call 17; refine (blank_calls _ _).mono ?_; rintro e w' ⟨rfl, rfl⟩) | (go_at_call 18; refine (letter_calls _ _).mono ?_; rintro e w' ⟨rfl, rfl⟩) | (go_at_call 19; refine (digit_calls _ _).mono ?_; rintro e w' ⟨rfl, rfl⟩) | (go_at_call 20; refine (Tryd.strings_IndexByte _ _ _).mono ?_; rintro e w' ⟨rfl, rfl⟩))
          refine wp_goto ?_
          go_wp2_with fail
          simp only [jumps]
          refine ⟨⟨by omega, j, j, _, out, v, by omega, by omega, by omega, fun _ => ho, .inl ⟨rfl, ⟨hjl, C35.out⟩, Heq.out⟩, HO, HB, hsz, frame_intro rfl⟩, ?_⟩
          exact m_in (by decide)
        have c35b : (((s[j]'hjl).toNat : Int) == 35) = false := by rw [beq_eq_false_iff_ne]; exact c35
        by_cases hlt : TW.letter ((s[j]'hjl).toNat : Int) = true
        · rw [hd, TW.cut_name _ _ _ hbk c35 hlt, ← hd] at heq
          have Heq := Lib.hid heq
          clear heq hd hs hl hbl c35
          go_wp2_with (first | (go_at_call 17; refine (blank_calls _ _).mono ?_; rintro e w' ⟨rfl, rfl⟩) | (go_at_call 18; refine (letter_calls _ _).mono ?_; rintro e w' ⟨rfl, rfl⟩) | (go_at_call 19; refine (digit_calls _ _).mono ?_; rintro e w' ⟨rfl, rfl⟩) | (go_at_call 20; refine (Tryd.strings_IndexByte _ _ _).mono ?_; rintro e w' ⟨rfl, rfl⟩))
          refine wp_goto ?_
          go_wp2_with fail
          simp only [jumps]
          refine ⟨⟨by omega, j, j, _, out, v, by omega, by omega, by omega, fun _ => ho, ⟨.inl ⟨rfl, hjl, hlt⟩, by rw [Nat.sub_self, List.take_zero]; exact Heq.out⟩, HO, HB, hsz, frame_intro rfl⟩, ?_⟩
          exact m_in (by decide)
        have hlt : TW.letter ((s[j]'hjl).toNat : Int) = false := by simpa using hlt
        by_cases hdg : TW.digit ((s[j]'hjl).toNat : Int) = true
        · rw [hd, TW.cut_number _ _ _ hbk c35 hlt hdg, ← hd] at heq
          have Heq := Lib.hid heq
          clear heq hd hs hl hbl c35
          go_wp2_with (first | (go_at_call 17; refine (blank_calls _ _).mono ?_; rintro e w' ⟨rfl, rfl⟩) | (go_at_call 18; refine (letter_calls _ _).mono ?_; rintro e w' ⟨rfl, rfl⟩) | (go_at_call 19; refine (digit_calls _ _).mono ?_; rintro e w' ⟨rfl, rfl⟩) | (go_at_call 20; refine (Tryd.strings_IndexByte _ _ _).mono ?_; rintro e w' ⟨rfl, rfl⟩))
          refine wp_goto ?_
          go_wp2_with fail
          simp only [jumps]
          refine ⟨⟨by omega, j, j, _, out, v, by omega, by omega, by omega, fun _ => ho, ⟨.inl ⟨rfl, hjl, hdg⟩, by omega, by omega, Heq.out⟩, HO, HB, hsz, frame_intro rfl⟩, ?_⟩
          exact m_in (by decide)
        have hdg : TW.digit ((s[j]'hjl).toNat : Int) = false := by simpa using hdg
        by_cases c34 : ((s[j]'hjl).toNat : Int) = 34
        · have c34b : (((s[j]'hjl).toNat : Int) == 34) = true := by rw [c34]; rfl
          have Heq := Lib.hid heq
          have C34 := Lib.hid c34
          clear heq hd hs hl hbl c35 c34
          go_wp2_with (first | (go_at_call 17; refine (blank_calls _ _).mono ?_; rintro e w' ⟨rfl, rfl⟩) | (go_at_call 18; refine (letter_calls _ _).mono ?_; rintro e w' ⟨rfl, rfl⟩) | (go_at_call 19; refine (digit_calls _ _).mono ?_; rintro e w' ⟨rfl, rfl⟩) | (go_at_call 20; refine (Tryd.strings_IndexByte _ _ _).mono ?_; rintro e w' ⟨rfl, rfl⟩))
          refine wp_goto ?_
          go_wp2_with fail
          simp only [jumps]
          refine ⟨⟨by omega, j, j, _, out, v, by omega, by omega, by omega, fun _ => ho, ⟨rfl, ⟨hjl, C34.out⟩, Heq.out⟩, HO, HB, hsz, frame_intro rfl⟩, ?_⟩
          exact m_in (by decide)
        have c34b : (((s[j]'hjl).toNat : Int) == 34) = false := by rw [beq_eq_false_iff_ne]; exact c34
        by_cases c47 : ((s[j]'hjl).toNat : Int) = 47
        · have c47b : (((s[j]'hjl).toNat : Int) == 47) = true := by rw [c47]; rfl
          have Heq := Lib.hid heq
          have C47 := Lib.hid c47
          clear heq hd hs hl hbl c35 c34 c47
          go_wp2_with (first | (go_at_call 17; refine (blank_calls _ _).mono ?_; rintro e w' ⟨rfl, rfl⟩) | (go_at_call 18; refine (letter_calls _ _).mono ?_; rintro e w' ⟨rfl, rfl⟩) | (go_at_call 19; refine (digit_calls _ _).mono ?_; rintro e w' ⟨rfl, rfl⟩) | (go_at_call 20; refine (Tryd.strings_IndexByte _ _ _).mono ?_; rintro e w' ⟨rfl, rfl⟩))
          refine wp_goto ?_
          go_wp2_with fail
          simp only [jumps]
          refine ⟨⟨by omega, j, j, _, out, v, by omega, by omega, by omega, fun _ => ho, ⟨rfl, ⟨hjl, C47.out⟩, Heq.out⟩, HO, HB, hsz, frame_intro rfl⟩, ?_⟩
          exact m_in (by decide)
        have c47b : (((s[j]'hjl).toNat : Int) == 47) = false := by rw [beq_eq_false_iff_ne]; exact c47
        have hsg := sign_index (s[j]'hjl)
        have hce := toUInt8_byte (s[j]'hjl)
        have hst := TW.cut_step (s[j]'hjl) ((bl s).drop (j + 1)) j
        rw [TW.step, if_neg (by simp [hbk]), if_neg c35, if_neg (by simp [hlt]), if_neg (by simp [hdg]), if_neg c34, if_neg c47] at hst
        by_cases hs1 : TW.signs.contains (s[j]'hjl) = true
        · rw [hs1] at hsg
          rw [if_pos hs1] at hst
          simp only [Nat.sub_self, Nat.add_zero, List.drop_succ_cons, List.drop_zero] at hst
          rw [hd, hst, TW.wapp_wapp] at heq
          have Heq := Lib.hid heq
          have a1 : (0 : Int) ≤ (j : Int) := by omega
          have a2 : (j : Int) ≤ (j : Int) + 1 := by omega
          have a3 : (j : Int) + 1 ≤ (s.size : Int) := by omega
          have hex : s.extract j (j + 1) = ⟨#[s[j]'hjl]⟩ := by
            apply ByteArray.ext
            apply Array.toList_inj.1
            rw [bl_extract, hd, show j + 1 - j = 1 by omega]
            rfl
          have Hex := Lib.hid hex
          have Hce := Lib.hid hce
          clear heq hd hl hbl c35 c34 c47 hst hs1 hex hce
          go_wp2_with (first | (go_at_call 17; refine (blank_calls _ _).mono ?_; rintro e w' ⟨rfl, rfl⟩) | (go_at_call 18; refine (letter_calls _ _).mono ?_; rintro e w' ⟨rfl, rfl⟩) | (go_at_call 19; refine (digit_calls _ _).mono ?_; rintro e w' ⟨rfl, rfl⟩) | (go_at_call 20; refine (Tryd.strings_IndexByte _ _ _).mono ?_; rintro e w' ⟨rfl, rfl⟩) | (at_builtin; go_must (refine append_one (w0 := w) w.heap.size rfl _ _ 22 28 (.agg #[.int .i64 0, .string ⟨#[]⟩, .int .i64 0, .int .i64 0]) 4 40 rfl Tryd.underlying22 info28 rfl (by decide) (by decide) v out.length (wvals out) _ rfl rfl rfl wvals_one HO HB hsz (by omega) ?_); intro v1 w2 HO2 HB2 _ _))
          refine wp_goto ?_
          go_wp2_with fail
          simp only [jumps]
          refine ⟨⟨by omega, j, j + 1, n, out ++ [TW.W.mk 5 [s[j]'hjl] 0 j], v1, by omega, by omega, by simp; omega, fun h => absurd rfl h, Heq.out, wsnoc Hex.out HO2 rfl, HB2, HB2.size, frame_intro rfl⟩, ?_⟩
          exact m_next (s := s) (f := j) (g := f) (j := j) (k := j + 1) (by omega) hjl
        · have hs0 : TW.signs.contains (s[j]'hjl) = false := by simpa using hs1
          rw [hs0] at hsg
          rw [if_neg hs1] at hst
          rw [hd, hst, TW.wapp_err _ _ _ (by decide)] at heq
          have Heq := Lib.hid (cut_total hbl heq)
          clear heq hd hl hbl c35 c34 c47 hst hs1 hs0
          go_wp2_with (first | (go_at_call 17; refine (blank_calls _ _).mono ?_; rintro e w' ⟨rfl, rfl⟩) | (go_at_call 18; refine (letter_calls _ _).mono ?_; rintro e w' ⟨rfl, rfl⟩) | (go_at_call 19; refine (digit_calls _ _).mono ?_; rintro e w' ⟨rfl, rfl⟩) | (go_at_call 20; refine (Tryd.strings_IndexByte _ _ _).mono ?_; rintro e w' ⟨rfl, rfl⟩))
          simp only [jumps]
          go_ret3
          rw [Heq.out]
          exact ⟨_, ret3_place (by simp), World.ownsRow_nil _ _ _ _, HB⟩
      · have hje : ((j : Int) == (s.size : Int)) = true := by rw [beq_iff_eq]; omega
        rw [bl_drop_end s j (by omega), TW.cut] at heq
        have Heq := Lib.hid (cut_total hbl heq)
        clear heq hs hl hbl
        go_wp2_with fail
        simp only [jumps]
        go_ret3
        rw [Heq.out]
        exact ⟨_, rfl, by simpa [TW.wapp] using HO, HB⟩
end Go.Proofs.YtjkhbcacpfaagaaDoor
