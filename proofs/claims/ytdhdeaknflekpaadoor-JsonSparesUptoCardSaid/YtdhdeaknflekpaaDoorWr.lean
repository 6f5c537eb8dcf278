/- json.subtree, json.Shaped. -/
import Derived.Test.YtdhdeaknflekpaaDoorWq
set_option linter.unusedSimpArgs false
set_option linter.unusedVariables false
namespace Go.Proofs.YtdhdeaknflekpaaDoor
open Go.RowKit Go.Maps

/-- what subtree returns -/
def SubC (D : Nat) : Prop := ∀ (l : List TJ.N) (v : Value) (a : Nat) (d : Int) (key : Bool) (w : World), RN w v l → (∀ x ∈ l, NOk x) → l.length ≤ 4194304 → a ≤ l.length → Tabs w → d + D = 64 → 0 ≤ d →
  Calls Tryd.prog 24 #[v, .int .i64 a, .int .i64 d, .bool key] w fun e w' => e = .returned (.int .i64 (subR l (TJ.sub D key (l.drop a)))) ∧ Below w.heap.size w w'
theorem ret_i {a b : Int} {p : Prop} (h : a = b) (hp : p) : Ending.returned (.int .i64 a) = Ending.returned (.int .i64 b) ∧ p := ⟨by rw [h], hp⟩
theorem bl_mk (l : List UInt8) : bl ⟨l.toArray⟩ = l := by simp [bl]
theorem size_mk (l : List UInt8) : (⟨l.toArray⟩ : ByteArray).size = l.length := by rw [← bl_length, bl_mk]
theorem kids_nonneg {n : TJ.N} (h : TJ.sound n = true) : 0 ≤ n.kids := by
  apply Decidable.byContradiction
  intro hn
  unfold TJ.sound at h
  have : decide (n.kids < 0) = true := by simpa using hn
  rw [this] at h
  cases h
/-- in the loop over a node's children -/
def SubRel (w : World) (v : Value) (l : List TJ.N) (D : Nat) (obj : Bool) (kids : Int) (nb mb : Nat) (cs : Array Value) (r : Option (List TJ.N)) (s11 s58 : Value) (wr : World) : Prop :=
  ∃ (k kk tp : Nat) (keys ks : List (List UInt8)), s58 = .int .i64 k ∧ s11 = .int .i64 tp ∧ (k : Int) ≤ kids ∧ tp ≤ l.length ∧ kk ≤ tp ∧ Below w.heap.size w wr ∧ wr.heap[nb]? = some (.cells cs 36 (0, 0)) ∧ wr.ownsMap Tryd.prog 9 (plainElem Tryd.prog 3) mb kk (keysD ks)
    ∧ (obj = true → ks = keys) ∧ r = TJ.subs (TJ.sub D obj) obj (kids - k).toNat keys (l.drop tp)
set_option maxRecDepth 100000 in
set_option maxHeartbeats 8000000 in
theorem sub_calls (D : Nat) (ih : ∀ D', D = D' + 1 → SubC D') : SubC D := by
  intro l v a d key w hRN hok hlen ha hT hd hd0
  obtain ⟨r, hr⟩ : ∃ r, r = TJ.sub D key (l.drop a) := ⟨_, rfl⟩
  rw [← hr]
  have HRN := Lib.hid hRN
  have HOK := Lib.hid hok
  have HT := Lib.hid hT
  have IH := Lib.hid ih
  obtain ⟨ad, cp, rfl, hcp, hcl⟩ := hRN
  clear hok hT ih
  by_cases hlt : a < l.length
  · have hlt' : ¬ (l.length : Int) ≤ (a : Int) := by omega
    obtain ⟨b, o, rfl, hcm⟩ := hcl (fun e => by rw [e] at hlt; simp at hlt)
    obtain ⟨n, hn⟩ : ∃ n, n = l[a]'hlt := ⟨_, rfl⟩
    obtain ⟨c0, c1, c2, c3⟩ := hcm a hlt
    rw [← hn] at c0 c1 c2 c3
    have hnk := HOK.out n (by rw [hn]; exact List.getElem_mem hlt)
    obtain ⟨hk1, hk2, hk3, hk4⟩ := hnk
    have hdr : l.drop a = n :: l.drop (a + 1) := by rw [hn]; exact List.drop_eq_getElem_cons hlt
    rw [hdr] at hr
    obtain ⟨kd, ky, tx, kids⟩ := n
    dsimp only at c0 c1 c2 c3 hk1 hk2 hk3 hk4
    have hs := Lib.hid (sound_calls kd ⟨ky.toArray⟩ ⟨tx.toArray⟩ kids w (by rw [size_mk]; omega) (by rw [size_mk]; omega) HT.out)
    rw [bl_mk, bl_mk] at hs
    have HC0 := Lib.hid c0
    have HC1 := Lib.hid c1
    have HC2 := Lib.hid c2
    have HC3 := Lib.hid c3
    have HCM := Lib.hid hcm
    have HR := Lib.hid hr
    clear hr hn hdr hcl hcm
    cases hso : TJ.sound ⟨kd, ky, tx, kids⟩ with
    | false =>
      rw [hso] at hs
      have hr2 : r = none := by rw [HR.out, TJ.sub.eq_def]; dsimp only; rw [hso]; rfl
      have HR2 := Lib.hid hr2
      clear hso hr2
      go_enter Tryd.func24, Tryd.ntmps24
      go_wp2_with fail
      refine hs.out.mono ?_
      rintro e w1 ⟨rfl, hb1⟩
      go_wp2_with fail
      go_ret
      exact ret_i (by rw [HR2.out]; rfl) hb1
    | true =>
      rw [hso] at hs
      by_cases hky : key = false ∧ ky ≠ []
      · obtain ⟨rfl, hne⟩ := hky
        have hr2 : r = none := by
          rw [HR.out, TJ.sub.eq_def]; dsimp only; rw [hso]
          cases ky with
          | nil => exact absurd rfl hne
          | cons x y => rfl
        have he : (!ky.isEmpty) = true := by
          cases ky with
          | nil => exact absurd rfl hne
          | cons x y => rfl
        have HR2 := Lib.hid hr2
        clear hso hr2 hne
        go_enter Tryd.func24, Tryd.ntmps24
        go_wp2_with fail
        refine hs.out.mono ?_
        rintro e w1 ⟨rfl, hb1⟩
        have d1 := (hb1.cell (World.block_lt_of_cell? w _ HC1.out)).trans HC1.out
        go_wp2_with fail
        go_ret
        exact ret_i (by rw [HR2.out]; rfl) hb1
      · have hpass : key = true ∨ (!ky.isEmpty) = false := by
          cases key with
          | true => exact .inl rfl
          | false =>
            right
            cases ky with
            | nil => rfl
            | cons x y => exact absurd ⟨rfl, by simp⟩ hky
        have hr1 : r = if kd = 6 ∨ kd = 7 then (match D with
            | 0 => none
            | D + 1 => TJ.subs (TJ.sub D (kd = 7)) (kd = 7) kids.toNat [] (l.drop (a + 1))) else some (l.drop (a + 1)) := by
          rw [HR.out, TJ.sub.eq_def]; dsimp only; rw [hso, if_neg (by rcases hpass with rfl | h; · simp
                                                                      · rw [h]; simp)]
          cases D <;> rfl
        have HR1 := Lib.hid hr1
        have HSO := Lib.hid hso
        clear hky hr1 hso HR
        go_enter Tryd.func24, Tryd.ntmps24
        go_upto_region 1 with fail
        go_cut [36] (fun s36 wx => s36 = .bool false ∧ Below w.heap.size w wx)
        case first =>
          rcases hpass with rfl | h
          · go_wp2_with fail
            refine hs.out.mono ?_
            rintro e w1 ⟨rfl, hb1⟩
            go_wp2_with fail
            go_meet
            exact ⟨rfl, hb1⟩
          · cases key with
            | true =>
              go_wp2_with fail
              refine hs.out.mono ?_
              rintro e w1 ⟨rfl, hb1⟩
              go_wp2_with fail
              go_meet
              exact ⟨rfl, hb1⟩
            | false =>
              go_wp2_with fail
              refine hs.out.mono ?_
              rintro e w1 ⟨rfl, hb1⟩
              have d1 := (hb1.cell (World.block_lt_of_cell? w _ HC1.out)).trans HC1.out
              go_wp2_with fail
              go_meet
              exact ⟨rfl, hb1⟩
        case rest =>
          obtain ⟨rfl, hb1⟩ := hcut
          have mv : ∀ (q : Addr) (u : Value), w.cell? q = some u → wc.cell? q = some u := fun q u h => (hb1.cell (World.block_lt_of_cell? w _ h)).trans h
          have d0 := mv _ _ HC0.out
          have d1 := mv _ _ HC1.out
          have d2 := mv _ _ HC2.out
          have d3 := mv _ _ HC3.out
          have HB1 := Lib.hid hb1
          clear mv hb1 c0 c1 c2 c3 HC0 HC1 HC2 HC3 hs
          have hnb : w.heap.size ≤ wc.heap.size := HB1.out.size
          by_cases hk67 : kd = 6 ∨ kd = 7
          · rcases hk67 with rfl | rfl
            · cases D with
              | zero =>
                have hr2 : r = none := HR1.out
                have HR2 := Lib.hid hr2
                have hd64 : (64 : Int) ≤ d := by omega
                clear hr2
                go_wp2_with fail
                go_ret
                exact ret_i (by rw [HR2.out]; rfl) (below_then HB1.out HB1.out.size (below_one _ _))
              | succ D =>
                have hr2 : r = TJ.subs (TJ.sub D false) false kids.toNat [] (l.drop (a + 1)) := HR1.out
                have HR2 := Lib.hid hr2
                have hd64 : ¬ (64 : Int) ≤ d := by omega
                have hkn : 0 ≤ kids := kids_nonneg HSO.out
                have hmm := @run_makeMap Tryd.prog
                have HDD := Lib.hid hd
                clear hr2 hd
                go_wp2_with fail
                clear hmm d0 d1 d2 d3
                go_loopw [11, 58] (SubRel w (.slice (some ⟨b, o, none⟩) l.length cp) l D false kids wc.heap.size (wc.heap.size + 1) #[.int .i64 6, .string ⟨ky.toArray⟩, .string ⟨tx.toArray⟩, .int .i64 kids] r) (fun _ s58 _ => (kids - intOf s58).toNat)
                case atStart => exact ⟨0, 0, a + 1, [], [], rfl, by go_num, hkn, hlt, by omega, below_then HB1.out HB1.out.size ((below_one _ _).alloc (by simp) _), by rw [heap_alloc_old _ _ (by simp), heap_alloc_new], by have := World.ownsMap_made (H := Unit) (wc.alloc (.cells #[.int .i64 6, .string ⟨ky.toArray⟩, .string ⟨tx.toArray⟩, .int .i64 kids] 36)) Tryd.prog 9 (plainElem Tryd.prog 3); simpa [keysD] using this, fun _ => rfl, by rw [HR2.out]; simp⟩
                case round =>
                  obtain ⟨k, kk, tp, keys, ks, rfl, rfl, hkk, htp, hkt, hB, hN, hM, hks, hr⟩ := hrel
                  have HB := Lib.hid hB
                  have HN := Lib.hid hN
                  have HM := Lib.hid hM
                  have HKS := Lib.hid hks
                  have HRR := Lib.hid hr
                  obtain ⟨e0, e1, e2, e3⟩ : wr.cell? ⟨wc.heap.size, 0, none⟩ = some (.int .i64 6) ∧ wr.cell? ⟨wc.heap.size, 1, none⟩ = some (.string ⟨ky.toArray⟩) ∧ wr.cell? ⟨wc.heap.size, 2, none⟩ = some (.string ⟨tx.toArray⟩) ∧ wr.cell? ⟨wc.heap.size, 3, none⟩ = some (.int .i64 kids) :=
                    ⟨(block_cells hN).1 0 _ rfl, (block_cells hN).1 1 _ rfl, (block_cells hN).1 2 _ rfl, (block_cells hN).1 3 _ rfl⟩
                  clear hB hN hM hks hr
                  by_cases hlt2 : (k : Int) < kids
                  · have hcall := Lib.hid (IH.out D rfl l _ tp (d + 1) false wr (HRN.out.below HB.out) HOK.out hlen htp (HT.out.below HB.out HT.out.lt) (by have := HDD.out; omega) (by omega))
                    have hsk : (kids - (k : Int)).toNat = (kids - ((k + 1 : Nat) : Int)).toNat + 1 := by omega
                    have hr2 := HRR.out
                    rw [hsk, TJ.subs] at hr2
                    clear HRR hsk
                    cases hq : TJ.sub D false (l.drop tp) with
                    | none =>
                      rw [hq] at hcall hr2
                      have hr3 : r = none := hr2
                      have HR3 := Lib.hid hr3
                      clear hq hr2 hr3
                      have hm1 : subR l none = -1 := rfl
                      rw [hm1] at hcall
                      clear hm1
                      go_wp2_with fail
                      refine hcall.out.mono ?_
                      rintro e w2 ⟨rfl, hb2⟩
                      have HB2 := Lib.hid (below_then HB.out HB.out.size hb2)
                      clear hb2
                      go_wp2_with fail
                      go_ret
                      exact ret_i (by rw [HR3.out]; rfl) HB2.out
                    | some r1 =>
                      obtain ⟨p, hp, hpl, hpd, hap⟩ := sub_at hq
                      rw [hq, hp] at hcall
                      rw [hq] at hr2
                      have hr3 : r = TJ.subs (TJ.sub D false) false (kids - ((k + 1 : Nat) : Int)).toNat keys (l.drop p) := by rw [hpd]; exact hr2
                      have HR3 := Lib.hid hr3
                      clear hq hr2 hr3 hp hpd
                      go_wp2_with fail
                      refine hcall.out.mono ?_
                      rintro e w2 ⟨rfl, hb2⟩
                      have HB2 := Lib.hid (below_then HB.out HB.out.size hb2)
                      have hblk : ∀ i, i < wr.heap.size → w2.heap[i]? = wr.heap[i]? := hb2.block
                      have hnbl : wc.heap.size < wr.heap.size := World.block_lt_of_cell? wr _ e0
                      have HN2 := Lib.hid ((hblk _ hnbl).trans HN.out)
                      have HM2 := Lib.hid (map_at HM.out (hblk _ HM.out.lt))
                      obtain ⟨g0, g3⟩ : w2.cell? ⟨wc.heap.size, 0, none⟩ = some (.int .i64 6) ∧ w2.cell? ⟨wc.heap.size, 3, none⟩ = some (.int .i64 kids) := ⟨(block_cells HN2.out).1 0 _ rfl, (block_cells HN2.out).1 3 _ rfl⟩
                      clear hb2 hblk e0 e1 e2 e3 hcall
                      go_wp2_with fail
                      go_roundw
                      case rel => exact ⟨k + 1, kk, p, keys, ks, by go_num, rfl, by omega, hpl, by omega, HB2.out, HN2.out, HM2.out, HKS.out, HR3.out⟩
                      case measure => simp [intOf]; omega
                  · have hke : (kids - (k : Int)).toNat = 0 := by omega
                    have hr2 := HRR.out
                    rw [hke, TJ.subs] at hr2
                    have HR3 := Lib.hid hr2
                    clear hr2 hke HRR
                    go_wp2_with fail
                    go_ret
                    exact ret_i (by rw [HR3.out]; simp only [subR, List.length_drop]; omega) HB.out
            · cases D with
              | zero =>
                have hr2 : r = none := HR1.out
                have HR2 := Lib.hid hr2
                have hd64 : (64 : Int) ≤ d := by omega
                clear hr2
                go_wp2_with fail
                go_ret
                exact ret_i (by rw [HR2.out]; rfl) (below_then HB1.out HB1.out.size (below_one _ _))
              | succ D =>
                have hr2 : r = TJ.subs (TJ.sub D true) true kids.toNat [] (l.drop (a + 1)) := HR1.out
                have HR2 := Lib.hid hr2
                have hd64 : ¬ (64 : Int) ≤ d := by omega
                have hkn : 0 ≤ kids := kids_nonneg HSO.out
                have hmm := @run_makeMap Tryd.prog
                have HDD := Lib.hid hd
                clear hr2 hd
                go_wp2_with fail
                clear hmm d0 d1 d2 d3
                go_loopw [11, 58] (SubRel w (.slice (some ⟨b, o, none⟩) l.length cp) l D true kids wc.heap.size (wc.heap.size + 1) #[.int .i64 7, .string ⟨ky.toArray⟩, .string ⟨tx.toArray⟩, .int .i64 kids] r) (fun _ s58 _ => (kids - intOf s58).toNat)
                case atStart => exact ⟨0, 0, a + 1, [], [], rfl, by go_num, hkn, hlt, by omega, below_then HB1.out HB1.out.size ((below_one _ _).alloc (by simp) _), by rw [heap_alloc_old _ _ (by simp), heap_alloc_new], by have := World.ownsMap_made (H := Unit) (wc.alloc (.cells #[.int .i64 7, .string ⟨ky.toArray⟩, .string ⟨tx.toArray⟩, .int .i64 kids] 36)) Tryd.prog 9 (plainElem Tryd.prog 3); simpa [keysD] using this, fun _ => rfl, by rw [HR2.out]; simp⟩
                case round =>
                  obtain ⟨k, kk, tp, keys, ks, rfl, rfl, hkk, htp, hkt, hB, hN, hM, hks, hr⟩ := hrel
                  have HB := Lib.hid hB
                  have HN := Lib.hid hN
                  have HM := Lib.hid hM
                  have HKS := Lib.hid hks
                  have HRR := Lib.hid hr
                  obtain ⟨e0, e1, e2, e3⟩ : wr.cell? ⟨wc.heap.size, 0, none⟩ = some (.int .i64 7) ∧ wr.cell? ⟨wc.heap.size, 1, none⟩ = some (.string ⟨ky.toArray⟩) ∧ wr.cell? ⟨wc.heap.size, 2, none⟩ = some (.string ⟨tx.toArray⟩) ∧ wr.cell? ⟨wc.heap.size, 3, none⟩ = some (.int .i64 kids) :=
                    ⟨(block_cells hN).1 0 _ rfl, (block_cells hN).1 1 _ rfl, (block_cells hN).1 2 _ rfl, (block_cells hN).1 3 _ rfl⟩
                  clear hB hN hM hks hr
                  by_cases hlt2 : (k : Int) < kids
                  · have hcall := Lib.hid (IH.out D rfl l _ tp (d + 1) true wr (HRN.out.below HB.out) HOK.out hlen htp (HT.out.below HB.out HT.out.lt) (by have := HDD.out; omega) (by omega))
                    have hsk : (kids - (k : Int)).toNat = (kids - ((k + 1 : Nat) : Int)).toNat + 1 := by omega
                    have hr2 := HRR.out
                    rw [hsk, TJ.subs] at hr2
                    clear HRR hsk
                    cases hq : TJ.sub D true (l.drop tp) with
                    | none =>
                      rw [hq] at hcall hr2
                      have hr3 : r = none := hr2
                      have HR3 := Lib.hid hr3
                      clear hq hr2 hr3
                      have hm1 : subR l none = -1 := rfl
                      rw [hm1] at hcall
                      clear hm1
                      go_wp2_with fail
                      refine hcall.out.mono ?_
                      rintro e w2 ⟨rfl, hb2⟩
                      have HB2 := Lib.hid (below_then HB.out HB.out.size hb2)
                      clear hb2
                      go_wp2_with fail
                      go_ret
                      exact ret_i (by rw [HR3.out]; rfl) HB2.out
                    | some r1 =>
                      obtain ⟨p, hp, hpl, hpd, hap⟩ := sub_at hq
                      rw [hq, hp] at hcall
                      rw [hq] at hr2
                      have htl : tp < l.length := by omega
                      obtain ⟨x, hx⟩ : ∃ x, x = (l[tp]'htl) := ⟨_, rfl⟩
                      have hhd : (l.drop tp).head!.key = x.key := by rw [List.drop_eq_getElem_cons htl, hx]; rfl
                      rw [hhd] at hr2
                      dsimp only at hr2
                      obtain ⟨-, y1, -, -⟩ := HCM.out tp htl
                      rw [← hx] at y1
                      have hxk := (HOK.out x (by rw [hx]; exact List.getElem_mem htl)).key
                      have hkey : keyOf Tryd.prog 9 (.string ⟨x.key.toArray⟩) = some (.string x.key) := by
                        have := WideMaps.keyOf_string_mk (P := Tryd.prog) Tryd.underlying9 (s := ⟨x.key.toArray⟩) (by show x.key.toArray.size ≤ _; simp [maxLen]; omega)
                        simpa using this
                      have HY := Lib.hid y1
                      have HPD := Lib.hid hpd
                      have HR2' := Lib.hid hr2
                      clear hq hp hhd y1 hx hpd hr2
                      go_wp2_with fail
                      refine hcall.out.mono ?_
                      rintro e w2 ⟨rfl, hb2⟩
                      have HB2 := Lib.hid (below_then HB.out HB.out.size hb2)
                      have hblk : ∀ i, i < wr.heap.size → w2.heap[i]? = wr.heap[i]? := hb2.block
                      have hnbl : wc.heap.size < wr.heap.size := World.block_lt_of_cell? wr _ e0
                      have HN2 := Lib.hid ((hblk _ hnbl).trans HN.out)
                      have hM2 := map_at HM.out (hblk _ HM.out.lt)
                      obtain ⟨g0, g3⟩ : w2.cell? ⟨wc.heap.size, 0, none⟩ = some (.int .i64 7) ∧ w2.cell? ⟨wc.heap.size, 3, none⟩ = some (.int .i64 kids) := ⟨(block_cells HN2.out).1 0 _ rfl, (block_cells HN2.out).1 3 _ rfl⟩
                      have g5 : w2.cell? ⟨b, o + tp * 4 + 1, none⟩ = some (.string ⟨x.key.toArray⟩) := (HB2.out.cell (World.block_lt_of_cell? w _ HY.out)).trans HY.out
                      obtain rfl := HKS.out (by trivial)
                      clear hb2 hblk e0 e1 e2 e3 hcall HM
                      have hr2 := HR2'.out
                      by_cases hc : ks.contains x.key = true
                      · rw [if_pos (by trivial), if_pos hc] at hr2
                        have HR3 := Lib.hid hr2
                        have HC := Lib.hid hc
                        clear hr2 hc HR2'
                        go_wp2_with (at_lookup; go_must (refine wpList_lookup_own_int _ rfl _ _ 68 rfl 9 3 .i64 law9 Tryd.underlying68 Tryd.underlying3 (zero3 _) (wc.heap.size + 1) kk _ rfl hM2 _ _ rfl hkey ?_); intro c hat hwc; obtain rfl : c = 1 := by rw [look_c hat, if_pos HC.out])
                        go_ret
                        exact ret_i (by rw [HR3.out]; rfl) HB2.out
                      · rw [if_pos (by trivial), if_neg hc] at hr2
                        have HR3 := Lib.hid hr2
                        have HC := Lib.hid hc
                        clear hr2 hc HR2'
                        go_wp2_with (first
                          | (at_lookup; go_must (refine wpList_lookup_own_int _ rfl _ _ 68 rfl 9 3 .i64 law9 Tryd.underlying68 Tryd.underlying3 (zero3 _) (wc.heap.size + 1) kk _ rfl hM2 _ _ rfl hkey ?_); intro c hat hwc; obtain rfl : c = 0 := by rw [look_c hat, if_neg HC.out])
                          | (at_mapUpdate; go_must (refine wpList_mapUpdate_own _ rfl _ _ _ 68 rfl 9 3 law9 Tryd.underlying68 _ (wc.heap.size + 1) kk _ rfl hM2 (by unfold maxLen; omega) _ _ _ rfl rfl hkey _ [] (plainElem_int Tryd.underlying3 (by decide)) ?_); intro w6 hm6 hg6))
                        have HB6 := Lib.hid (HB2.out.grown hg6 HB2.out.size (fun j hj => by cases hj; omega))
                        have hnbl2 : wc.heap.size < w2.heap.size := World.block_lt_of_cell? w2 _ g0
                        have HN6 := Lib.hid ((hg6.block _ hnbl2 (by intro e; have := Option.some.inj e; omega)).trans HN2.out)
                        have HM6 := Lib.hid hm6
                        have g6 : w6.cell? ⟨wc.heap.size, 3, none⟩ = some (.int .i64 kids) := (block_cells HN6.out).1 3 _ rfl
                        clear hm6 hg6 hat hwc hM2 g0 g3 g5
                        go_wp2_with fail
                        go_roundw
                        case rel => exact ⟨k + 1, kk + 1, p, x.key :: ks, x.key :: ks, by go_num, rfl, by omega, hpl, by omega, HB6.out, HN6.out, HM6.out, fun _ => rfl, by rw [HR3.out, HPD.out]⟩
                        case measure => simp [intOf]; omega
                  · have hke : (kids - (k : Int)).toNat = 0 := by omega
                    have hr2 := HRR.out
                    rw [hke, TJ.subs] at hr2
                    have HR3 := Lib.hid hr2
                    clear hr2 hke HRR
                    go_wp2_with fail
                    go_ret
                    exact ret_i (by rw [HR3.out]; simp only [subR, List.length_drop]; omega) HB.out
          · have hr2 : r = some (l.drop (a + 1)) := by rw [HR1.out, if_neg hk67]
            have HR2 := Lib.hid hr2
            have q6 : (kd != 6) = true := by rw [bne_iff_ne]; omega
            have q7 : (kd != 7) = true := by rw [bne_iff_ne]; omega
            clear hk67 hr2
            go_wp2_with fail
            go_ret
            exact ret_i (by rw [HR2.out]; simp only [subR, List.length_drop]; first | done | omega) (below_then HB1.out HB1.out.size (below_one _ _))
  · have hlt' : (l.length : Int) ≤ (a : Int) := by omega
    have hr2 : r = none := by rw [hr, List.drop_eq_nil_of_le (by omega), TJ.sub.eq_def]
    have HR := Lib.hid hr2
    clear hr hr2 hcl
    go_enter Tryd.func24, Tryd.ntmps24
    go_wp2_with fail
    go_ret
    exact ret_i (by rw [HR.out]; rfl) (Below.refl _ _)
theorem sub_all (D : Nat) : SubC D := by
  induction D with
  | zero => exact sub_calls 0 (fun D' h => by omega)
  | succ D ih => exact sub_calls (D + 1) (fun D' h => by cases h; exact ih)
set_option maxRecDepth 100000 in
set_option maxHeartbeats 2000000 in
theorem Shaped_calls (l : List TJ.N) (v : Value) (w : World) (hRN : RN w v l) (hok : ∀ x ∈ l, NOk x) (hlen : l.length ≤ 4194304) (hT : Tabs w) :
    Calls Tryd.prog 12 #[v] w fun e w' => e = .returned (.bool (TJ.shaped l)) ∧ Below w.heap.size w w' := by
  have hs := Lib.hid (sub_all 64 l v 0 0 false w hRN hok hlen (Nat.zero_le _) hT (by omega) (by omega))
  obtain ⟨r, hr⟩ : ∃ r, r = TJ.shaped l := ⟨_, rfl⟩
  rw [← hr]
  obtain ⟨ad, cp, rfl, hcp, -⟩ := hRN
  unfold TJ.shaped at hr
  cases l with
  | nil =>
    have hr2 : r = false := hr
    have HR := Lib.hid hr2
    clear hr hr2 hs hok hT
    go_enter Tryd.func12, Tryd.ntmps12
    go_wp2_with fail
    go_ret
    exact ret_b' HR.out.symm (Below.refl _ _)
  | cons n l =>
    have hpos : (0 : Int) < (((n :: l).length : Nat) : Int) := by simp <;> omega
    obtain ⟨L, hL⟩ : ∃ L, L = (n :: l).length := ⟨_, rfl⟩
    rw [← hL] at hpos hcp hlen
    have he : (subR (n :: l) (TJ.sub 64 false (n :: l)) == (L : Int)) = r := by
      rw [hr, hL]
      cases hq : TJ.sub 64 false (n :: l) with
      | none => simp [subR]; omega
      | some q =>
        rw [Bool.eq_iff_iff, beq_iff_eq, beq_iff_eq, Option.some.injEq]
        simp only [subR]
        constructor
        · intro h
          exact List.eq_nil_of_length_eq_zero (by omega)
        · intro h; subst h; simp
    rw [List.drop_zero] at hs
    generalize subR (n :: l) (TJ.sub 64 false (n :: l)) = x at *
    clear hr hok hT
    rw [← hL] at *
    go_enter Tryd.func12, Tryd.ntmps12
    go_wp2_with fail
    refine hs.out.mono ?_
    rintro e w1 ⟨rfl, hb⟩
    go_wp2_with fail
    go_ret
    exact ⟨rfl, hb⟩
end Go.Proofs.YtdhdeaknflekpaaDoor
