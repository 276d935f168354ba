/- The walks of a hash state: Sum, Len, Copy; the sum of bytes; its parts. -/
import Derived.Test.YthhdipfadnihjaaHashE
import Derived.Laws.MakeOwn
import Derived.Deep.RegionWith
import Derived.Deep.Cut
namespace Go.Proofs.Ythhdipfadnihjaa
open Go Go.RowKit

theorem made_bytes (k : Nat) (hk : k ≤ 1000) (w : World) : (Instr.makeSlice 70 (.int .i64 (k : Int)) (.int .i64 (k : Int))).run Try.prog w =
    .ok (.slice (some ⟨w.heap.size, 0, none⟩) k k) (w.alloc (.cells (Array.replicate k (vb 0#8)) 5)) := by
  obtain ⟨i0, hi0, hz0, hz1, hz2⟩ := info_parts (elem_u8).info
  have h := run_makeSlice (P := Try.prog) (w := w) 70 5 i0 (.int .u8 0) (elem_u8).under hi0 hz0 .i64 .i64 (k : Int) (k : Int) (by omega) (by omega) (by rw [hz1]; simp; omega) (by rw [hz2]; simp; omega) (by omega)
  rw [h, hz1]
  have e : madeCells (Value.int .u8 0).cells ((k : Int).toNat * 1) = Array.replicate k (vb 0#8) := by
    apply Array.ext
    · simp [madeCells]
    · intro i h1 h2
      simp [madeCells, Value.cells, Nat.mod_one]
  rw [e]
  simp

def byteN (n : Nat) : BitVec 8 := BitVec.ofNat 8 n
def lastL (left : List (BitVec 8)) (many : Nat) : List (BitVec 8) := (left ++ List.replicate (8 - left.length) 0#8).set 7 (byteN many)
theorem lastL_len (left : List (BitVec 8)) (many : Nat) (h : left.length ≤ 8) : (lastL left many).length = 8 := by simp [lastL]; omega
def finV (vs : List (BitVec 64)) : List (BitVec 64) := roundsL 4 (vs.set 2 (xorw (hget vs 2) 255#64))
def outV (vs : List (BitVec 64)) : BitVec 64 := xorw (xorw (xorw (hget vs 0) (hget vs 1)) (hget vs 2)) (hget vs 3)
def sumV (vs : List (BitVec 64)) (left : List (BitVec 8)) (many : Nat) : BitVec 64 := outV (finV (takeV vs (wordOf (lastL left many))))
theorem vs4 (vs : List (BitVec 64)) (h : vs.length = 4) : vs = [hget vs 0, hget vs 1, hget vs 2, hget vs 3] := by
  match vs, h with
  | [a, b, c, d], _ => rfl

/-- What Sum knows when its last word's bytes are laid. -/
structure SumMid (w : World) (B : Nat) (vs : List (BitVec 64)) (left : List (BitVec 8)) (many : Nat) (p : Option Addr) (cap g c : Nat) (wx : World) : Prop where
  own : wx.ownsRow (w.heap.size + 1) 5 1 (.slice (some ⟨g, 0, none⟩) 8 c) 8 ((left ++ List.replicate (8 - left.length) 0#8).map vb)
  st : HSt wx B vs left many p cap
  hd : Hd wx w.heap.size 126 vs []
  bl : Below w.heap.size w wx
  c8 : 8 ≤ c
  cm : c ≤ 9223372036854775807
  gg : w.heap.size < g
def SumMidV (w : World) (B : Nat) (vs : List (BitVec 64)) (left : List (BitVec 8)) (many : Nat) (p : Option Addr) (cap : Nat) (v : Value) (wx : World) : Prop := ∃ g c, v = .slice (some ⟨g, 0, none⟩) 8 c ∧ SumMid w B vs left many p cap g c wx

set_option maxRecDepth 100000 in
set_option maxHeartbeats 4000000 in
theorem hsum_any (B : Nat) (vs : List (BitVec 64)) (left : List (BitVec 8)) (many : Nat) (p : Option Addr) (cap : Nat) (w : World) (h : HSt w B vs left many p cap) (hl : left.length < 8) (_hm : many ≤ 100000000) :
    Calls Try.prog 36 #[.pointer (some ⟨B, 0, none⟩)] w fun e w' => e = .returned (vw (sumV vs left many)) ∧ Below w.heap.size w w' := by
  have hBl := h.hd.lt
  have hlen := h.len
  have c0 := h.hd.cell 0 (by omega)
  have c1 := h.hd.cell 1 (by omega)
  have c2 := h.hd.cell 2 (by omega)
  have c3 := h.hd.cell 3 (by omega)
  have c4 := h.c4
  have c5 := h.c5
  have c6 := h.c6
  have HW := Lib.hid h
  have HLN := Lib.hid hlen
  clear h hlen
  go_enter Try.func36, Try.ntmps36
  go_wp2_with fail
  refine (none_made B _ c6).mono ?_
  rintro e w1 ⟨rfl, rfl⟩
  go_wp2_with fail
  obtain ⟨wv, hwv⟩ : ∃ wv, w.alloc (Obj.cells #[vw (hget vs 0), vw (hget vs 1), vw (hget vs 2), vw (hget vs 3)] 126) = wv := ⟨_, rfl⟩
  have hbv : Below w.heap.size w wv := by rw [← hwv]; exact (Below.refl _ _).alloc (Nat.le_refl _) _
  have hzv : wv.heap.size = w.heap.size + 1 := by rw [← hwv]; simp
  have hdv : Hd wv w.heap.size 126 vs [] := by
    have := World.alloc_heap_new w (Obj.cells #[vw (hget vs 0), vw (hget vs 1), vw (hget vs 2), vw (hget vs 3)] 126)
    rw [hwv] at this
    rw [vs4 vs HLN.out]
    exact this
  have hsv := HW.out.below hbv
  have hk : IntKind.i64.wrap (8 - (left.length : Int)) = ((8 - left.length : Nat) : Int) := by rw [IntWalk.i64_in _ (by omega)]; omega
  obtain ⟨k, hk'⟩ : ∃ k, 8 - left.length = k := ⟨_, rfl⟩
  rw [hk'] at hk
  have hk8 : k ≤ 8 := by omega
  have hmk := fun W : World => made_bytes k (by omega) W
  have d4 := hsv.c4
  have d5 := hsv.c5
  rw [show Value.int IntKind.u64 ((hget vs 0).toNat : Int) = vw (hget vs 0) from rfl, show Value.int IntKind.u64 ((hget vs 1).toNat : Int) = vw (hget vs 1) from rfl, show Value.int IntKind.u64 ((hget vs 2).toNat : Int) = vw (hget vs 2) from rfl, show Value.int IntKind.u64 ((hget vs 3).toNat : Int) = vw (hget vs 3) from rfl, hwv]
  obtain ⟨wc, hwc⟩ : ∃ wc, ((wv.alloc (Obj.cells (Array.replicate k (vb 0#8)) 5)).alloc (Obj.cells #[Value.slice p left.length cap, Value.slice (some ⟨w.heap.size + 1, 0, none⟩) k k] 70)).drew = wc := ⟨_, rfl⟩
  have hcat : Calls Try.prog 72 #[.slice (some ⟨w.heap.size + 2, 0, none⟩) 2 2] wc (RetOwn 5 vb (left ++ List.replicate k 0#8) wc) := by
    have hbc : Below wv.heap.size wv wc := by rw [← hwc]; exact (((Below.refl _ _).alloc (Nat.le_refl _) _).alloc (by simp) _).drew
    have hzc : wc.heap.size = w.heap.size + 3 := by rw [← hwc]; show (World.heap (World.alloc _ _)).size = _; simp [hzv]
    have g1 : wc.heap[w.heap.size + 2]? = some (.cells #[Value.slice p left.length cap, Value.slice (some ⟨w.heap.size + 1, 0, none⟩) k k] 70 (0, 0)) := by
      rw [← hwc]
      have := World.alloc_heap_new (wv.alloc (Obj.cells (Array.replicate k (vb 0#8)) 5)) (Obj.cells #[Value.slice p left.length cap, Value.slice (some ⟨w.heap.size + 1, 0, none⟩) k k] 70)
      rw [World.size_alloc, hzv] at this
      exact this
    have g2 : wc.heap[w.heap.size + 1]? = some (.cells ((List.replicate k 0#8).map vb).toArray 5 (0, 0)) := by
      rw [← hwc]
      have := World.alloc_heap_new wv (Obj.cells (Array.replicate k (vb 0#8)) 5)
      rw [hzv] at this
      rw [show ((List.replicate k 0#8).map vb).toArray = Array.replicate k (vb 0#8) by simp]
      exact (Below.heap_alloc _ _ _ (by simp [hzv])).trans this
    have r2 := rdl_block vb (List.replicate k 0#8) g2 (by simp [maxLen]; omega)
    have := concat2_any (w.heap.size + 2) 2 p (some ⟨w.heap.size + 1, 0, none⟩) cap k left (List.replicate k 0#8) wc (by simp [World.cell?, g1]) (by simp [World.cell?, g1])
      (hsv.rd.on hbc) (by simpa using r2) (by omega) (by simp; omega)
    exact this
  have HCAT := Lib.hid hcat
  have HSV := Lib.hid hsv
  have HDV := Lib.hid hdv
  have HBV := Lib.hid hbv
  have HWC := Lib.hid hwc
  have HKE := Lib.hid hk'
  clear hcat hsv hdv hbv hwc hwv c0 c1 c2 c3 c4 c5 c6 hk'
  go_cut [4] from 11 (fun s4 wx => SumMidV w B vs left many p cap s4 wx)
  case first =>
    go_region_with (first
      | (go_at_call 72
         rw [HWC.out]
         refine HCAT.out.mono ?_
         rintro e w2 ⟨v, rfl, hown, hb2⟩
         have HO := Lib.hid hown
         have HB2 := Lib.hid hb2
         clear hown hb2))
    all_goals
      go_wp2_with fail
      go_meet
      have hbvc : Below wv.heap.size wv wc := by rw [← HWC.out]; exact (((Below.refl _ _).alloc (Nat.le_refl _) _).alloc (by simp) _).drew
      have hb := hbvc.trans (HB2.out.mono hbvc.size)
      obtain ⟨g, c, rfl, hg, hc8, hcm⟩ := own_pos HO.out (by simp; have := HKE.out; omega)
      have hlen8 : (left ++ List.replicate k 0#8).length = 8 := by have := HKE.out; simp; omega
      refine ⟨g, c, by rw [hlen8], ?_, HSV.out.below hb, HDV.out.kept (hb.block _ (by omega)), HBV.out.trans (hb.mono (by omega)), by omega, hcm, by have := hbvc.size; omega⟩
      have ho := own_wide HO.out (base' := w.heap.size + 1) (by have := hbvc.size; omega)
      rw [hlen8] at ho
      rw [HKE.out]
      exact ho
  obtain ⟨g, c, rfl, hmid⟩ := hcut
  have hll : (left ++ List.replicate (8 - left.length) 0#8).length = 8 := by simp; omega
  have m5 := hmid.st.c5
  have mo : wc.ownsRow (w.heap.size + 1) 5 1 (.slice (some ⟨g, 0, none⟩) 8 c) (left ++ List.replicate (8 - left.length) 0#8).length ((left ++ List.replicate (8 - left.length) 0#8).map vb) := by rw [hll]; exact hmid.own
  obtain ⟨b7, m7⟩ : ∃ b7, wc.cell? ⟨g, 7, none⟩ = some (vb b7) := ⟨_, own_at (n := 8) hmid.own 7 (by omega)⟩
  have mf : wc.frozen? ⟨g, 7, none⟩ = false := hmid.own.frozenAt 7
  have e8 : (many : Int) % 256 = ((byteN many).toNat : Int) := by simp [byteN]
  have hc8 := hmid.c8
  have hcm := hmid.cm
  have hset := own_set (n := 8) hmid.own 7 (byteN many)
  have HMID := Lib.hid hmid
  have HSET := Lib.hid hset
  have HLL := Lib.hid hll
  clear hmid hset hll mo HCAT HWC HKE HDV HSV HBV hmk hk hk8 d4 d5
  go_wp2_with fail
  obtain ⟨wd, hwd⟩ : ∃ wd, wc.setCell ⟨g, 7, none⟩ (Value.int IntKind.u8 ((byteN many).toNat : Int)) = wd := ⟨_, rfl⟩
  have hown : wd.ownsRow (w.heap.size + 1) 5 1 (.slice (some ⟨g, 0, none⟩) 8 c) (lastL left many).length ((lastL left many).map vb) := by
    rw [lastL_len _ _ (by omega), ← hwd]; exact HSET.out
  have hgg := HMID.out.gg
  have hgn : w.heap.size ≠ g := by omega
  have hgl : w.heap.size ≤ g := by omega
  have hdd : Hd wd w.heap.size 126 vs [] := by rw [← hwd]; exact HMID.out.hd.kept (Below.heap_setCell wc ⟨g, 7, none⟩ _ w.heap.size hgn)
  have hbd : Below w.heap.size w wd := by rw [← hwd]; exact HMID.out.bl.setCell (p := ⟨g, 7, none⟩) hgl _
  obtain ⟨pl, cl, hpl, hrl, _⟩ := rdl_of_owns hown
  rw [lastL_len _ _ (by omega)] at hpl
  cases hpl
  rw [hwd]
  have hlay := lay_any (some ⟨g, 0, none⟩) c (lastL left many) wd hrl (by rw [lastL_len _ _ (by omega)]; omega)
  rw [lastL_len _ _ (by omega)] at hlay
  have hl1 : layL (lastL left many) = [wordOf (lastL left many)] := by
    have := layL_append8 (lastL left many) [] (lastL_len _ _ (by omega))
    simpa [layL_nil] using this
  rw [hl1] at hlay
  have HLAY := Lib.hid hlay
  have HDD := Lib.hid hdd
  have HBD := Lib.hid hbd
  clear hlay hdd hbd hown hrl hwd hl1 m5 m7 mf e8
  refine HLAY.out.mono ?_
  rintro e w3 ⟨v, rfl, hown, hb3⟩
  obtain ⟨g3, c3, rfl, hg3, hc3, hc3m⟩ := own_pos hown (by simp)
  have hcw := own_at hown 0 (by simp)
  simp only [List.getElem_cons_zero] at hcw
  have hd3 := HDD.out.kept (hb3.block w.heap.size HDD.out.lt)
  have hb3' := HBD.out.trans (hb3.mono HBD.out.size)
  have htk := takes_any w.heap.size 126 vs [] (wordOf (lastL left many)) w3 hd3 HLN.out
  have HTK := Lib.hid htk
  have HB3 := Lib.hid hb3'
  clear hown hb3 hd3 hb3' htk HLAY
  go_wp2_with fail
  refine HTK.out.mono ?_
  rintro e w4 ⟨rfl, hd4, hf4⟩
  have hl4 : (takeV vs (wordOf (lastL left many))).length = 4 := by rw [takeV_len]; exact HLN.out
  have k2 := hd4.cell 2 (by omega)
  have j2 := hd4.free 2
  have e2 : bits BinOp.xor IntKind.u64 ((hget (takeV vs (wordOf (lastL left many))) 2).toNat : Int) 255 = ((xorw (hget (takeV vs (wordOf (lastL left many))) 2) 255#64).toNat : Int) := bits_xor_w _ 255#64
  obtain ⟨v4, hv4⟩ : ∃ v4, takeV vs (wordOf (lastL left many)) = v4 := ⟨_, rfl⟩
  rw [hv4] at hd4 hl4 k2 e2
  have HV4 := Lib.hid hv4
  have HD4 := Lib.hid hd4
  have HF4 := Lib.hid hf4
  have HL4 := Lib.hid hl4
  clear hd4 hf4 hv4 hl4 HTK hcw
  go_wp2_with fail
  obtain ⟨w5, hw5⟩ : ∃ w5, w4.setCell ⟨w.heap.size, 2, none⟩ (Value.int IntKind.u64 ((xorw (hget v4 2) 255#64).toNat : Int)) = w5 := ⟨_, rfl⟩
  have hd5 : Hd w5 w.heap.size 126 (v4.set 2 (xorw (hget v4 2) 255#64)) [] := by rw [← hw5]; exact HD4.out.set 2 (by rw [HL4.out]; decide) _
  have hf5 : Frn (fun b => b = w.heap.size) w3 w5 := by rw [← hw5]; exact HF4.out.setCell ⟨w.heap.size, 2, none⟩ (.inl rfl) _
  rw [hw5]
  have hro := rounds_any w.heap.size 4 126 _ [] w5 hd5 (by simp [HL4.out]) (by omega)
  have HRO := Lib.hid hro
  have HF5 := Lib.hid hf5
  clear hw5 hd5 hf5 hro k2 j2 e2
  refine HRO.out.mono ?_
  rintro e w6 ⟨rfl, hd6, hf6⟩
  have hl6 : (roundsL 4 (v4.set 2 (xorw (hget v4 2) 255#64))).length = 4 := by rw [roundsL_len]; simp [HL4.out]
  obtain ⟨v6, hv6⟩ : ∃ v6, roundsL 4 (v4.set 2 (xorw (hget v4 2) 255#64)) = v6 := ⟨_, rfl⟩
  rw [hv6] at hd6 hl6
  have HV6 := Lib.hid hv6
  have q0 := hd6.cell 0 (by omega)
  have q1 := hd6.cell 1 (by omega)
  have q2 := hd6.cell 2 (by omega)
  have q3 := hd6.cell 3 (by omega)
  have x1 := bits_xor_w (hget v6 0) (hget v6 1)
  have x2 := bits_xor_w (xorw (hget v6 0) (hget v6 1)) (hget v6 2)
  have x3 := bits_xor_w (xorw (xorw (hget v6 0) (hget v6 1)) (hget v6 2)) (hget v6 3)
  have HF6 := Lib.hid hf6
  clear hd6 hl6 hv6 hf6 HRO
  go_wp2_with fail
  go_ret
  refine ⟨?_, ?_⟩
  · have : sumV vs left many = xorw (xorw (xorw (hget v6 0) (hget v6 1)) (hget v6 2)) (hget v6 3) := by
      simp only [sumV, finV, outV, HV4.out, HV6.out]
    rw [this]; rfl
  · exact HB3.out.trans ((HF5.out.trans HF6.out).below HB3.out.size (by rintro b rfl; exact Nat.le_refl _))

end Go.Proofs.Ythhdipfadnihjaa
