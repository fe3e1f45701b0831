/- seepagelaw02.ArenaCopies returns true for every number of slots and every list of bytes; its arguments read as before. No condition. -/
import Derived.Test.YtljcedlmnbofaaaL2CopyP
namespace Go.Proofs.Ytljcedlmnbofaaa
open Go.ChangeShapes Go.WideShapes Go.ChangeAt Go.RowKit
namespace ArenaCopies

/-- Behind the first loops: the copy's list is freed, then the arena is used up. -/
structure Facts (A : Ar) (r : Nat) : Prop where
  ok : A.Ok
  r : r = A.slots - A.list.length
  le : A.list.length ≤ A.slots

set_option maxRecDepth 100000 in
set_option maxHeartbeats 4000000 in
theorem walk (slots : Nat) (hs : slots < 256) (a : Option Addr) (len cap : Nat) (zs : List Int) (w : World) (hin : IntsIn w .u8 a len cap zs) :
    Calls Try.prog 9 #[.int .u8 slots, .slice a len cap] w fun e w' => e = .returned (.bool true) ∧ Below w.heap.size w w' := by
  have HP := Lib.hid (l2play_in slots hs a len cap zs w hin)
  clear hin
  go_enter Try.func9, Try.ntmps9
  go_wp2_with fail
  refine HP.out.mono ?_
  rintro e w1 ⟨b, lb, s, rfl, ha, hinv⟩
  obtain ⟨A, allocs, frees⟩ := s
  have hok := ha.ar.ok
  have hslots := hok.slots
  have hll := Ar.list_len hok
  have hfs := hok.fresh
  simp only at hok hslots hll hfs
  obtain ⟨r, hr⟩ : ∃ r, r = A.slots - A.list.length := ⟨_, rfl⟩
  have hrl : r + A.list.length = A.slots := by omega
  have HOK := Lib.hid hok
  have HRR := Lib.hid hr
  have HA := Lib.hid ha
  have hlA : ∀ x ∈ A.list, x < A.slots := fun x hx => by simpa using (List.mem_filter.1 hx).1
  have HLA := Lib.hid hlA
  have HND := Lib.hid (show A.list.Nodup from List.Pairwise.filter _ List.nodup_range)
  clear ha hinv hok hll hfs hr hlA
  go_wp2_with fail
  refine HA.out.copy.mono ?_
  rintro e w2 ⟨b2, lb2, rfl, ha2, hb2, hl2, ha1, hbl⟩
  have HA2 := Lib.hid ha2
  have HA1 := Lib.hid ha1
  have hbb := HA.out.ar.b_lt
  have hlb := HA.out.hlt
  have hne : b ≠ b2 ∧ b ≠ lb2 ∧ lb ≠ b2 ∧ lb ≠ lb2 := by omega
  clear ha2 ha1 hbl
  go_wp2_with fail
  refine HA2.out.list.mono ?_
  rintro e w3 ⟨l1, c1, rfl, hl1, hi1, ha3, hb3⟩
  have HA3 := Lib.hid ha3
  have HA13 := Lib.hid (HA1.out.below hb3)
  have HI1 := Lib.hid hi1
  clear hl1 hi1 ha3 hb3
  go_wp2_with fail
  refine HA13.out.list.mono ?_
  rintro e w4 ⟨l2, c2, rfl, hl2, hi2, ha4, hb4⟩
  have HA4 := Lib.hid ha4
  have HA24 := Lib.hid (HA3.out.below hb4)
  have HS := Lib.hid (l2same_any (HI1.out.of_below hb4) hi2)
  clear hl2 hi2 ha4 hb4
  go_wp2_with (go_at_call 26; refine HS.out.mono ?_; rintro e w5 ⟨rfl, q, rfl⟩)
  have HA5 := Lib.hid (HA4.out.drewN q)
  have HA25 := Lib.hid (HA24.out.drewN q)
  have hbs := HA5.out.ar.b_lt
  have hls := HA5.out.hlt
  have hbs2 := HA25.out.ar.b_lt
  have hls2 := HA25.out.hlt
  generalize w4.drewN q = w5 at *
  refine HA5.out.list.mono ?_
  rintro e w6 ⟨la, lc, rfl, hla, hli, ha6, hb6⟩
  have hsz6 := hb6.size
  have HC0 := Lib.hid (show CRel w w6 w6 b lb b2 lb2 A (A.drain 0).1 la lc A.list (.slice none 0 0) (A.drain 0).2 from
    ⟨ha6, HA25.out.below hb6, hli, fun ad had => by
      have h1 := hla ad had
      omega, by simpa [ints, Ar.drain] using World.ownsRow_nil w6 w6.heap.size 3 1, hne, by omega, Nat.le_refl _⟩)
  clear hla hli ha6 hb6
  go_wp2
  go_loopw [11, 12] (fun v vk wr => ∃ k : Nat, k ≤ r ∧ vk = .int .i64 k ∧ CRel w w6 wr b lb b2 lb2 A (A.drain k).1 la lc A.list v (A.drain k).2) (fun _ vk _ => r + 1 - (intOf vk).toNat)
  case atStart => exact ⟨0, Nat.zero_le _, rfl, HC0.out⟩
  case round =>
    obtain ⟨k, hk, rfl, hrel⟩ := hrel
    have HR := Lib.hid hrel
    clear hrel
    have HCAP := Lib.hid HR.out.a1.cap
    by_cases hlt : k < r
    · obtain ⟨i, hi1, hi2, hi3⟩ := Ar.drain_next HOK.out (show k < A.slots - A.list.length by omega)
      have HAL := Lib.hid (HR.out.a2.alloc hi1)
      have HD := Lib.hid hi3
      have hlen := (Ar.drain_inv HOK.out k (by omega)).2.2.2
      have HLEN := Lib.hid hlen
      have hsz := HR.out.sz
      have hl500 : (A.drain k).2.length ≤ 65536 := by omega
      clear hi1 hi3 hlen
      go_wp2_with (first
        | (go_at_call 25; refine HCAP.out.mono ?_; rintro e w7 ⟨rfl, rfl⟩)
        | (go_at_call 18; refine HAL.out.mono ?_; rintro e w7 ⟨rfl, ha7, hu7⟩; have hsz7 := hu7.size; have HR7 := Lib.hid (HR.out.upd2 ha7 hu7); have hown := HR7.out.own; clear ha7 hu7)
        | (at_builtin; refine wpList_append1 _ _ 32 rfl rfl infoInt Try.underlying32 rfl (by decide) rfl rfl (hown.alloc _) rfl (cell_one (u := .int .i64 i) (ad := ⟨w7.heap.size, 0, none⟩) (by simp)) (one_oneCell rfl) (by unfold maxLen; omega) (by omega) (by simp; omega) ?_; intro v' w8 hown8 hgr8 _))
      have HR8 := Lib.hid (HR7.out.app hown8 hgr8)
      clear hown hown8 hgr8
      go_roundw
      case rel => exact ⟨k + 1, by omega, by simp, by rw [HD.out]; exact HR8.out⟩
      case measure => simp [intOf]; omega
    · have hkr : k = r := by omega
      have HR2 : CRel w w6 wr b lb b2 lb2 A (A.drain r).1 la lc A.list u11 (A.drain r).2 := by have h := HR.out; rw [hkr] at h; exact h
      have hend : (A.drain r).1.next = none := by have h := Ar.drain_end HOK.out; rw [← HRR.out] at h; exact h
      have HEND := Lib.hid hend
      have hlen := (Ar.drain_inv HOK.out r (by omega)).2.2.2
      have hgl := Ar.drain_lt HOK.out r (by omega)
      have hpre := Ar.drain_prefix HOK.out r (by omega)
      obtain ⟨g, hg⟩ : ∃ g, g = (A.drain r).2 := ⟨_, rfl⟩
      obtain ⟨C, hC⟩ : ∃ C, C = (A.drain r).1 := ⟨_, rfl⟩
      rw [← hg] at HR2 hlen hgl hpre
      rw [← hC] at HR2 HEND
      have HPRE := Lib.hid hpre
      have HGL := Lib.hid hgl
      have HAL := Lib.hid (aAlloc_none HR2.a2.ar HEND.out)
      have hCs : C.slots = A.slots := by rw [hC]; exact (Ar.drain_inv HOK.out r (by omega)).2.1
      have HCS := Lib.hid hCs
      obtain ⟨av, cv, rfl, hav, hiv⟩ := ints_of_owns HR2.own (fun x hx => by have := hgl x hx; omega)
      have HRF := Lib.hid HR2
      have hcv := hiv.hle
      have hcm := hiv.hmax
      have hgr : g.length = r := hlen
      have hlc := HRF.out.li.hle
      have hlm := HRF.out.li.hmax
      clear hav hiv HR2 hend hg hC hkr HR hlen hgl hpre hCs
      go_wp2_with fail
      refine HCAP.out.mono ?_
      rintro e w7 ⟨rfl, rfl⟩
      go_wp2_with fail
      refine HAL.out.mono ?_
      rintro e w7 ⟨rfl, q7, rfl⟩
      have HR7 := Lib.hid (HRF.out.drewN q7)
      generalize wr.drewN q7 = w7 at *
      clear HAL HCAP HRF
      go_wp2_with fail
      refine HR7.out.a1.list.mono ?_
      rintro e w8 ⟨l8, c8, rfl, hl8, hi8, ha8, hb8⟩
      have HR8 := Lib.hid (HR7.out.below hb8)
      have HS8 := Lib.hid (l2same_any hi8 HR8.out.li)
      clear hl8 hi8 ha8 hb8
      go_wp2_with fail
      refine HS8.out.mono ?_
      rintro e w9 ⟨rfl, q9, rfl⟩
      have HR9 := Lib.hid (HR8.out.drewN q9)
      generalize w8.drewN q9 = w9 at *
      have hsub : (A.slots : Int) - (A.list.length : Int) = (g.length : Int) := by omega
      go_wp2_with (go_at_call 25; refine HR9.out.a1.cap.mono ?_; rintro e w10 ⟨rfl, rfl⟩)
      go_loopw [15] (fun vk wr => ∃ k : Nat, k ≤ A.list.length ∧ vk = .int .i64 k ∧ CRel w w6 wr b lb b2 lb2 A (C.freeAll (A.list.take k)) la lc A.list (.slice av g.length cv) g) (fun vk _ => A.list.length - (intOf vk).toNat)
      case atStart => exact ⟨0, Nat.zero_le _, rfl, by simpa [Ar.freeAll] using HR9.out⟩
      case round =>
        obtain ⟨k, hk, rfl, hrel⟩ := hrel
        have HQ := Lib.hid hrel
        clear hrel
        by_cases hlt : k < A.list.length
        · obtain ⟨bl, ol, rfl, _, d⟩ := HQ.out.li.hcell k hlt
          rw [map_getD] at d
          have HFU : Hid ((C.freeAll (A.list.take k)).used (A.list.getD k 0) = true) := Ar.freeAll_used HR9.out.a2.ar.ok HEND.out (fun x hx => by rw [HCS.out]; exact HLA.out x hx) HND.out hlt
          have HFR := Lib.hid (HQ.out.a2.free HFU.out)
          have HSU := Lib.hid (Ar.freeAll_succ C A.list hlt)
          generalize A.list.getD k 0 = x at *
          go_wp2_with (go_at_call 16; refine HFR.out.mono ?_; rintro e w10 ⟨rfl, ha, hu⟩; rw [HSU.out] at ha; have HQ2 := Lib.hid (HQ.out.upd2 ha hu); clear ha hu)
          go_roundw
          case rel => exact ⟨k + 1, by omega, by simp, HQ2.out⟩
          case measure => simp [intOf]; omega
        · have hkl : k = A.list.length := by omega
          have HQE := Lib.hid (show CRel w w6 wr b lb b2 lb2 A (C.freeAll A.list) la lc A.list (.slice av g.length cv) g by
            have h := HQ.out
            rw [hkl, List.take_length] at h
            exact h)
          clear hkl HQ
          go_wp2_with fail
          refine HQE.out.a1.list.mono ?_
          rintro e w10 ⟨l10, c10, rfl, hl10, hi10, ha10, hb10⟩
          have HR10 := Lib.hid (HQE.out.below hb10)
          have HS10 := Lib.hid (l2same_any hi10 HR10.out.li)
          clear hl10 hi10 ha10 hb10
          go_wp2_with fail
          refine HS10.out.mono ?_
          rintro e w11 ⟨rfl, q11, rfl⟩
          have HR11 := Lib.hid (HR10.out.drewN q11)
          generalize w10.drewN q11 = w11 at *
          go_wp2_with fail
          go_loopw [16] (fun vk wr => ∃ k : Nat, k ≤ g.length ∧ vk = .int .i64 k ∧ CRel w w6 wr b lb b2 lb2 (A.drain k).1 (C.freeAll A.list) la lc A.list (.slice av g.length cv) g) (fun vk _ => g.length - (intOf vk).toNat)
          case atStart => exact ⟨0, Nat.zero_le _, rfl, HR11.out⟩
          case round =>
            obtain ⟨k, hk, rfl, hrel⟩ := hrel
            have HQ := Lib.hid hrel
            clear hrel
            by_cases hlt : k < g.length
            · obtain ⟨i, hi1, hi2, hi3⟩ := HPRE.out k (by omega)
              have HAL := Lib.hid (HQ.out.a1.alloc hi1)
              have HD := Lib.hid hi3
              have HCELL : Hid (∀ w2, CRel w w6 w2 b lb b2 lb2 ((A.drain k).1.take i) (C.freeAll A.list) la lc A.list (.slice av g.length cv) g → ∃ bl ol, av = some ⟨bl, ol, none⟩ ∧ w2.cell? ⟨bl, ol + k, none⟩ = some (.int .i64 i)) := fun w2 h => by
                have hI := (ints_of_owns_slice h.own (fun x hx => by have := HGL.out x hx; omega)).2
                obtain ⟨bl, ol, he, _, d⟩ := hI.hcell k hlt
                rw [map_getD, hi2] at d
                exact ⟨bl, ol, he, d⟩
              clear hi1 hi2 hi3
              go_wp2_with fail
              refine HAL.out.mono ?_
              rintro e w12 ⟨rfl, ha, hu⟩
              have HQ2 := Lib.hid (HQ.out.upd1 ha hu)
              clear ha hu
              obtain ⟨bl, ol, rfl, d⟩ := HCELL.out _ HQ2.out
              go_wp2
              go_roundw
              case rel => exact ⟨k + 1, by omega, by simp, by rw [HD.out]; exact HQ2.out⟩
              case measure => simp [intOf]; omega
            · have HL := Lib.hid (Ar.freeAll_list HR9.out.a2.ar.ok HEND.out HQ.out.a2.ar.ok)
              have HCL := Lib.hid HQ.out.a2.list
              have hll : (C.freeAll A.list).list.length = g.length := by have := HL.out; have := HCS.out; omega
              go_wp2_with (first
                | (go_at_call 24; refine HCL.out.mono ?_; rintro e w12 ⟨l12, c12, rfl, hl12, hi12, ha12, hb12⟩; have HE := Lib.hid ha12; clear hl12 hi12 ha12 hb12)
                | (go_at_call 13; refine (l2works_true _).mono ?_; rintro e w13 ⟨rfl, hb⟩; have HB := Lib.hid hb; clear hb))
              go_ret
              exact ⟨by simp, HE.out.bel.trans (HB.out.mono HE.out.bel.size)⟩
end ArenaCopies
end Go.Proofs.Ytljcedlmnbofaaa
