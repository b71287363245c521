/- The buffer that a response is written to; walks of the parts that write; Walks of the. -/
import Derived.Test.YtnjhpgmbfblgaaaGreatMH13
import Derived.Test.YtnjhpgmbfblgaaaGreatMD1
import Derived.Test.YtnjhpgmbfblgaaaGreatMH3
import Derived.Test.YtnjhpgmbfblgaaaGreatMC3
import Derived.Test.YtnjhpgmbfblgaaaGreatMK1
set_option linter.unusedVariables false
set_option linter.unusedSimpArgs false
namespace Go.Proofs.YtnjhpgmbfblgaaaGreat.Ord
set_option maxRecDepth 100000
set_option maxHeartbeats 16000000
open Go.RowKit
def WB (w : World) (Q : Nat) (out : List Int) : Prop := ∃ v, RowL w Q 26 [v] /\ SlX w [Q] v out
theorem Own8.gen {w : World} {base : Nat} {v : Value} {xs : List Int} (h : Own8 w base v xs) : ∃ A L c, v = .slice A L c /\ xs.length = L /\ Byt w w.heap.size A c xs := by
 obtain ⟨A, c, rfl, hb⟩ := h.val
 exact ⟨A, _, c, rfl, rfl, hb⟩
section
variable {w w' : World} {Q : Nat} {out out' : List Int}
theorem WB.lt (h : WB w Q out) : Q < w.heap.size := by obtain ⟨v, h1, _⟩ := h; exact h1.lt
theorem WB.cong (h : WB w Q out) (e : out = out') : WB w Q out' := by subst e; exact h
theorem WB.below (h : WB w Q out) (hb : Bw w w') : WB w' Q out := by
 obtain ⟨v, h1, h2⟩ := h
 exact ⟨v, h1.of_block (hb.block _ h1.lt), h2.kept (Kept.of_below (L := []) hb) (by simp)⟩
theorem WB.put {base : Nat} {v : Value} (h : WB w Q out) (hb : Bw w w') (ho : Own8 w' base v out') (hbase : w.heap.size <= base) :
  WB (w'.setCell ⟨Q, 0, none⟩ v) Q out' /\ Kept [Q] w (w'.setCell ⟨Q, 0, none⟩ v) := by
 obtain ⟨u, h1, _⟩ := h
 have hl := h1.lt
 have hr := (h1.of_block (hb.block _ hl)).set 0 v
 have hk : Kept [Q] w' (w'.setCell ⟨Q, 0, none⟩ v) := (Kept.refl _ _).setCell (by simp) _
 refine ⟨⟨v, hr, ?_⟩, (Kept.of_below hb).trans hk⟩
 exact (SlX.of_slb (SlB.of_own ho) (fun k hk => by simp at hk; omega)).kept hk (fun k hk => hk)
end
theorem df_ (Q n most : Nat) (out : List Int) (w : World) (h : WB w Q out) (hn : n < 18446744073709551616) (hol : out.length <= 1000000) :
  Calls Tryz.prog 354 #[.pointer (some ⟨Q, 0, none⟩), .int .u64 n, .int .u64 most] w fun e w' => e = .returned (.bool (decide (n <= most))) /\ WB w' Q (out ++ putV n) /\ Kept [Q] w w' := by
 obtain ⟨v, h1, A, c, rfl, h2, h3⟩ := id h
 have c0 : w.cell? ⟨Q, 0, none⟩ = some (.slice A out.length c) := h1.cell rfl
 obtain ⟨HP, H, H1⟩ := kq3 (ct_ A out.length c out n w rfl hn (by omega) h2) h h1
 clear h h1 h2 h3
 go_enter Tryz.func354, Tryz.ntmps354
 go_wp2_with fail
 refine HP.o.mono ?_
 rintro e w2 ⟨v2, rfl, ho, hb⟩
 have f0 : w2.frozen? ⟨Q, 0, none⟩ = false := (H1.o.of_block (hb.block _ H1.o.lt)).frozen 0
 have c2 : w2.cell? ⟨Q, 0, none⟩ = some (.slice A out.length c) := (H1.o.of_block (hb.block _ H1.o.lt)).cell rfl
 obtain ⟨A2, L, c3, rfl, _⟩ := ho.gen
 have HE := kp (H.o.put hb ho (lR _))
 clear ho hb
 by_cases hm : n <= most
 ·have g : decide ((n : Int) <= (most : Int)) = true := by simp; omega
  go_wp2_with fail
  go_ret
  exact ⟨congrArg (fun b => Ending.returned (Value.bool b)) (eT_ hm).symm, HE.o⟩
 have g : decide ((n : Int) <= (most : Int)) = false := by simp; omega
 go_wp2_with fail
 go_ret
 exact ⟨congrArg (fun b => Ending.returned (Value.bool b)) (eF hm).symm, HE.o⟩
structure RespS (r : RespR) : Prop where
 nitems : r.items.length <= 100
 nnums : r.nums.length <= 100
 vals : ∀ x ∈ r.items, x.val.length <= 3000
 bytes : ∀ x ∈ r.items, ∀ y ∈ x.val, 0 <= y /\ y < 256
 ver : 0 <= r.ver /\ r.ver < 18446744073709551616
 nums : ∀ x ∈ r.nums, 0 <= x /\ x < 18446744073709551616
 vers : ∀ x ∈ r.items, 0 <= x.ver /\ x.ver < 18446744073709551616
 deads : ∀ x ∈ r.items, 0 <= x.dead /\ x.dead < 18446744073709551616
 count : -9223372036854775808 <= r.count /\ r.count < 9223372036854775808
 marks : ∀ x ∈ r.items, -9223372036854775808 <= x.mark /\ x.mark < 9223372036854775808
 err : -9223372036854775808 <= r.err /\ r.err < 9223372036854775808
 op : -9223372036854775808 <= r.op /\ r.op < 9223372036854775808
def okI (x : ItemR) : Bool := decide (0 <= x.mark /\ x.mark <= 2 /\ x.val.length <= 65536)
def putI (x : ItemR) : List Int := if x.mark = 0 then putV 0 else putV x.mark.toNat ++ putV x.ver.toNat ++ putV x.dead.toNat ++ (putV x.val.length ++ x.val)
def bN_ : List ItemR -> List Int
 | [] => []
 | x :: l => putI x ++ bN_ l
def bU_ : List Int -> List Int
 | [] => []
 | x :: l => putV x.toNat ++ bU_ l
theorem jr_ (l : List ItemR) (x : ItemR) : bN_ (l ++ [x]) = bN_ l ++ putI x := by
 induction l with
 | nil => simp [bN_]
 | cons a l ih => simp [bN_, ih, aA]
theorem jq_ (l : List Int) (x : Int) : bU_ (l ++ [x]) = bU_ l ++ putV x.toNat := by
 induction l with
 | nil => simp [bU_]
 | cons a l ih => simp [bU_, ih, aA]
def okP (p : Part) (r : RespR) : Bool := match p with
 | .ver => true
 | .cnt => decide (0 <= r.count /\ r.count <= 1099511627776)
 | .one => decide (r.items.length = 1)
 | .item => r.items.all okI
 | .many => decide (0 < r.items.length /\ r.items.length <= 16)
 | .nums => decide (r.nums.length <= 64)
def putP (p : Part) (r : RespR) : List Int := match p with
 | .ver => putV r.ver.toNat
 | .cnt => putV r.count.toNat
 | .one => []
 | .item => bN_ r.items
 | .many => putV r.items.length
 | .nums => putV r.nums.length ++ bU_ r.nums
structure PutPre (w : World) (B Q X : Nat) (r : RespR) (vi vn : Value) (out : List Int) : Prop where
 buf : WB w Q out
 row : RowL w X 40 (respC r vi vn)
 ok : RespOk w B r vi vn
 hB : B <= Q
 ne : X ≠ Q
 hs : RespS r
 len : out.length <= 600000
def c6_ (w : World) (Q : Nat) (p : Part) (r : RespR) (out : List Int) (e : Ending) (w' : World) : Prop := e = .returned (.bool (okP p r)) /\ (okP p r = true -> WB w' Q (out ++ putP p r)) /\ Kept [Q] w w'
theorem put_ver {w : World} {B Q X : Nat} {r : RespR} {vi vn : Value} {out : List Int} (h : PutPre w B Q X r vi vn out) :
  Calls Tryz.prog 353 #[.pointer (some ⟨Q, 0, none⟩), .pointer (some ⟨X, 0, none⟩)] w (c6_ w Q .ver r out) := by
 have hv := h.hs.ver
 obtain ⟨n, hn⟩ : ∃ n : Nat, r.ver = n := ⟨r.ver.toNat, by omega⟩
 have hn2 : n < 18446744073709551616 := by omega
 have c3 : w.cell? ⟨X, 3, none⟩ = some (.int .u64 n) := by rw [<- hn]; exact h.row.cell rfl
 have HN := kp (df_ Q n 18446744073709551615 out w h.buf hn2 (by have := h.len; omega))
 have hd : decide (n <= 18446744073709551615) = true := by simp; omega
 rw [hd] at HN
 have HV := kp hn
 clear h hd hv hn
 go_enter Tryz.func353, Tryz.ntmps353
 go_wp2_with fail
 refine HN.o.mono ?_
 rintro e w2 ⟨rfl, h2, h3⟩
 obtain ⟨H2, H3⟩ := kq2 h2 h3
 clear h2 h3
 go_wp2_with fail
 go_ret
 exact ⟨rfl, fun _ => H2.o.cong (by simp only [putP, HV.o, Int.toNat_natCast]), H3.o⟩
theorem put_cnt {w : World} {B Q X : Nat} {r : RespR} {vi vn : Value} {out : List Int} (h : PutPre w B Q X r vi vn out) :
  Calls Tryz.prog 356 #[.pointer (some ⟨Q, 0, none⟩), .pointer (some ⟨X, 0, none⟩)] w (c6_ w Q .cnt r out) := by
 have hc := h.hs.count
 have c4 : w.cell? ⟨X, 4, none⟩ = some (.int .i64 r.count) := h.row.cell rfl
 by_cases h0 : 0 <= r.count
 ·obtain ⟨n, hn⟩ : ∃ n : Nat, r.count = n := ⟨r.count.toNat, by omega⟩
  have hn2 : n < 18446744073709551616 := by omega
  have HN := kp (df_ Q n 1099511627776 out w h.buf hn2 (by have := h.len; omega))
  have ho : okP .cnt r = decide (n <= 1099511627776) := by simp only [okP]; rw [Bool.eq_iff_iff]; simp; omega
  obtain ⟨HO, HV⟩ := kq2 ho hn
  have hw : IntKind.u64.wrap (n : Int) = n := by simp [IntKind.wrap, IntKind.bits, IntKind.signed]; omega
  rw [hn] at c4
  have hg : decide ((0 : Int) <= (n : Int)) = true := by simp
  clear h ho hn h0 hc
  go_enter Tryz.func356, Tryz.ntmps356
  go_wp2_with fail
  refine HN.o.mono ?_
  rintro e w2 ⟨rfl, h2, h3⟩
  obtain ⟨H2, H3⟩ := kq2 h2 h3
  clear h2 h3
  go_wp2_with fail
  go_ret
  exact rb HO.o ⟨fun _ => H2.o.cong (by simp only [putP, HV.o, Int.toNat_natCast]), H3.o⟩
 have hg : decide ((0 : Int) <= r.count) = false := by simp; omega
 have ho : okP .cnt r = false := by simp [okP]; omega
 have HO := kp ho
 clear h ho h0 hc
 go_enter Tryz.func356, Tryz.ntmps356
 go_wp2_with fail
 go_ret
 exact rb HO.o ⟨fun h => by rw [HO.o] at h; simp at h, Kept.refl _ _⟩
theorem put_one {w : World} {B Q X : Nat} {r : RespR} {vi vn : Value} {out : List Int} (h : PutPre w B Q X r vi vn out) :
  Calls Tryz.prog 358 #[.pointer (some ⟨Q, 0, none⟩), .pointer (some ⟨X, 0, none⟩)] w (c6_ w Q .one r out) := by
 obtain ⟨⟨_, A, c, hvi, _⟩, _⟩ := h.ok
 have c2 : w.cell? ⟨X, 2, none⟩ = some (.slice A r.items.length c) := by rw [<- hvi]; exact h.row.cell rfl
 have HB := kp h.buf
 clear h hvi
 by_cases h1 : r.items.length = 1
 ·have hg : ((r.items.length : Int) == 1) = true := by simp; omega
  have ho : okP .one r = true := by simp [okP, h1]
  have HO := kp ho
  clear ho h1
  go_enter Tryz.func358, Tryz.ntmps358
  go_wp2_with fail
  go_ret
  exact rb HO.o ⟨fun _ => HB.o.cong (by simp [putP]), Kept.refl _ _⟩
 have hg : ((r.items.length : Int) == 1) = false := by simp; omega
 have ho : okP .one r = false := by simp [okP, h1]
 have HO := kp ho
 clear ho h1
 go_enter Tryz.func358, Tryz.ntmps358
 go_wp2_with fail
 go_ret
 exact rb HO.o ⟨fun h => by rw [HO.o] at h; simp at h, Kept.refl _ _⟩
theorem put_many {w : World} {B Q X : Nat} {r : RespR} {vi vn : Value} {out : List Int} (h : PutPre w B Q X r vi vn out) :
  Calls Tryz.prog 365 #[.pointer (some ⟨Q, 0, none⟩), .pointer (some ⟨X, 0, none⟩)] w (c6_ w Q .many r out) := by
 obtain ⟨⟨_, A, c, hvi, _⟩, _⟩ := h.ok
 have c2 : w.cell? ⟨X, 2, none⟩ = some (.slice A r.items.length c) := by rw [<- hvi]; exact h.row.cell rfl
 have hni := h.hs.nitems
 obtain ⟨n, hn⟩ := eY r.items.length
 rw [hn] at c2 hni
 by_cases h0 : 0 < n
 ·have HN := kp (df_ Q n 16 out w h.buf (by omega) (by have := h.len; omega))
  have ho : okP .many r = decide (n <= 16) := by simp only [okP]; rw [Bool.eq_iff_iff]; simp; omega
  obtain ⟨HO, HV⟩ := kq2 ho hn
  have hw : IntKind.u64.wrap (n : Int) = n := by simp [IntKind.wrap, IntKind.bits, IntKind.signed]; omega
  clear h ho hn hvi
  go_enter Tryz.func365, Tryz.ntmps365
  go_wp2_with fail
  refine HN.o.mono ?_
  rintro e w2 ⟨rfl, h2, h3⟩
  obtain ⟨H2, H3⟩ := kq2 h2 h3
  clear h2 h3
  go_wp2_with fail
  go_ret
  exact rb HO.o ⟨fun _ => H2.o.cong (by simp only [putP, HV.o]), H3.o⟩
 have ho : okP .many r = false := by simp [okP]; omega
 have HO := kp ho
 obtain rfl : n = 0 := by omega
 clear h ho h0 hvi hn
 go_enter Tryz.func365, Tryz.ntmps365
 go_wp2_with fail
 go_ret
 exact rb HO.o ⟨fun h => by rw [HO.o] at h; simp at h, Kept.refl _ _⟩
theorem gN_ {l : List Int} (h : ∀ x ∈ l, 0 <= x /\ x < 18446744073709551616) : (bU_ l).length <= 10 * l.length := by
 induction l with
 | nil => simp [bU_]
 | cons a l ih =>
  have h1 := ih fun s hs => h s (mM _ hs)
  have h2 := h a List.mem_cons_self
  have h3 := ad_ (n := a.toNat) (by omega)
  simp only [bU_, lA, List.length_cons]
  omega
theorem f8_ {x : ItemR} (h1 : x.val.length <= 3000) (h2 : 0 <= x.ver /\ x.ver < 18446744073709551616) (h3 : 0 <= x.dead /\ x.dead < 18446744073709551616) (h4 : x.mark < 9223372036854775808) : (putI x).length <= 3040 := by
 have a1 := ad_ (n := x.mark.toNat) (by omega)
 have a2 := ad_ (n := x.ver.toNat) (by omega)
 have a3 := ad_ (n := x.dead.toNat) (by omega)
 have a4 := ad_ (n := x.val.length) (by omega)
 have a5 := ad_ (n := 0) (by omega)
 unfold putI
 split
 ·omega
 simp only [lA]
 omega
theorem gO_ {l : List ItemR} (h : ∀ x ∈ l, (putI x).length <= 3040) : (bN_ l).length <= 3040 * l.length := by
 induction l with
 | nil => simp [bN_]
 | cons a l ih =>
  have h1 := ih fun s hs => h s (mM _ hs)
  have h2 := h a List.mem_cons_self
  simp only [bN_, lA, List.length_cons]
  omega
theorem RespS.items_len {r : RespR} (h : RespS r) {k : Nat} : (bN_ (r.items.take k)).length <= 304000 := by
 have h1 := gO_ (l := r.items.take k) fun x hx => f8_ (h.vals x (List.mem_of_mem_take hx)) (h.vers x (List.mem_of_mem_take hx)) (h.deads x (List.mem_of_mem_take hx)) (h.marks x (List.mem_of_mem_take hx)).2
 have h2 : (r.items.take k).length <= 100 := by have := h.nitems; simp; omega
 omega
theorem RespS.nums_len {r : RespR} (h : RespS r) {k : Nat} : (bU_ (r.nums.take k)).length <= 1000 := by
 have h1 := gN_ (l := r.nums.take k) fun x hx => h.nums x (List.mem_of_mem_take hx)
 have h2 : (r.nums.take k).length <= 100 := by have := h.nnums; simp; omega
 omega
theorem put_nums {w : World} {B Q X : Nat} {r : RespR} {vi vn : Value} {out : List Int} (h : PutPre w B Q X r vi vn out) :
  Calls Tryz.prog 367 #[.pointer (some ⟨Q, 0, none⟩), .pointer (some ⟨X, 0, none⟩)] w (c6_ w Q .nums r out) := by
 obtain ⟨_, hnl, A, c, hvn, hel⟩ := h.ok
 have c5 : w.cell? ⟨X, 5, none⟩ = some (.slice A r.nums.length c) := by rw [<- hvn]; exact h.row.cell rfl
 have hX := h.row
 have hnn := h.hs.nnums
 have hns := h.hs.nums
 have hlen := fun k => h.hs.nums_len (k := k)
 have hB := h.hB
 have hne := h.ne
 have hol := h.len
 have hbuf := h.buf
 obtain ⟨xs, hxs⟩ := eY r.nums
 obtain ⟨n, hn⟩ := eY xs.length
 rw [hxs] at c5 hnn hns hel hlen
 rw [hn] at c5 hnn
 have hok : okP .nums r = decide (n <= 64) := by simp only [okP, hxs, hn]
 have hput : putP .nums r = putV n ++ bU_ xs := by simp only [putP, hxs, hn]
 have HN := kp (df_ Q n 64 out w hbuf (by omega) (by omega))
 have hw : IntKind.u64.wrap (n : Int) = n := by simp [IntKind.wrap, IntKind.bits, IntKind.signed]; omega
 have hv10 := ad_ (n := n) (by omega)
 obtain ⟨HX, HO, HP, HL, HE, Ae, Ad, HB, HQ, Af⟩ := kq10 hX hok hput hlen hel hns hn hB hbuf.lt hne
 clear h hok hput hX hlen hel hns hvn hxs hn hB hbuf hne
 by_cases h64 : n <= 64
 ·have hd : decide (n <= 64) = true := by simp; omega
  rw [hd] at HN HO
  clear hd
  go_enter Tryz.func367, Tryz.ntmps367
  go_wp2_with fail
  refine HN.o.mono ?_
  rintro e w2 ⟨rfl, h2, h3⟩
  have c5' : w2.cell? ⟨X, 5, none⟩ = some (.slice A n c) := h3.cell (by simp; exact Af.o) c5
  obtain ⟨H2, H3⟩ := kq2 h2 h3
  clear h2 h3
  go_wp2_with fail
  go_loopw [21] (fun j wr => ∃ k : Nat, k <= n /\ j = .int .i64 k /\ WB wr Q (out ++ putV n ++ bU_ (xs.take k)) /\ Kept [Q] w wr) (fun j _ => n - (intOf j).toNat)
  case atStart => exact ⟨0, Nat.zero_le _, by go_num, H2.o.cong (by simp [bU_]), H3.o⟩
  obtain ⟨k, hk, rfl, hW, hK⟩ := hrel
  obtain ⟨HW, HK⟩ := kq2 hW hK
  clear hW hK c5'
  by_cases hlt : k < n
  ·have hg : decide ((k : Int) < (n : Int)) = true := by simp; omega
   have hkx : k < xs.length := by rw [Ad.o]; exact hlt
   have hx := gE hkx
   obtain ⟨x, hxe⟩ := eY (xs[k])
   rw [hxe] at hx
   have hxm : x ∈ xs := mG hx
   obtain ⟨m, hm⟩ : ∃ m : Nat, x = m := ⟨x.toNat, by have := Ae.o x hxm; omega⟩
   have hm2 : m < 18446744073709551616 := by have := Ae.o x hxm; omega
   obtain ⟨b, off, rfl, hbB, hc⟩ := HE.o k x hx
   have hcr : wr.cell? ⟨b, off + k, none⟩ = some (.int .u64 m) := by
    rw [<- hm]
    exact HK.o.cell (by simp; have := HB.o; omega) hc
   have hl := HL.o k
   obtain ⟨o, ho⟩ := eY (out ++ putV n ++ bU_ (xs.take k))
   rw [ho] at HW
   have hol2 : o.length <= 700000 := by rw [<- ho]; simp only [lA]; omega
   have hnx : out ++ putV n ++ bU_ (xs.take (k + 1)) = o ++ putV m := by
    rw [<- ho, tA, hx, Option.toList_some, jq_, hm]
    simp [aA]
   have Ac := kp hnx
   obtain ⟨v, hv1, A3, c3, rfl, hv2, hv3⟩ := id HW.o
   have c0 : wr.cell? ⟨Q, 0, none⟩ = some (.slice A3 o.length c3) := hv1.cell rfl
   obtain ⟨HPut, Ab⟩ := kq2 (ct_ A3 o.length c3 o m wr rfl hm2 (by omega) hv2) hv1
   clear hx hxe hxm hc hl ho hnx hv1 hv2 hv3 hm
   go_wp2_with fail
   refine HPut.o.mono ?_
   rintro e w5 ⟨v5, rfl, ho5, hb5⟩
   have f5 : w5.frozen? ⟨Q, 0, none⟩ = false := (Ab.o.of_block (hb5.block _ Ab.o.lt)).frozen 0
   have c55 : w5.cell? ⟨Q, 0, none⟩ = some (.slice A3 o.length c3) := (Ab.o.of_block (hb5.block _ Ab.o.lt)).cell rfl
   obtain ⟨A5, L5, cc5, rfl, _⟩ := ho5.gen
   have Aa := kp (HW.o.put hb5 ho5 (lR _))
   clear ho5 hb5
   go_wp2_with fail
   go_roundw
   case rel => exact ⟨k + 1, by omega, by go_num, Aa.o.1.cong Ac.o.symm, HK.o.trans Aa.o.2⟩
   simp [intOf]; omega
  obtain rfl : k = n := by omega
  have hg : decide ((k : Int) < (k : Int)) = false := by simp
  go_wp2_with fail
  go_ret
  exact rb HO.o ⟨fun _ => HW.o.cong (by rw [HP.o, tL (by rw [Ad.o]; exact lR _)]; simp [aA]), HK.o⟩
 have hd : decide (n <= 64) = false := by simp; omega
 rw [hd] at HN HO
 clear hd
 go_enter Tryz.func367, Tryz.ntmps367
 go_wp2_with fail
 refine HN.o.mono ?_
 rintro e w2 ⟨rfl, h2, h3⟩
 have H3 := kp h3
 clear h2 h3
 go_wp2_with fail
 go_ret
 exact rb HO.o ⟨fun h => by rw [HO.o] at h; simp at h, H3.o⟩
theorem eM_ : (Tryz.f233.name == "runtime.NumGoroutine") = false := by decide
theorem eN_ : Tryz.f233.body.isSome = true := rfl
theorem k3_ : (Tryz.f361.name == "runtime.NumGoroutine") = false := by decide
theorem k4_ : Tryz.f361.body.isSome = true := rfl
theorem is_ {n : Nat} (h : n < 18446744073709551616) : IntKind.u64.wrap (n : Int) = n := by simp [IntKind.wrap, IntKind.bits, IntKind.signed]; omega
structure ItemAt (w : World) (G Q : Nat) (m : Nat) (Av : Option Addr) (nv cv : Nat) (ver dead : Nat) (val out : List Int) : Prop where
 row : RowL w G 78 [.int .i64 m, .slice Av nv cv, .int .u64 ver, .int .u64 dead]
 buf : WB w Q out
 byt : Byt w w.heap.size Av cv val
 ln : val.length = nv
 far : ∀ b off, Av = some ⟨b, off, none⟩ -> val ≠ [] -> b ≠ Q
theorem ItemAt.below {w w' : World} {G Q m nv cv ver dead : Nat} {Av : Option Addr} {val out : List Int} (h : ItemAt w G Q m Av nv cv ver dead val out) (hb : Bw w w') : ItemAt w' G Q m Av nv cv ver dead val out :=
 ⟨h.row.of_block (hb.block _ h.row.lt), h.buf.below hb, (h.byt.below hb (lR _)).mono hb.size, h.ln, h.far⟩
theorem hb_ {L : List Nat} {w w' : World} (h : Kept L w w') : Kept L w w'.drew := ⟨h.os, h.tape, h.output, h.size, h.block⟩
theorem ItemAt.drew {w : World} {G Q m nv cv ver dead : Nat} {Av : Option Addr} {val out : List Int} (h : ItemAt w G Q m Av nv cv ver dead val out) : ItemAt w.drew G Q m Av nv cv ver dead val out :=
 ⟨h.row, h.buf, h.byt, h.ln, h.far⟩
theorem ItemAt.put {w w' : World} {G Q m nv cv ver dead base : Nat} {Av : Option Addr} {val out out' : List Int} {v : Value} (h : ItemAt w G Q m Av nv cv ver dead val out) (hb : Bw w w') (ho : Own8 w' base v out') (hbase : w.heap.size <= base) (hne : G ≠ Q) :
  ItemAt (w'.setCell ⟨Q, 0, none⟩ v) G Q m Av nv cv ver dead val out' /\ Kept [Q] w (w'.setCell ⟨Q, 0, none⟩ v) := by
 have h' := h.below hb
 obtain ⟨h1, h2⟩ := h.buf.put hb ho hbase
 have hk : Kept [Q] w' (w'.setCell ⟨Q, 0, none⟩ v) := (Kept.refl _ _).setCell (by simp) _
 refine ⟨⟨h'.row.kept hk (by simpa using hne), h1, ⟨h'.byt.1, h'.byt.2.1, fun i hi => ?_⟩, h.ln, h.far⟩, h2⟩
 obtain ⟨b, off, e, hlt, hc⟩ := h'.byt.2.2 i hi
 exact ⟨b, off, e, lL hlt hk.size, fun x hx => hk.cell (fun hm => h.far b off e (by intro h0; rw [h0] at hi; simp at hi) (by simpa using hm)) (hc x hx)⟩
theorem put_item {w : World} {B Q X : Nat} {r : RespR} {vi vn : Value} {out : List Int} (h : PutPre w B Q X r vi vn out) :
  Calls Tryz.prog 360 #[.pointer (some ⟨Q, 0, none⟩), .pointer (some ⟨X, 0, none⟩)] w (c6_ w Q .item r out) := by
 obtain ⟨⟨hil, A, c, hvi, hel⟩, _⟩ := h.ok
 have c2 : w.cell? ⟨X, 2, none⟩ = some (.slice A r.items.length c) := by rw [<- hvi]; exact h.row.cell rfl
 have hni := h.hs.nitems
 have hlen := fun k => h.hs.items_len (k := k)
 have hB := h.hB
 have hol := h.len
 have hbuf := h.buf
 have hvals := h.hs.vals
 have hvers := h.hs.vers
 have hdeads := h.hs.deads
 have hmarks := h.hs.marks
 obtain ⟨xs, hxs⟩ := eY r.items
 obtain ⟨n, hn⟩ := eY xs.length
 rw [hxs] at c2 hni hel hlen hvals hvers hdeads hmarks
 rw [hn] at c2 hni
 have hok : okP .item r = xs.all okI := by simp only [okP, hxs]
 have hput : putP .item r = bN_ xs := by simp only [putP, hxs]
 obtain ⟨HO, HP, HL, HE, HV, Ay, Bf, Be, Ap, HB, HQ, Ax⟩ := kq12 hok hput hlen hel hvals hvers hdeads hmarks hn hB hbuf.lt (hbuf.cong (show out = out ++ bN_ (xs.take 0) by simp [bN_]))
 clear h hok hput hlen hel hvi hxs hn hB hbuf hvals hvers hdeads hmarks
 go_enter Tryz.func360, Tryz.ntmps360
 go_wp2_with fail
 go_loopw [12] (fun j wr => ∃ k : Nat, k <= n /\ j = .int .i64 k /\ (xs.take k).all okI = true /\ WB wr Q (out ++ bN_ (xs.take k)) /\ Kept [Q] w wr) (fun j _ => n - (intOf j).toNat)
 case atStart => exact ⟨0, Nat.zero_le _, by go_num, by simp, Ax.o, Kept.refl _ _⟩
 obtain ⟨k, hk, rfl, hall, hW, hK⟩ := hrel
 obtain ⟨HW, HK, Ac⟩ := kq3 hW hK hall
 clear hW hK hall c2
 by_cases hlt : k < n
 ·have hg : decide ((k : Int) < (n : Int)) = true := by simp; omega
  have hkx : k < xs.length := by rw [Ap.o]; exact hlt
  have hx := gE hkx
  obtain ⟨x, hxe⟩ := eY (xs[k])
  rw [hxe] at hx
  have hxm : x ∈ xs := mG hx
  have hv1 := HV.o x hxm
  have hv2 := Ay.o x hxm
  have hv3 := Bf.o x hxm
  have hv4 := Be.o x hxm
  obtain ⟨b, off, v, rfl, hbB, hc, hd1, hd2, Av, cv, rfl, hby⟩ := HE.o k x hx
  have hbw : Below B w wr := HK.o.below (by have := HB.o; have := HQ.o; omega) (by simp; exact HB.o)
  have hcr := hc.below hbw hbB
  have hbyr : Byt wr wr.heap.size Av cv x.val := (hby.below hbw (lR _)).mono (by have := HB.o; have := HQ.o; have := hbw.size; omega)
  have hfar : ∀ b off, Av = some ⟨b, off, none⟩ -> x.val ≠ [] -> b ≠ Q := fun b off e hne => by
   obtain ⟨b', off', e', hlt, _⟩ := hby.2.2 0 (List.length_pos_iff.2 hne)
   rw [e] at e'
   cases e'
   have := HB.o
   omega
  have hfull : (xs.all okI = true) -> okI x = true := fun h => List.all_eq_true.1 h x hxm
  have hl := HL.o k
  obtain ⟨o, ho⟩ := eY (out ++ bN_ (xs.take k))
  rw [ho] at HW
  have hol2 : o.length <= 910000 := by rw [<- ho]; simp only [lA]; omega
  have hpx := f8_ hv1 hv2 hv3 hv4.2
  have hnx : out ++ bN_ (xs.take (k + 1)) = o ++ putI x := by
   rw [<- ho, tA, hx, Option.toList_some, jr_]
   simp [aA]
  have hnall : (xs.take (k + 1)).all okI = okI x := by
   rw [tA, hx, Option.toList_some, List.all_append, Ac.o]
   simp
  obtain ⟨im, iv, ir, id⟩ := x
  simp only at hv1 hv2 hv3 hv4 hcr hbyr hd2 hpx hfar
  obtain ⟨Ae, Aq, HF, Af⟩ := kq4 hnx hnall hfull hcr
  have hlit : aD_ im (.slice Av iv.length cv) ir id = [.int .i64 im, .slice Av iv.length cv, .int .u64 ir, .int .u64 id] := rfl
  rw [hlit] at Af
  have Bi := kp hx
  clear hx hxe hxm hc hby hl ho hnx hnall hcr hfull hd1 hd2 hlit
  have d0 : wr.cell? ⟨b, off + k * 4, none⟩ = some (.int .i64 im) := Af.o 0 _ rfl
  have d1 : wr.cell? ⟨b, off + k * 4 + 1, none⟩ = some (.slice Av iv.length cv) := Af.o 1 _ rfl
  have d2 : wr.cell? ⟨b, off + k * 4 + 2, none⟩ = some (.int .u64 ir) := Af.o 2 _ rfl
  have d3 : wr.cell? ⟨b, off + k * 4 + 3, none⟩ = some (.int .u64 id) := Af.o 3 _ rfl
  by_cases hbad : im < 0 ∨ 2 < im
  ·have hokx : okI ⟨im, iv, ir, id⟩ = false := by simp [okI]; omega
   have Aj := kp hokx
   have hfa : xs.all okI = false := by
    cases e : xs.all okI
    ·rfl
    rw [HF.o e] at hokx; simp at hokx
   obtain ⟨Ai, hB1⟩ := kq2 hfa (below1 wr (.cells #[.int .i64 im, .slice Av iv.length cv, .int .u64 ir, .int .u64 id] 78))
   by_cases hneg : im < 0
   ·have g1 : decide (im < 0) = true := by simp; omega
    clear hokx hfa hbad hneg
    go_wp2_with fail
    go_ret
    exact ⟨congrArg (fun b => Ending.returned (Value.bool b)) (HO.o.trans Ai.o).symm, fun h => by rw [HO.o, Ai.o] at h; simp at h, HK.o.trans (Kept.of_below hB1.o)⟩
   have g1 : decide (im < 0) = false := by simp; omega
   have g2 : decide (2 < im) = true := by simp; omega
   clear hokx hfa hbad hneg
   go_wp2_with fail
   go_ret
   exact ⟨congrArg (fun b => Ending.returned (Value.bool b)) (HO.o.trans Ai.o).symm, fun h => by rw [HO.o, Ai.o] at h; simp at h, HK.o.trans (Kept.of_below hB1.o)⟩
  have hokx : okI ⟨im, iv, ir, id⟩ = true := by simp [okI]; omega
  have Aj := kp hokx
  have g1 : decide (im < 0) = false := by simp; omega
  have g2 : decide (2 < im) = false := by simp; omega
  have g3 : decide ((65536 : Int) < (iv.length : Int)) = false := by simp; omega
  obtain ⟨m, rfl⟩ : ∃ m : Nat, im = m := ⟨im.toNat, by omega⟩
  obtain ⟨ver, rfl⟩ : ∃ m : Nat, ir = m := ⟨ir.toNat, by omega⟩
  obtain ⟨dead, rfl⟩ : ∃ m : Nat, id = m := ⟨id.toNat, by omega⟩
  have hm2 : m <= 2 := by omega
  have hver : ver < 18446744073709551616 := by omega
  have hdead : dead < 18446744073709551616 := by omega
  obtain ⟨nv, hnv⟩ := eY iv.length
  rw [hnv] at g3 d1 hv1
  have hwr := is_ (n := m) (by omega)
  have hI0 : ItemAt (wr.alloc (.cells #[.int .i64 m, .slice Av nv cv, .int .u64 ver, .int .u64 dead] 78)) wr.heap.size Q m Av nv cv ver dead iv o := by
   have hb1 := below1 wr (.cells #[.int .i64 m, .slice Av nv cv, .int .u64 ver, .int .u64 dead] 78)
   exact ⟨RowL.new wr 78 _, HW.o.below hb1, (hbyr.below hb1 (lR _)).mono hb1.size, hnv, hfar⟩
  obtain ⟨As, Ad, Ao, Bg, Ar⟩ := kq5 (HK.o.trans (Kept.of_below (below1 wr (.cells #[.int .i64 m, .slice Av nv cv, .int .u64 ver, .int .u64 dead] 78)))) hI0 (show putI ⟨(m : Int), iv, (ver : Int), (dead : Int)⟩ = if m = 0 then putV 0 else putV m ++ putV ver ++ putV dead ++ (putV nv ++ iv) by simp [putI, hnv]) hpx hm2
  clear hokx hbad hv2 hv3 hv4 hbyr hI0 hpx hm2 hfar
  go_upto_region 6 with (fail)
  obtain ⟨W1, hW1⟩ := eY (wr.alloc (.cells #[.int .i64 m, .slice Av nv cv, .int .u64 ver, .int .u64 dead] 78))
  rw [hW1] at Ad As ⊢
  clear hW1
  obtain ⟨vb, hvb1, A1, c1, rfl, hvb2, hvb3⟩ := id Ad.o.buf
  have e0 : W1.drew.cell? ⟨Q, 0, none⟩ = some (.slice A1 o.length c1) := hvb1.cell rfl
  have e1 : W1.drew.cell? ⟨wr.heap.size, 0, none⟩ = some (.int .i64 m) := Ad.o.row.cell (j := 0) rfl
  have HPut := kp (ct_ A1 o.length c1 o m W1.drew rfl (by have := Ar.o; omega) (by omega) hvb2)
  clear hvb1 hvb2 hvb3
  go_region_law ((with_reducible refine ao_ (o := ⟨some 37, _, _, _, _, _⟩) rfl 233 _ _ rfl #[.slice A1 o.length c1, .int .u64 m] ?_ Tryz.f233 Tryz.func233 eM_ eN_ (fun u w6 => Own8 w6 W1.drew.heap.size u (o ++ putV m) /\ Below W1.drew.heap.size W1.drew w6) ?_ ?_); (· simp only [y1, y2, y3]; rfl); (· exact HPut.o.mono fun e w' ⟨v, h1, h2, h3⟩ => ⟨v, h1, h2, h3⟩); rintro u6 w6 ⟨ho6, hb6⟩; obtain ⟨A6, L6, c6, rfl, hL6, _⟩ := ho6.gen; have At := kp ((ItemAt.drew Ad.o).below hb6); have e6 : w6.cell? ⟨Q, 0, none⟩ = some (.slice A1 o.length c1) := ((hb6.cell (p := ⟨Q, 0, none⟩) Ad.o.buf.lt).trans e0); have f6 : w6.frozen? ⟨Q, 0, none⟩ = false := (by obtain ⟨v, h1, _⟩ := At.o.buf; exact h1.frozen 0); have e61 : w6.cell? ⟨wr.heap.size, 0, none⟩ = some (.int .i64 m) := At.o.row.cell (j := 0) rfl)
  all_goals
   have hgq : wr.heap.size ≠ Q := by have := HW.o.lt; omega
   obtain ⟨hI7, hK6⟩ := (ItemAt.drew Ad.o).put hb6 ho6 (lR _) hgq
   obtain ⟨Aa, Al⟩ := kq2 hI7 ((hb_ As.o).trans hK6)
   obtain ⟨W7, hW7⟩ := eY (w6.setCell ⟨Q, 0, none⟩ (.slice A6 L6 c6))
   rw [hW7] at Aa Al ⊢
   clear hW7 hK6 hI7 e6 f6 e61 hb6 ho6 e0 e1 hL6 d0 d1 d2 d3
   have r0 : W7.cell? ⟨wr.heap.size, 0, none⟩ = some (.int .i64 m) := Aa.o.row.cell (j := 0) rfl
   by_cases hm0 : m = 0
   ·subst hm0
    go_wp2_with fail
    go_roundw
    case rel => exact ⟨k + 1, by omega, by go_num, by rw [Aq.o, Aj.o], Aa.o.buf.cong (by rw [Ae.o, Ao.o, if_pos rfl]), Al.o⟩
    simp [intOf]; omega
   have hmn : ((m : Int) != 0) = true := by simp; omega
   have Az := kp (Ao.o.trans (if_neg hm0))
   clear hm0
   go_upto_region 8 with (fail)
   obtain ⟨o7, ho7⟩ := eY (o ++ putV m)
   have hv10 := ad_ (n := m) (by have := Ar.o; omega)
   have hol7 : o7.length <= 910010 := by rw [<- ho7, lA]; omega
   rw [ho7] at Aa
   have Bd := kp ho7
   clear ho7 hv10
   obtain ⟨vb, hvb1, A7, c7, rfl, hvb2, hvb3⟩ := id Aa.o.buf
   have e0 : W7.drew.cell? ⟨Q, 0, none⟩ = some (.slice A7 o7.length c7) := hvb1.cell rfl
   have e1 : W7.drew.cell? ⟨wr.heap.size, 1, none⟩ = some (.slice Av nv cv) := Aa.o.row.cell (j := 1) rfl
   have e2 : W7.drew.cell? ⟨wr.heap.size, 2, none⟩ = some (.int .u64 ver) := Aa.o.row.cell (j := 2) rfl
   have e3 : W7.drew.cell? ⟨wr.heap.size, 3, none⟩ = some (.int .u64 dead) := Aa.o.row.cell (j := 3) rfl
   have hp1 := ad_ hver
   have hp2 := ad_ hdead
   obtain ⟨Bc, Au⟩ := kq2 (ct_ A7 o7.length c7 o7 ver W7.drew rfl hver (by omega) hvb2) (ItemAt.drew Aa.o)
   clear hvb1 hvb2 hvb3 r0
   go_region_law (first
    | ((with_reducible refine ao_ (o := ⟨some 48, _, _, _, _, _⟩) rfl 233 _ _ rfl #[.slice A7 o7.length c7, .int .u64 ver] ?_ Tryz.f233 Tryz.func233 eM_ eN_ (fun u w8 => Own8 w8 W7.drew.heap.size u (o7 ++ putV ver) /\ Below W7.drew.heap.size W7.drew w8) ?_ ?_); (· simp only [y1, y2, y3]; rfl); (· exact Bc.o.mono fun e w' ⟨v, h1, h2, h3⟩ => ⟨v, h1, h2, h3⟩); rintro u8 w8 ⟨ho8, hb8⟩; obtain ⟨A8, L8, c8, rfl, hL8, hby8⟩ := ho8.gen; have Aw := kp hb8; have Am := kp (Au.o.below hb8); have e81 : w8.cell? ⟨wr.heap.size, 1, none⟩ = some (.slice Av nv cv) := Am.o.row.cell (j := 1) rfl; have e83 : w8.cell? ⟨wr.heap.size, 3, none⟩ = some (.int .u64 dead) := Am.o.row.cell (j := 3) rfl; have Bb := kp (ct_ A8 L8 c8 _ dead w8 hL8 hdead (by rw [<- hL8, lA]; omega) hby8); have Bh := kp hL8; clear ho8 hb8 hby8 hL8)
    | ((with_reducible refine ao_ (o := ⟨some 51, _, _, _, _, _⟩) rfl 233 _ _ rfl #[.slice A8 L8 c8, .int .u64 dead] ?_ Tryz.f233 Tryz.func233 eM_ eN_ (fun u w9 => Own8 w9 w8.heap.size u (o7 ++ putV ver ++ putV dead) /\ Bw w8 w9) ?_ ?_); (· simp only [y1, y2, y3]; rfl); (· exact Bb.o.mono fun e w' ⟨v, h1, h2, h3⟩ => ⟨v, h1, h2, h3⟩); rintro u9 w9 ⟨ho9, hb9⟩; obtain ⟨A9, L9, c9, rfl, hL9, hby9⟩ := ho9.gen; have An := kp (Aw.o.trans (hb9.mono Aw.o.size)); have Ah := kp (Am.o.below hb9); have e91 : w9.cell? ⟨wr.heap.size, 1, none⟩ = some (.slice Av nv cv) := Ah.o.row.cell (j := 1) rfl; have hs9 := hb9.size; have Ba := kp (cu_ A9 Av L9 c9 nv cv _ iv w9 hL9 Ah.o.ln (by rw [<- hL9, lA, lA]; omega) (by omega) hby9 Ah.o.byt); clear ho9 hb9 hby9 hL9)
    | ((with_reducible refine ao_ (o := ⟨some 54, _, _, _, _, _⟩) rfl 361 _ _ rfl #[.slice A9 L9 c9, .slice Av nv cv] ?_ Tryz.f361 Tryz.func361 k3_ k4_ (fun u w10 => Own8 w10 w9.heap.size u (o7 ++ putV ver ++ putV dead ++ putV nv ++ iv) /\ Bw w9 w10) ?_ ?_); (· simp only [y1, y2, y3]; rfl); (· exact Ba.o.mono fun e w' ⟨v, h1, h2, h3⟩ => ⟨v, h1, h2, h3⟩); rintro u10 w10 ⟨ho10, hb10⟩; obtain ⟨A10, L10, c10, rfl, _, _⟩ := ho10.gen; have Ag := kp (An.o.trans (hb10.mono An.o.size)); have hQ10 : w10.cell? ⟨Q, 0, none⟩ = some (.slice A7 o7.length c7) := (Ag.o.cell (p := ⟨Q, 0, none⟩) Aa.o.buf.lt).trans e0; have f10 : w10.frozen? ⟨Q, 0, none⟩ = false := (by obtain ⟨v, h1, _⟩ := (Ah.o.below hb10).buf; exact h1.frozen 0); have Ak := kp ho10; clear ho10 hb10))
   all_goals
    have Ab := kp (Au.o.put Ag.o Ak.o (lT An.o.size (lR _)) (by have := HW.o.lt; omega))
    obtain ⟨W11, hW11⟩ := eY (w10.setCell ⟨Q, 0, none⟩ (.slice A10 L10 c10))
    rw [hW11] at Ab ⊢
    clear hW11 hQ10 f10
    go_wp2_with fail
    go_roundw
    case rel => exact ⟨k + 1, by omega, by go_num, by rw [Aq.o, Aj.o], Ab.o.1.buf.cong (by rw [Ae.o, Az.o, <- Bd.o]; simp [aA]), (hb_ Al.o).trans Ab.o.2⟩
    simp [intOf]; omega
 obtain rfl : k = n := by omega
 have hg : decide ((k : Int) < (k : Int)) = false := by simp
 have htk : xs.take k = xs := tL (by rw [Ap.o]; exact lR _)
 rw [htk] at HW Ac
 go_wp2_with fail
 go_ret
 exact ⟨congrArg (fun b => Ending.returned (Value.bool b)) (HO.o.trans Ac.o).symm, fun _ => by rw [HP.o]; exact HW.o, HK.o⟩
structure KX (lo X R : Nat) (w w' : World) : Prop where
 os : w'.os = w.os
 tape : w'.tape = w.tape
 output : w'.output = w.output
 size : w.heap.size <= w'.heap.size
 block : ∀ k, k < lo -> k ≠ X -> k ≠ R -> w'.heap[k]? = w.heap[k]?
section
variable {w w' w'' : World} {lo X R : Nat}
theorem KX.refl (lo X R : Nat) (w : World) : KX lo X R w w := ⟨rfl, rfl, rfl, lR _, fun _ _ _ _ => rfl⟩
theorem KX.trans (h : KX lo X R w w') (h' : KX lo X R w' w'') : KX lo X R w w'' :=
 ⟨h'.os.trans h.os, h'.tape.trans h.tape, h'.output.trans h.output, lT h.size h'.size, fun k a b c => (h'.block k a b c).trans (h.block k a b c)⟩
theorem KX.of_kept {L : List Nat} (h : Kept L w w') (hlo : lo <= w.heap.size) (hL : ∀ k ∈ L, lo <= k ∨ k = X ∨ k = R) : KX lo X R w w' :=
 ⟨h.os, h.tape, h.output, h.size, fun k a b c => h.block k (lL a hlo) fun hm => by rcases hL k hm with h1 | h1 | h1 <;> omega⟩
theorem KX.below {B : Nat} (h : KX lo X R w w') (h1 : B <= lo) (h2 : B <= X) (h3 : B <= R) : Below B w w' := ⟨h.os, h.tape, h.output, h.size, fun k hk => h.block k (by omega) (by omega) (by omega)⟩
theorem KX.row {b : Nat} {t : TypeId} {l : List Value} (h : KX lo X R w w') (hr : RowL w b t l) (h1 : b < lo) (h2 : b ≠ X) (h3 : b ≠ R) : RowL w' b t l := hr.of_block (h.block b h1 h2 h3)
end
def SlG (w : World) (lo g : Nat) (v : Value) (xs : List Int) : Prop := ∃ A c, v = .slice A xs.length c /\ Byt w w.heap.size A c xs /\ ∀ b off, A = some ⟨b, off, none⟩ -> xs ≠ [] -> lo <= b /\ b ≠ g
theorem SlG.kept {w w' : World} {lo g : Nat} {L : List Nat} {v : Value} {xs : List Int} (h : SlG w lo g v xs) (hk : Kept L w w') (hL : ∀ k ∈ L, k < lo ∨ k = g ∨ w.heap.size <= k) : SlG w' lo g v xs := by
 obtain ⟨A, c, h1, h2, h3⟩ := h
 refine ⟨A, c, h1, ⟨h2.1, h2.2.1, fun i hi => ?_⟩, h3⟩
 obtain ⟨b, off, e, hlt, hc⟩ := h2.2.2 i hi
 have h4 := h3 b off e (by intro h; rw [h] at hi; simp at hi)
 exact ⟨b, off, e, lL hlt hk.size, fun x hx => hk.cell (fun hm => by rcases hL _ hm with h | h | h <;> simp at h <;> omega) (hc x hx)⟩
def IRow (w : World) (lo X R : Nat) (vi : Value) (xs : List ItemR) : Prop :=
 (xs = [] /\ vi = .slice none 0 0) ∨ ∃ (g : Nat) (L : List (ItemR × Value)), vi = .slice (some ⟨g, 0, none⟩) xs.length xs.length /\ lo <= g /\ RowL w g 78 (L.flatMap fun p => aD_ p.1.mark p.2 p.1.ver p.1.dead) /\ L.map (·.1) = xs /\ (∀ p ∈ L, SlG w lo g p.2 p.1.val) /\ xs ≠ []
def RdS (w : World) (X R : Nat) (vi vn : Value) (rest : List Int) : Prop :=
 ∃ A c, w.rowIs R 440 2 (rdF (.slice A rest.length c)) /\ Byt w w.heap.size A c rest /\ ∀ b off, A = some ⟨b, off, none⟩ -> rest ≠ [] -> b ≠ R /\ b ≠ X /\ vi.ownBlock ≠ some b /\ vn.ownBlock ≠ some b
structure XR (w : World) (lo X R : Nat) (x : RespR) (vi vn : Value) (rest : List Int) : Prop where
 row : RowL w X 40 (respC x vi vn)
 ne : X ≠ R
 hX : X < lo
 hR : R < lo
 hlo : lo <= w.heap.size
 rd : RdS w X R vi vn rest
 items : IRow w lo X R vi x.items
 nums : w.ownsRow lo 33 1 vn x.nums.length (x.nums.map (Value.int .u64))
def nlX (X R : Nat) (vi vn : Value) : List Nat := R :: X :: (vi.ownBlock.toList ++ vn.ownBlock.toList)
section
variable {w w' : World} {lo X R : Nat} {x : RespR} {vi vn : Value} {rest rest' : List Int}
theorem XR.cong (h : XR w lo X R x vi vn rest) (e : rest = rest') : XR w lo X R x vi vn rest' := by subst e; exact h
theorem IRow.kept {xs : List ItemR} {L : List Nat} (h : IRow w lo X R vi xs) (hk : Kept L w w') (hL : ∀ k ∈ L, (k = X ∨ k = R ∨ w.heap.size <= k)) (hX : X < lo) (hR : R < lo) : IRow w' lo X R vi xs := by
 rcases h with h | ⟨g, M, h1, h2, h3, h4, h5, h6⟩
 ·exact .inl h
 have hg := h3.lt
 refine .inr ⟨g, M, h1, h2, h3.kept hk (fun hm => ?_), h4, fun p hp => (h5 p hp).kept hk fun k hk1 => ?_, h6⟩
 ·rcases hL g hm with h | h | h <;> omega
 rcases hL k hk1 with h | h | h <;> omega
theorem XR.ask (h : XR w lo X R x vi vn rest) (hr : rest ≠ []) : ∃ v, w.rowIs R 440 2 (rdF v) /\ SlX w (nlX X R vi vn) v rest := by
 obtain ⟨A, c, h1, h2, h3⟩ := h.rd
 refine ⟨_, h1, A, c, rfl, h2, fun b off e hm => ?_⟩
 obtain ⟨a1, a2, a3, a4⟩ := h3 b off e hr
 simp only [nlX, List.mem_cons, List.mem_append, Option.mem_toList] at hm
 rcases hm with hm | hm | hm | hm
 ·exact a1 hm
 ·exact a2 hm
 ·exact a3 hm
 exact a4 hm
theorem XR.told (h : XR w lo X R x vi vn rest) (hk : Kept [R] w w') {v : Value} (hR : w'.rowIs R 440 2 (rdF v)) (hv : SlX w' (nlX X R vi vn) v rest') : XR w' lo X R x vi vn rest' := by
 have hX := h.hX
 have hRl := h.hR
 have hlo := h.hlo
 refine ⟨h.row.kept hk (by simp; exact h.ne), h.ne, hX, hRl, lT hlo hk.size, ?_, h.items.kept hk (fun k hk => by simp at hk; exact .inr (.inl hk)) hX hRl, hk.own2 h.nums fun k hk1 e => ?_⟩
 ·obtain ⟨A, c, rfl, h2, h3⟩ := hv
  refine ⟨A, c, hR, h2, fun b off e _ => ?_⟩
  have := h3 b off e
  simp only [nlX, List.mem_cons, List.mem_append, Option.mem_toList, not_or] at this
  exact ⟨this.1, this.2.1, this.2.2.1, this.2.2.2⟩
 simp at hk1
 subst hk1
 have := (h.nums.lt _ e).1
 omega
theorem XR.setF (h : XR w lo X R x vi vn rest) {j : Nat} {u : Value} {x' : RespR} (e : (respC x vi vn).set j u = respC x' vi vn) (e1 : x'.items = x.items) (e2 : x'.nums = x.nums) :
  XR (w.setCell ⟨X, j, none⟩ u) lo X R x' vi vn rest /\ KX lo X R w (w.setCell ⟨X, j, none⟩ u) := by
 have hk : Kept [X] w (w.setCell ⟨X, j, none⟩ u) := (Kept.refl _ _).setCell (by simp) _
 have hX := h.hX
 have hRl := h.hR
 have hnums := hk.own2 h.nums fun k hk1 e => by
  simp at hk1
  subst hk1
  have := (h.nums.lt _ e).1
  omega
 refine ⟨⟨by rw [<- e]; exact h.row.set j u, h.ne, hX, hRl, lT h.hlo hk.size, ?_, by rw [e1]; exact IRow.kept (L := [X]) h.items hk (fun k hk => by simp at hk; exact .inl hk) hX hRl, by rw [e2]; exact hnums⟩, KX.of_kept hk h.hlo (fun k hk => by simp at hk; exact .inr (.inl hk))⟩
 obtain ⟨A, c, h1, h2, h3⟩ := h.rd
 refine ⟨A, c, hk.row (by simp; exact fun e => h.ne e.symm) h1, ⟨h2.1, h2.2.1, fun i hi => ?_⟩, h3⟩
 obtain ⟨b, off, e, hlt, hc⟩ := h2.2.2 i hi
 exact ⟨b, off, e, lL hlt hk.size, fun y hy => hk.cell (fun hm => (h3 b off e (by intro h0; rw [h0] at hi; simp at hi)).2.1 (by simpa using hm)) (hc y hy)⟩
end
theorem cX_ (NL : List Nat) (R n most : Nat) (hRN : R ∈ NL) (v : Value) (rest : List Int) (w : World) (hn : n < 18446744073709551616) (hl : rest.length <= 950000)
  (hR : w.rowIs R 440 2 (rdF v)) (hv : SlX w NL v (putV n ++ rest)) :
  Calls Tryz.prog 305 #[.pointer (some ⟨R, 0, none⟩), .int .u64 most] w fun e w' => e = .returned (.tuple #[.int .u64 n, .bool (decide (n <= most))]) /\ ∃ v', w'.rowIs R 440 2 (rdF v') /\ SlX w' NL v' rest /\ Kept [R] w w' := by
 have h10 := ad_ hn
 have HN := kp (cv_ NL R n hRN v rest w (cj_ hn) (by rw [lA]; omega) hR hv)
 clear hR hv
 by_cases hm : n <= most
 ·have g : decide ((n : Int) <= (most : Int)) = true := by simp; omega
  go_enter Tryz.func305, Tryz.ntmps305
  go_wp2_with fail
  refine HN.o.mono ?_
  rintro e w2 ⟨v', rfl, h1, h2, h3⟩
  obtain ⟨H1, H2, H3⟩ := kq3 h1 h2 h3
  clear h1 h2 h3
  go_wp2_with fail
  go_ret2
  exact ⟨congrArg (fun b => Ending.returned (Value.tuple #[.int .u64 n, .bool b])) (eT_ hm).symm, v', H1.o, H2.o, H3.o⟩
 have g : decide ((n : Int) <= (most : Int)) = false := by simp; omega
 go_enter Tryz.func305, Tryz.ntmps305
 go_wp2_with fail
 refine HN.o.mono ?_
 rintro e w2 ⟨v', rfl, h1, h2, h3⟩
 obtain ⟨H1, H2, H3⟩ := kq3 h1 h2 h3
 clear h1 h2 h3
 go_wp2_with fail
 go_ret2
 exact ⟨congrArg (fun b => Ending.returned (Value.tuple #[.int .u64 n, .bool b])) (eF hm).symm, v', H1.o, H2.o, H3.o⟩
def GetPost (w : World) (lo X R : Nat) (x : RespR) (rest : List Int) (e : Ending) (w' : World) : Prop := e = .returned (.bool true) /\ KX lo X R w w' /\ ∃ vi vn, XR w' lo X R x vi vn rest
theorem bT_ (n : Nat) (rest : List Int) : putV n ++ rest ≠ [] := by
 have := bs_ (m := n)
 intro h
 rw [List.append_eq_nil_iff] at h
 rw [h.1] at this
 simp at this
theorem get_ver {w : World} {lo X R : Nat} {x : RespR} {vi vn : Value} {rest : List Int} (n : Nat) (hn : n < 18446744073709551616) (h : XR w lo X R x vi vn (putV n ++ rest)) (hl : rest.length <= 950000) :
  Calls Tryz.prog 355 #[.pointer (some ⟨R, 0, none⟩), .pointer (some ⟨X, 0, none⟩)] w (GetPost w lo X R { x with ver := n } rest) := by
 obtain ⟨v, h1, h2⟩ := h.ask (bT_ n rest)
 have HN := kp (cX_ (nlX X R vi vn) R n 18446744073709551615 (by simp [nlX]) v rest w hn hl h1 h2)
 rw [show decide (n <= 18446744073709551615) = true by simp; omega] at HN
 have H := kp h
 clear h h1 h2
 go_enter Tryz.func355, Tryz.ntmps355
 go_wp2_with fail
 refine HN.o.mono ?_
 rintro e w2 ⟨rfl, v', h1, h2, h3⟩
 have h4 := H.o.told h3 h1 h2
 have c3 : w2.cell? ⟨X, 3, none⟩ = some (.int .u64 x.ver) := h4.row.cell rfl
 have f3 : w2.frozen? ⟨X, 3, none⟩ = false := h4.row.frozen 3
 obtain ⟨HE, HK⟩ := kq2 (h4.setF (j := 3) (u := .int .u64 n) (x' := { x with ver := n }) rfl rfl rfl) (KX.of_kept (lo := lo) (X := X) (R := R) h3 H.o.hlo (by simp))
 clear h1 h2 h3 h4
 go_wp2_with fail
 go_ret
 exact ⟨rfl, HK.o.trans HE.o.2, vi, vn, HE.o.1⟩
theorem get_cnt {w : World} {lo X R : Nat} {x : RespR} {vi vn : Value} {rest : List Int} (n : Nat) (hn : n <= 1099511627776) (h : XR w lo X R x vi vn (putV n ++ rest)) (hl : rest.length <= 950000) :
  Calls Tryz.prog 357 #[.pointer (some ⟨R, 0, none⟩), .pointer (some ⟨X, 0, none⟩)] w (GetPost w lo X R { x with count := n } rest) := by
 obtain ⟨v, h1, h2⟩ := h.ask (bT_ n rest)
 have HN := kp (cX_ (nlX X R vi vn) R n 1099511627776 (by simp [nlX]) v rest w (by omega) hl h1 h2)
 rw [show decide (n <= 1099511627776) = true by simp; omega] at HN
 have hw : IntKind.i64.wrap (n : Int) = n := by simp [IntKind.wrap, IntKind.bits, IntKind.signed]; omega
 have H := kp h
 clear h h1 h2
 go_enter Tryz.func357, Tryz.ntmps357
 go_wp2_with fail
 refine HN.o.mono ?_
 rintro e w2 ⟨rfl, v', h1, h2, h3⟩
 have h4 := H.o.told h3 h1 h2
 have c3 : w2.cell? ⟨X, 4, none⟩ = some (.int .i64 x.count) := h4.row.cell rfl
 have f3 : w2.frozen? ⟨X, 4, none⟩ = false := h4.row.frozen 4
 obtain ⟨HE, HK⟩ := kq2 (h4.setF (j := 4) (u := .int .i64 n) (x' := { x with count := n }) rfl rfl rfl) (KX.of_kept (lo := lo) (X := X) (R := R) h3 H.o.hlo (by simp))
 clear h1 h2 h3 h4
 go_wp2_with fail
 go_ret
 exact ⟨rfl, HK.o.trans HE.o.2, vi, vn, HE.o.1⟩
end Go.Proofs.YtnjhpgmbfblgaaaGreat.Ord
