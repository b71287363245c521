/- The buffer that a response is written to; walks of the parts that write; Walks of the parts that write: numbers and items; Walk of the part that writes items; The response that is read: its state; walks of the parts that read numbers. -/
import Derived.Test.YtnjhpgmbfblgaaaGreatMS0
import Derived.Test.YtnjhpgmbfblgaaaGreatMD1
import Derived.Test.YtnjhpgmbfblgaaaGreatMH4
import Derived.Test.YtnjhpgmbfblgaaaGreatMD5
namespace Go.Proofs.YtnjhpgmbfblgaaaGreat.Ord
set_option maxRecDepth 100000
set_option maxHeartbeats 16000000
open Go.RowKit
set_option linter.unusedVariables false
set_option linter.unusedSimpArgs false
/-- the buffer at a block holds some bytes -/
def WB (w : World) (Q : Nat) (out : List Int) : Prop := ∃ v, RowL w Q 26 [v] /\ SlX w [Q] v out
theorem Own8.gen {w : World} {base : Nat} {v : Value} {xs : List Int} (h : Own8 w base v xs) : ∃ A L c, v = .slice A L c /\ xs.length = L /\ Byt w w.heap.size A c xs := by
 obtain ⟨A, c, rfl, hb⟩ := h.val
 exact ⟨A, _, c, rfl, rfl, hb⟩
section
variable {w w' : World} {Q : Nat} {out out' : List Int}
theorem WB.lt (h : WB w Q out) : Q < w.heap.size := by obtain ⟨v, h1, _⟩ := h; exact h1.lt
theorem WB.cong (h : WB w Q out) (e : out = out') : WB w Q out' := by subst e; exact h
theorem WB.below (h : WB w Q out) (hb : Below w.heap.size w w') : WB w' Q out := by
 obtain ⟨v, h1, h2⟩ := h
 exact ⟨v, h1.of_block (hb.block _ h1.lt), h2.kept (Kept.of_below (L := []) hb) (by simp)⟩
theorem WB.put {base : Nat} {v : Value} (h : WB w Q out) (hb : Below w.heap.size w w') (ho : Own8 w' base v out') (hbase : w.heap.size <= base) :
  WB (w'.setCell ⟨Q, 0, none⟩ v) Q out' /\ Kept [Q] w (w'.setCell ⟨Q, 0, none⟩ v) := by
 obtain ⟨u, h1, _⟩ := h
 have hl := h1.lt
 have hr := (h1.of_block (hb.block _ hl)).set 0 v
 have hk : Kept [Q] w' (w'.setCell ⟨Q, 0, none⟩ v) := (Kept.refl _ _).setCell (by simp) _
 refine ⟨⟨v, hr, ?_⟩, (Kept.of_below hb).trans hk⟩
 exact (SlX.of_slb (SlB.of_own ho) (fun k hk => by simp at hk; omega)).kept hk (fun k hk => hk)
end

theorem number354 (Q n most : Nat) (out : List Int) (w : World) (h : WB w Q out) (hn : n < 18446744073709551616) (hol : out.length <= 1000000) :
  Calls Tryz.prog 354 #[.pointer (some ⟨Q, 0, none⟩), .int .u64 n, .int .u64 most] w fun e w' => e = .returned (.bool (decide (n <= most))) /\ WB w' Q (out ++ putV n) /\ Kept [Q] w w' := by
 obtain ⟨v, h1, A, c, rfl, h2, h3⟩ := id h
 have c0 : w.cell? ⟨Q, 0, none⟩ = some (.slice A out.length c) := h1.cell rfl
 have HP := kp (put_any A out.length c out n w rfl hn (by omega) h2)
 have H := kp h
 have H1 := kp h1
 clear h h1 h2 h3
 go_enter Tryz.func354, Tryz.ntmps354
 go_wp2_with fail
 refine HP.out.mono ?_
 rintro e w2 ⟨v2, rfl, ho, hb⟩
 have f0 : w2.frozen? ⟨Q, 0, none⟩ = false := (H1.out.of_block (hb.block _ H1.out.lt)).frozen 0
 have c2 : w2.cell? ⟨Q, 0, none⟩ = some (.slice A out.length c) := (H1.out.of_block (hb.block _ H1.out.lt)).cell rfl
 obtain ⟨A2, L, c3, rfl, _⟩ := ho.gen
 have HE := kp (H.out.put hb ho (Nat.le_refl _))
 clear ho hb
 by_cases hm : n <= most
 ·have g : decide ((n : Int) <= (most : Int)) = true := by simp; omega
  go_wp2_with fail
  go_ret
  exact ⟨congrArg (fun b => Ending.returned (Value.bool b)) (decide_eq_true hm).symm, HE.out⟩
 ·have g : decide ((n : Int) <= (most : Int)) = false := by simp; omega
  go_wp2_with fail
  go_ret
  exact ⟨congrArg (fun b => Ending.returned (Value.bool b)) (decide_eq_false hm).symm, HE.out⟩

/-- what a response's numbers and lengths keep -/
structure RespS (r : RespR) : Prop where
 nitems : r.items.length <= 100
 nnums : r.nums.length <= 100
 vals : ∀ x ∈ r.items, x.val.length <= 3000
 bytes : ∀ x ∈ r.items, ∀ y ∈ x.val, 0 <= y /\ y < 256
 ver : 0 <= r.ver /\ r.ver < 18446744073709551616
 nums : ∀ x ∈ r.nums, 0 <= x /\ x < 18446744073709551616
 vers : ∀ x ∈ r.items, 0 <= x.ver /\ x.ver < 18446744073709551616
 deads : ∀ x ∈ r.items, 0 <= x.dead /\ x.dead < 18446744073709551616
 count : -9223372036854775808 <= r.count /\ r.count < 9223372036854775808
 marks : ∀ x ∈ r.items, -9223372036854775808 <= x.mark /\ x.mark < 9223372036854775808
 err : -9223372036854775808 <= r.err /\ r.err < 9223372036854775808
 op : -9223372036854775808 <= r.op /\ r.op < 9223372036854775808
def okI (x : ItemR) : Bool := decide (0 <= x.mark /\ x.mark <= 2 /\ x.val.length <= 65536)
def putI (x : ItemR) : List Int := if x.mark = 0 then putV 0 else putV x.mark.toNat ++ putV x.ver.toNat ++ putV x.dead.toNat ++ (putV x.val.length ++ x.val)
def putIs : List ItemR -> List Int
 | [] => []
 | x :: l => putI x ++ putIs l
def putNs : List Int -> List Int
 | [] => []
 | x :: l => putV x.toNat ++ putNs l
theorem putIs_snoc (l : List ItemR) (x : ItemR) : putIs (l ++ [x]) = putIs l ++ putI x := by
 induction l with
 | nil => simp [putIs]
 | cons a l ih => simp [putIs, ih, List.append_assoc]
theorem putNs_snoc (l : List Int) (x : Int) : putNs (l ++ [x]) = putNs l ++ putV x.toNat := by
 induction l with
 | nil => simp [putNs]
 | cons a l ih => simp [putNs, ih, List.append_assoc]
/-- whether a part of a response is allowed, and what is written of it -/
def okP (p : Part) (r : RespR) : Bool := match p with
 | .ver => true
 | .cnt => decide (0 <= r.count /\ r.count <= 1099511627776)
 | .one => decide (r.items.length = 1)
 | .item => r.items.all okI
 | .many => decide (0 < r.items.length /\ r.items.length <= 16)
 | .nums => decide (r.nums.length <= 64)
def putP (p : Part) (r : RespR) : List Int := match p with
 | .ver => putV r.ver.toNat
 | .cnt => putV r.count.toNat
 | .one => []
 | .item => putIs r.items
 | .many => putV r.items.length
 | .nums => putV r.nums.length ++ putNs r.nums
/-- what a part that writes begins with -/
structure PutPre (w : World) (B Q X : Nat) (r : RespR) (vi vn : Value) (out : List Int) : Prop where
 buf : WB w Q out
 row : RowL w X 40 (respC r vi vn)
 ok : RespOk w B r vi vn
 hB : B <= Q
 ne : X ≠ Q
 hs : RespS r
 len : out.length <= 600000
def PutPost (w : World) (Q : Nat) (p : Part) (r : RespR) (out : List Int) (e : Ending) (w' : World) : Prop := e = .returned (.bool (okP p r)) /\ (okP p r = true -> WB w' Q (out ++ putP p r)) /\ Kept [Q] w w'

theorem put_ver {w : World} {B Q X : Nat} {r : RespR} {vi vn : Value} {out : List Int} (h : PutPre w B Q X r vi vn out) :
  Calls Tryz.prog 353 #[.pointer (some ⟨Q, 0, none⟩), .pointer (some ⟨X, 0, none⟩)] w (PutPost w Q .ver r out) := by
 have hv := h.hs.ver
 obtain ⟨n, hn⟩ : ∃ n : Nat, r.ver = n := ⟨r.ver.toNat, by omega⟩
 have hn2 : n < 18446744073709551616 := by omega
 have c3 : w.cell? ⟨X, 3, none⟩ = some (.int .u64 n) := by rw [<- hn]; exact h.row.cell rfl
 have HN := kp (number354 Q n 18446744073709551615 out w h.buf hn2 (by have := h.len; omega))
 have hd : decide (n <= 18446744073709551615) = true := by simp; omega
 rw [hd] at HN
 have HV := kp hn
 clear h hd hv hn
 go_enter Tryz.func353, Tryz.ntmps353
 go_wp2_with fail
 refine HN.out.mono ?_
 rintro e w2 ⟨rfl, h2, h3⟩
 have H2 := kp h2
 have H3 := kp h3
 clear h2 h3
 go_wp2_with fail
 go_ret
 exact ⟨rfl, fun _ => H2.out.cong (by simp only [putP, HV.out, Int.toNat_natCast]), H3.out⟩
theorem put_cnt {w : World} {B Q X : Nat} {r : RespR} {vi vn : Value} {out : List Int} (h : PutPre w B Q X r vi vn out) :
  Calls Tryz.prog 356 #[.pointer (some ⟨Q, 0, none⟩), .pointer (some ⟨X, 0, none⟩)] w (PutPost w Q .cnt r out) := by
 have hc := h.hs.count
 have c4 : w.cell? ⟨X, 4, none⟩ = some (.int .i64 r.count) := h.row.cell rfl
 by_cases h0 : 0 <= r.count
 ·obtain ⟨n, hn⟩ : ∃ n : Nat, r.count = n := ⟨r.count.toNat, by omega⟩
  have hn2 : n < 18446744073709551616 := by omega
  have HN := kp (number354 Q n 1099511627776 out w h.buf hn2 (by have := h.len; omega))
  have ho : okP .cnt r = decide (n <= 1099511627776) := by simp only [okP]; rw [Bool.eq_iff_iff]; simp; omega
  have HO := kp ho
  have HV := kp hn
  have hw : IntKind.u64.wrap (n : Int) = n := by simp [IntKind.wrap, IntKind.bits, IntKind.signed]; omega
  rw [hn] at c4
  have hg : decide ((0 : Int) <= (n : Int)) = true := by simp
  clear h ho hn h0 hc
  go_enter Tryz.func356, Tryz.ntmps356
  go_wp2_with fail
  refine HN.out.mono ?_
  rintro e w2 ⟨rfl, h2, h3⟩
  have H2 := kp h2
  have H3 := kp h3
  clear h2 h3
  go_wp2_with fail
  go_ret
  exact rb HO.out ⟨fun _ => H2.out.cong (by simp only [putP, HV.out, Int.toNat_natCast]), H3.out⟩
 ·have hg : decide ((0 : Int) <= r.count) = false := by simp; omega
  have ho : okP .cnt r = false := by simp [okP]; omega
  have HO := kp ho
  clear h ho h0 hc
  go_enter Tryz.func356, Tryz.ntmps356
  go_wp2_with fail
  go_ret
  exact rb HO.out ⟨fun h => by rw [HO.out] at h; simp at h, Kept.refl _ _⟩
theorem put_one {w : World} {B Q X : Nat} {r : RespR} {vi vn : Value} {out : List Int} (h : PutPre w B Q X r vi vn out) :
  Calls Tryz.prog 358 #[.pointer (some ⟨Q, 0, none⟩), .pointer (some ⟨X, 0, none⟩)] w (PutPost w Q .one r out) := by
 obtain ⟨⟨_, A, c, hvi, _⟩, _⟩ := h.ok
 have c2 : w.cell? ⟨X, 2, none⟩ = some (.slice A r.items.length c) := by rw [<- hvi]; exact h.row.cell rfl
 have HB := kp h.buf
 clear h hvi
 by_cases h1 : r.items.length = 1
 ·have hg : ((r.items.length : Int) == 1) = true := by simp; omega
  have ho : okP .one r = true := by simp [okP, h1]
  have HO := kp ho
  clear ho h1
  go_enter Tryz.func358, Tryz.ntmps358
  go_wp2_with fail
  go_ret
  exact rb HO.out ⟨fun _ => HB.out.cong (by simp [putP]), Kept.refl _ _⟩
 ·have hg : ((r.items.length : Int) == 1) = false := by simp; omega
  have ho : okP .one r = false := by simp [okP, h1]
  have HO := kp ho
  clear ho h1
  go_enter Tryz.func358, Tryz.ntmps358
  go_wp2_with fail
  go_ret
  exact rb HO.out ⟨fun h => by rw [HO.out] at h; simp at h, Kept.refl _ _⟩
theorem put_many {w : World} {B Q X : Nat} {r : RespR} {vi vn : Value} {out : List Int} (h : PutPre w B Q X r vi vn out) :
  Calls Tryz.prog 365 #[.pointer (some ⟨Q, 0, none⟩), .pointer (some ⟨X, 0, none⟩)] w (PutPost w Q .many r out) := by
 obtain ⟨⟨_, A, c, hvi, _⟩, _⟩ := h.ok
 have c2 : w.cell? ⟨X, 2, none⟩ = some (.slice A r.items.length c) := by rw [<- hvi]; exact h.row.cell rfl
 have hni := h.hs.nitems
 obtain ⟨n, hn⟩ : ∃ n, r.items.length = n := ⟨_, rfl⟩
 rw [hn] at c2 hni
 by_cases h0 : 0 < n
 ·have HN := kp (number354 Q n 16 out w h.buf (by omega) (by have := h.len; omega))
  have ho : okP .many r = decide (n <= 16) := by simp only [okP]; rw [Bool.eq_iff_iff]; simp; omega
  have HO := kp ho
  have HV := kp hn
  have hw : IntKind.u64.wrap (n : Int) = n := by simp [IntKind.wrap, IntKind.bits, IntKind.signed]; omega
  clear h ho hn hvi
  go_enter Tryz.func365, Tryz.ntmps365
  go_wp2_with fail
  refine HN.out.mono ?_
  rintro e w2 ⟨rfl, h2, h3⟩
  have H2 := kp h2
  have H3 := kp h3
  clear h2 h3
  go_wp2_with fail
  go_ret
  exact rb HO.out ⟨fun _ => H2.out.cong (by simp only [putP, HV.out]), H3.out⟩
 ·have ho : okP .many r = false := by simp [okP]; omega
  have HO := kp ho
  obtain rfl : n = 0 := by omega
  clear h ho h0 hvi hn
  go_enter Tryz.func365, Tryz.ntmps365
  go_wp2_with fail
  go_ret
  exact rb HO.out ⟨fun h => by rw [HO.out] at h; simp at h, Kept.refl _ _⟩
theorem putNs_len {l : List Int} (h : ∀ x ∈ l, 0 <= x /\ x < 18446744073709551616) : (putNs l).length <= 10 * l.length := by
 induction l with
 | nil => simp [putNs]
 | cons a l ih =>
  have h1 := ih fun s hs => h s (List.mem_cons_of_mem _ hs)
  have h2 := h a List.mem_cons_self
  have h3 := putV_len10 (n := a.toNat) (by omega)
  simp only [putNs, List.length_append, List.length_cons]
  omega
theorem putI_len {x : ItemR} (h1 : x.val.length <= 3000) (h2 : 0 <= x.ver /\ x.ver < 18446744073709551616) (h3 : 0 <= x.dead /\ x.dead < 18446744073709551616) (h4 : x.mark < 9223372036854775808) : (putI x).length <= 3040 := by
 have a1 := putV_len10 (n := x.mark.toNat) (by omega)
 have a2 := putV_len10 (n := x.ver.toNat) (by omega)
 have a3 := putV_len10 (n := x.dead.toNat) (by omega)
 have a4 := putV_len10 (n := x.val.length) (by omega)
 have a5 := putV_len10 (n := 0) (by omega)
 unfold putI
 split
 ·omega
 ·simp only [List.length_append]
  omega
theorem putIs_len {l : List ItemR} (h : ∀ x ∈ l, (putI x).length <= 3040) : (putIs l).length <= 3040 * l.length := by
 induction l with
 | nil => simp [putIs]
 | cons a l ih =>
  have h1 := ih fun s hs => h s (List.mem_cons_of_mem _ hs)
  have h2 := h a List.mem_cons_self
  simp only [putIs, List.length_append, List.length_cons]
  omega
theorem RespS.items_len {r : RespR} (h : RespS r) {k : Nat} : (putIs (r.items.take k)).length <= 304000 := by
 have h1 := putIs_len (l := r.items.take k) fun x hx => putI_len (h.vals x (List.mem_of_mem_take hx)) (h.vers x (List.mem_of_mem_take hx)) (h.deads x (List.mem_of_mem_take hx)) (h.marks x (List.mem_of_mem_take hx)).2
 have h2 : (r.items.take k).length <= 100 := by have := h.nitems; simp; omega
 omega
theorem RespS.nums_len {r : RespR} (h : RespS r) {k : Nat} : (putNs (r.nums.take k)).length <= 1000 := by
 have h1 := putNs_len (l := r.nums.take k) fun x hx => h.nums x (List.mem_of_mem_take hx)
 have h2 : (r.nums.take k).length <= 100 := by have := h.nnums; simp; omega
 omega

theorem put_nums {w : World} {B Q X : Nat} {r : RespR} {vi vn : Value} {out : List Int} (h : PutPre w B Q X r vi vn out) :
  Calls Tryz.prog 367 #[.pointer (some ⟨Q, 0, none⟩), .pointer (some ⟨X, 0, none⟩)] w (PutPost w Q .nums r out) := by
 obtain ⟨_, hnl, A, c, hvn, hel⟩ := h.ok
 have c5 : w.cell? ⟨X, 5, none⟩ = some (.slice A r.nums.length c) := by rw [<- hvn]; exact h.row.cell rfl
 have hX := h.row
 have hnn := h.hs.nnums
 have hns := h.hs.nums
 have hlen := fun k => h.hs.nums_len (k := k)
 have hB := h.hB
 have hne := h.ne
 have hol := h.len
 have hbuf := h.buf
 obtain ⟨xs, hxs⟩ : ∃ xs, r.nums = xs := ⟨_, rfl⟩
 obtain ⟨n, hn⟩ : ∃ n, xs.length = n := ⟨_, rfl⟩
 rw [hxs] at c5 hnn hns hel hlen
 rw [hn] at c5 hnn
 have hok : okP .nums r = decide (n <= 64) := by simp only [okP, hxs, hn]
 have hput : putP .nums r = putV n ++ putNs xs := by simp only [putP, hxs, hn]
 have HN := kp (number354 Q n 64 out w hbuf (by omega) (by omega))
 have hw : IntKind.u64.wrap (n : Int) = n := by simp [IntKind.wrap, IntKind.bits, IntKind.signed]; omega
 have hv10 := putV_len10 (n := n) (by omega)
 have HX := kp hX
 have HO := kp hok
 have HP := kp hput
 have HL := kp hlen
 have HE := kp hel
 have HNS := kp hns
 have HNX := kp hn
 have HB := kp hB
 have HQ := kp hbuf.lt
 have HNE := kp hne
 clear h hok hput hX hlen hel hns hvn hxs hn hB hbuf hne
 by_cases h64 : n <= 64
 ·have hd : decide (n <= 64) = true := by simp; omega
  rw [hd] at HN HO
  clear hd
  go_enter Tryz.func367, Tryz.ntmps367
  go_wp2_with fail
  refine HN.out.mono ?_
  rintro e w2 ⟨rfl, h2, h3⟩
  have c5' : w2.cell? ⟨X, 5, none⟩ = some (.slice A n c) := h3.cell (by simp; exact HNE.out) c5
  have H2 := kp h2
  have H3 := kp h3
  clear h2 h3
  go_wp2_with fail
  go_loopw [21] (fun j wr => ∃ k : Nat, k <= n /\ j = .int .i64 k /\ WB wr Q (out ++ putV n ++ putNs (xs.take k)) /\ Kept [Q] w wr) (fun j _ => n - (intOf j).toNat)
  case atStart => exact ⟨0, Nat.zero_le _, by go_num, H2.out.cong (by simp [putNs]), H3.out⟩
  case round =>
   obtain ⟨k, hk, rfl, hW, hK⟩ := hrel
   have HW := kp hW
   have HK := kp hK
   clear hW hK c5'
   by_cases hlt : k < n
   ·have hg : decide ((k : Int) < (n : Int)) = true := by simp; omega
    have hkx : k < xs.length := by rw [HNX.out]; exact hlt
    have hx := List.getElem?_eq_getElem hkx
    obtain ⟨x, hxe⟩ : ∃ x, xs[k] = x := ⟨_, rfl⟩
    rw [hxe] at hx
    have hxm : x ∈ xs := List.mem_of_getElem? hx
    obtain ⟨m, hm⟩ : ∃ m : Nat, x = m := ⟨x.toNat, by have := HNS.out x hxm; omega⟩
    have hm2 : m < 18446744073709551616 := by have := HNS.out x hxm; omega
    obtain ⟨b, off, rfl, hbB, hc⟩ := HE.out k x hx
    have hcr : wr.cell? ⟨b, off + k, none⟩ = some (.int .u64 m) := by
     rw [<- hm]
     exact HK.out.cell (by simp; have := HB.out; omega) hc
    have hl := HL.out k
    obtain ⟨o, ho⟩ : ∃ o, out ++ putV n ++ putNs (xs.take k) = o := ⟨_, rfl⟩
    rw [ho] at HW
    have hol2 : o.length <= 700000 := by rw [<- ho]; simp only [List.length_append]; omega
    have hnx : out ++ putV n ++ putNs (xs.take (k + 1)) = o ++ putV m := by
     rw [<- ho, List.take_add_one, hx, Option.toList_some, putNs_snoc, hm]
     simp [List.append_assoc]
    have HNX2 := kp hnx
    obtain ⟨v, hv1, A3, c3, rfl, hv2, hv3⟩ := id HW.out
    have c0 : wr.cell? ⟨Q, 0, none⟩ = some (.slice A3 o.length c3) := hv1.cell rfl
    have HPut := kp (put_any A3 o.length c3 o m wr rfl hm2 (by omega) hv2)
    have HV1 := kp hv1
    clear hx hxe hxm hc hl ho hnx hv1 hv2 hv3 hm
    go_wp2_with fail
    refine HPut.out.mono ?_
    rintro e w5 ⟨v5, rfl, ho5, hb5⟩
    have f5 : w5.frozen? ⟨Q, 0, none⟩ = false := (HV1.out.of_block (hb5.block _ HV1.out.lt)).frozen 0
    have c55 : w5.cell? ⟨Q, 0, none⟩ = some (.slice A3 o.length c3) := (HV1.out.of_block (hb5.block _ HV1.out.lt)).cell rfl
    obtain ⟨A5, L5, cc5, rfl, _⟩ := ho5.gen
    have HEND := kp (HW.out.put hb5 ho5 (Nat.le_refl _))
    clear ho5 hb5
    go_wp2_with fail
    go_roundw
    case rel => exact ⟨k + 1, by omega, by go_num, HEND.out.1.cong HNX2.out.symm, HK.out.trans HEND.out.2⟩
    case measure => simp [intOf]; omega
   ·obtain rfl : k = n := by omega
    have hg : decide ((k : Int) < (k : Int)) = false := by simp
    go_wp2_with fail
    go_ret
    exact rb HO.out ⟨fun _ => HW.out.cong (by rw [HP.out, List.take_of_length_le (by rw [HNX.out]; exact Nat.le_refl _)]; simp [List.append_assoc]), HK.out⟩
 ·have hd : decide (n <= 64) = false := by simp; omega
  rw [hd] at HN HO
  clear hd
  go_enter Tryz.func367, Tryz.ntmps367
  go_wp2_with fail
  refine HN.out.mono ?_
  rintro e w2 ⟨rfl, h2, h3⟩
  have H3 := kp h3
  clear h2 h3
  go_wp2_with fail
  go_ret
  exact rb HO.out ⟨fun h => by rw [HO.out] at h; simp at h, H3.out⟩
theorem f233_name : (Tryz.f233.name == "runtime.NumGoroutine") = false := by decide
theorem f233_body : Tryz.f233.body.isSome = true := rfl
theorem f361_name : (Tryz.f361.name == "runtime.NumGoroutine") = false := by decide
theorem f361_body : Tryz.f361.body.isSome = true := rfl
theorem wrap_nat {n : Nat} (h : n < 18446744073709551616) : IntKind.u64.wrap (n : Int) = n := by simp [IntKind.wrap, IntKind.bits, IntKind.signed]; omega
/-- an item at work -/
structure ItemAt (w : World) (G Q : Nat) (m : Nat) (Av : Option Addr) (nv cv : Nat) (ver dead : Nat) (val out : List Int) : Prop where
 row : RowL w G 78 [.int .i64 m, .slice Av nv cv, .int .u64 ver, .int .u64 dead]
 buf : WB w Q out
 byt : Byt w w.heap.size Av cv val
 ln : val.length = nv
 far : ∀ b off, Av = some ⟨b, off, none⟩ -> val ≠ [] -> b ≠ Q
theorem ItemAt.below {w w' : World} {G Q m nv cv ver dead : Nat} {Av : Option Addr} {val out : List Int} (h : ItemAt w G Q m Av nv cv ver dead val out) (hb : Below w.heap.size w w') : ItemAt w' G Q m Av nv cv ver dead val out :=
 ⟨h.row.of_block (hb.block _ h.row.lt), h.buf.below hb, (h.byt.below hb (Nat.le_refl _)).mono hb.size, h.ln, h.far⟩

theorem kept_drew {L : List Nat} {w w' : World} (h : Kept L w w') : Kept L w w'.drew := ⟨h.os, h.tape, h.output, h.size, h.block⟩
theorem ItemAt.drew {w : World} {G Q m nv cv ver dead : Nat} {Av : Option Addr} {val out : List Int} (h : ItemAt w G Q m Av nv cv ver dead val out) : ItemAt w.drew G Q m Av nv cv ver dead val out :=
 ⟨h.row, h.buf, h.byt, h.ln, h.far⟩
theorem ItemAt.put {w w' : World} {G Q m nv cv ver dead base : Nat} {Av : Option Addr} {val out out' : List Int} {v : Value} (h : ItemAt w G Q m Av nv cv ver dead val out) (hb : Below w.heap.size w w') (ho : Own8 w' base v out') (hbase : w.heap.size <= base) (hne : G ≠ Q) :
  ItemAt (w'.setCell ⟨Q, 0, none⟩ v) G Q m Av nv cv ver dead val out' /\ Kept [Q] w (w'.setCell ⟨Q, 0, none⟩ v) := by
 have h' := h.below hb
 obtain ⟨h1, h2⟩ := h.buf.put hb ho hbase
 have hk : Kept [Q] w' (w'.setCell ⟨Q, 0, none⟩ v) := (Kept.refl _ _).setCell (by simp) _
 refine ⟨⟨h'.row.kept hk (by simpa using hne), h1, ⟨h'.byt.1, h'.byt.2.1, fun i hi => ?_⟩, h.ln, h.far⟩, h2⟩
 obtain ⟨b, off, e, hlt, hc⟩ := h'.byt.2.2 i hi
 exact ⟨b, off, e, Nat.lt_of_lt_of_le hlt hk.size, fun x hx => hk.cell (fun hm => h.far b off e (by intro h0; rw [h0] at hi; simp at hi) (by simpa using hm)) (hc x hx)⟩
theorem put_item {w : World} {B Q X : Nat} {r : RespR} {vi vn : Value} {out : List Int} (h : PutPre w B Q X r vi vn out) :
  Calls Tryz.prog 360 #[.pointer (some ⟨Q, 0, none⟩), .pointer (some ⟨X, 0, none⟩)] w (PutPost w Q .item r out) := by
 obtain ⟨⟨hil, A, c, hvi, hel⟩, _⟩ := h.ok
 have c2 : w.cell? ⟨X, 2, none⟩ = some (.slice A r.items.length c) := by rw [<- hvi]; exact h.row.cell rfl
 have hni := h.hs.nitems
 have hlen := fun k => h.hs.items_len (k := k)
 have hB := h.hB
 have hol := h.len
 have hbuf := h.buf
 have hvals := h.hs.vals
 have hvers := h.hs.vers
 have hdeads := h.hs.deads
 have hmarks := h.hs.marks
 obtain ⟨xs, hxs⟩ : ∃ xs, r.items = xs := ⟨_, rfl⟩
 obtain ⟨n, hn⟩ : ∃ n, xs.length = n := ⟨_, rfl⟩
 rw [hxs] at c2 hni hel hlen hvals hvers hdeads hmarks
 rw [hn] at c2 hni
 have hok : okP .item r = xs.all okI := by simp only [okP, hxs]
 have hput : putP .item r = putIs xs := by simp only [putP, hxs]
 have HO := kp hok
 have HP := kp hput
 have HL := kp hlen
 have HE := kp hel
 have HV := kp hvals
 have HVE := kp hvers
 have HDE := kp hdeads
 have HMK := kp hmarks
 have HNX := kp hn
 have HB := kp hB
 have HQ := kp hbuf.lt
 have HW0 := kp (hbuf.cong (show out = out ++ putIs (xs.take 0) by simp [putIs]))
 clear h hok hput hlen hel hvi hxs hn hB hbuf hvals hvers hdeads hmarks
 go_enter Tryz.func360, Tryz.ntmps360
 go_wp2_with fail
 go_loopw [12] (fun j wr => ∃ k : Nat, k <= n /\ j = .int .i64 k /\ (xs.take k).all okI = true /\ WB wr Q (out ++ putIs (xs.take k)) /\ Kept [Q] w wr) (fun j _ => n - (intOf j).toNat)
 case atStart => exact ⟨0, Nat.zero_le _, by go_num, by simp, HW0.out, Kept.refl _ _⟩
 case round =>
  obtain ⟨k, hk, rfl, hall, hW, hK⟩ := hrel
  have HW := kp hW
  have HK := kp hK
  have HALL := kp hall
  clear hW hK hall c2
  by_cases hlt : k < n
  ·have hg : decide ((k : Int) < (n : Int)) = true := by simp; omega
   have hkx : k < xs.length := by rw [HNX.out]; exact hlt
   have hx := List.getElem?_eq_getElem hkx
   obtain ⟨x, hxe⟩ : ∃ x, xs[k] = x := ⟨_, rfl⟩
   rw [hxe] at hx
   have hxm : x ∈ xs := List.mem_of_getElem? hx
   have hv1 := HV.out x hxm
   have hv2 := HVE.out x hxm
   have hv3 := HDE.out x hxm
   have hv4 := HMK.out x hxm
   obtain ⟨b, off, v, rfl, hbB, hc, hd1, hd2, Av, cv, rfl, hby⟩ := HE.out k x hx
   have hbw : Below B w wr := HK.out.below (by have := HB.out; have := HQ.out; omega) (by simp; exact HB.out)
   have hcr := hc.below hbw hbB
   have hbyr : Byt wr wr.heap.size Av cv x.val := (hby.below hbw (Nat.le_refl _)).mono (by have := HB.out; have := HQ.out; have := hbw.size; omega)
   have hfar : ∀ b off, Av = some ⟨b, off, none⟩ -> x.val ≠ [] -> b ≠ Q := fun b off e hne => by
    obtain ⟨b', off', e', hlt, _⟩ := hby.2.2 0 (List.length_pos_iff.2 hne)
    rw [e] at e'
    cases e'
    have := HB.out
    omega
   have hfull : (xs.all okI = true) -> okI x = true := fun h => List.all_eq_true.1 h x hxm
   have hl := HL.out k
   obtain ⟨o, ho⟩ : ∃ o, out ++ putIs (xs.take k) = o := ⟨_, rfl⟩
   rw [ho] at HW
   have hol2 : o.length <= 910000 := by rw [<- ho]; simp only [List.length_append]; omega
   have hpx := putI_len hv1 hv2 hv3 hv4.2
   have hnx : out ++ putIs (xs.take (k + 1)) = o ++ putI x := by
    rw [<- ho, List.take_add_one, hx, Option.toList_some, putIs_snoc]
    simp [List.append_assoc]
   have hnall : (xs.take (k + 1)).all okI = okI x := by
    rw [List.take_add_one, hx, Option.toList_some, List.all_append, HALL.out]
    simp
   obtain ⟨im, iv, ir, id⟩ := x
   simp only at hv1 hv2 hv3 hv4 hcr hbyr hd2 hpx hfar
   have HNX2 := kp hnx
   have HNA := kp hnall
   have HF := kp hfull
   have HCR := kp hcr
   have hlit : itemL im (.slice Av iv.length cv) ir id = [.int .i64 im, .slice Av iv.length cv, .int .u64 ir, .int .u64 id] := rfl
   rw [hlit] at HCR
   have HHX := kp hx
   clear hx hxe hxm hc hby hl ho hnx hnall hcr hfull hd1 hd2 hlit
   have d0 : wr.cell? ⟨b, off + k * 4, none⟩ = some (.int .i64 im) := HCR.out 0 _ rfl
   have d1 : wr.cell? ⟨b, off + k * 4 + 1, none⟩ = some (.slice Av iv.length cv) := HCR.out 1 _ rfl
   have d2 : wr.cell? ⟨b, off + k * 4 + 2, none⟩ = some (.int .u64 ir) := HCR.out 2 _ rfl
   have d3 : wr.cell? ⟨b, off + k * 4 + 3, none⟩ = some (.int .u64 id) := HCR.out 3 _ rfl
   by_cases hbad : im < 0 ∨ 2 < im
   ·have hokx : okI ⟨im, iv, ir, id⟩ = false := by simp [okI]; omega
    have HOX := kp hokx
    have hfa : xs.all okI = false := by
     cases e : xs.all okI
     ·rfl
     ·rw [HF.out e] at hokx; simp at hokx
    have HFA := kp hfa
    have hB1 := kp (below1 wr (.cells #[.int .i64 im, .slice Av iv.length cv, .int .u64 ir, .int .u64 id] 78))
    by_cases hneg : im < 0
    ·have g1 : decide (im < 0) = true := by simp; omega
     clear hokx hfa hbad hneg
     go_wp2_with fail
     go_ret
     exact ⟨congrArg (fun b => Ending.returned (Value.bool b)) (HO.out.trans HFA.out).symm, fun h => by rw [HO.out, HFA.out] at h; simp at h, HK.out.trans (Kept.of_below hB1.out)⟩
    ·have g1 : decide (im < 0) = false := by simp; omega
     have g2 : decide (2 < im) = true := by simp; omega
     clear hokx hfa hbad hneg
     go_wp2_with fail
     go_ret
     exact ⟨congrArg (fun b => Ending.returned (Value.bool b)) (HO.out.trans HFA.out).symm, fun h => by rw [HO.out, HFA.out] at h; simp at h, HK.out.trans (Kept.of_below hB1.out)⟩
   ·have hokx : okI ⟨im, iv, ir, id⟩ = true := by simp [okI]; omega
    have HOX := kp hokx
    have g1 : decide (im < 0) = false := by simp; omega
    have g2 : decide (2 < im) = false := by simp; omega
    have g3 : decide ((65536 : Int) < (iv.length : Int)) = false := by simp; omega
    obtain ⟨m, rfl⟩ : ∃ m : Nat, im = m := ⟨im.toNat, by omega⟩
    obtain ⟨ver, rfl⟩ : ∃ m : Nat, ir = m := ⟨ir.toNat, by omega⟩
    obtain ⟨dead, rfl⟩ : ∃ m : Nat, id = m := ⟨id.toNat, by omega⟩
    have hm2 : m <= 2 := by omega
    have hver : ver < 18446744073709551616 := by omega
    have hdead : dead < 18446744073709551616 := by omega
    obtain ⟨nv, hnv⟩ : ∃ nv, iv.length = nv := ⟨_, rfl⟩
    rw [hnv] at g3 d1 hv1
    have hwr := wrap_nat (n := m) (by omega)
    have hI0 : ItemAt (wr.alloc (.cells #[.int .i64 m, .slice Av nv cv, .int .u64 ver, .int .u64 dead] 78)) wr.heap.size Q m Av nv cv ver dead iv o := by
     have hb1 := below1 wr (.cells #[.int .i64 m, .slice Av nv cv, .int .u64 ver, .int .u64 dead] 78)
     exact ⟨RowL.new wr 78 _, HW.out.below hb1, (hbyr.below hb1 (Nat.le_refl _)).mono hb1.size, hnv, hfar⟩
    have HK0 := kp (HK.out.trans (Kept.of_below (below1 wr (.cells #[.int .i64 m, .slice Av nv cv, .int .u64 ver, .int .u64 dead] 78))))
    have HI0 := kp hI0
    have HPX := kp (show putI ⟨(m : Int), iv, (ver : Int), (dead : Int)⟩ = if m = 0 then putV 0 else putV m ++ putV ver ++ putV dead ++ (putV nv ++ iv) by simp [putI, hnv])
    have HPL := kp hpx
    have HM2 := kp hm2
    clear hokx hbad hv2 hv3 hv4 hbyr hI0 hpx hm2 hfar
    go_upto_region 6 with (fail)
    obtain ⟨W1, hW1⟩ : ∃ W1, wr.alloc (.cells #[.int .i64 m, .slice Av nv cv, .int .u64 ver, .int .u64 dead] 78) = W1 := ⟨_, rfl⟩
    rw [hW1] at HI0 HK0 ⊢
    clear hW1
    obtain ⟨vb, hvb1, A1, c1, rfl, hvb2, hvb3⟩ := id HI0.out.buf
    have e0 : W1.drew.cell? ⟨Q, 0, none⟩ = some (.slice A1 o.length c1) := hvb1.cell rfl
    have e1 : W1.drew.cell? ⟨wr.heap.size, 0, none⟩ = some (.int .i64 m) := HI0.out.row.cell (j := 0) rfl
    have HPut := kp (put_any A1 o.length c1 o m W1.drew rfl (by have := HM2.out; omega) (by omega) hvb2)
    clear hvb1 hvb2 hvb3
    go_region_law ((with_reducible refine step_call_any (o := ⟨some 37, _, _, _, _, _⟩) rfl 233 _ _ rfl #[.slice A1 o.length c1, .int .u64 m] ?_ Tryz.f233 Tryz.func233 f233_name f233_body (fun u w6 => Own8 w6 W1.drew.heap.size u (o ++ putV m) /\ Below W1.drew.heap.size W1.drew w6) ?_ ?_); (· simp only [y1, y2, y3]; rfl); (· exact HPut.out.mono fun e w' ⟨v, h1, h2, h3⟩ => ⟨v, h1, h2, h3⟩); rintro u6 w6 ⟨ho6, hb6⟩; obtain ⟨A6, L6, c6, rfl, hL6, _⟩ := ho6.gen; have HI6 := kp ((ItemAt.drew HI0.out).below hb6); have e6 : w6.cell? ⟨Q, 0, none⟩ = some (.slice A1 o.length c1) := ((hb6.cell (p := ⟨Q, 0, none⟩) HI0.out.buf.lt).trans e0); have f6 : w6.frozen? ⟨Q, 0, none⟩ = false := (by obtain ⟨v, h1, _⟩ := HI6.out.buf; exact h1.frozen 0); have e61 : w6.cell? ⟨wr.heap.size, 0, none⟩ = some (.int .i64 m) := HI6.out.row.cell (j := 0) rfl)
    all_goals
     have hgq : wr.heap.size ≠ Q := by have := HW.out.lt; omega
     obtain ⟨hI7, hK6⟩ := (ItemAt.drew HI0.out).put hb6 ho6 (Nat.le_refl _) hgq
     have HI7 := kp hI7
     have HK7 := kp ((kept_drew HK0.out).trans hK6)
     obtain ⟨W7, hW7⟩ : ∃ W7, w6.setCell ⟨Q, 0, none⟩ (.slice A6 L6 c6) = W7 := ⟨_, rfl⟩
     rw [hW7] at HI7 HK7 ⊢
     clear hW7 hK6 hI7 e6 f6 e61 hb6 ho6 e0 e1 hL6 d0 d1 d2 d3
     have r0 : W7.cell? ⟨wr.heap.size, 0, none⟩ = some (.int .i64 m) := HI7.out.row.cell (j := 0) rfl
     by_cases hm0 : m = 0
     ·subst hm0
      go_wp2_with fail
      go_roundw
      case rel => exact ⟨k + 1, by omega, by go_num, by rw [HNA.out, HOX.out], HI7.out.buf.cong (by rw [HNX2.out, HPX.out, if_pos rfl]), HK7.out⟩
      case measure => simp [intOf]; omega
     ·have hmn : ((m : Int) != 0) = true := by simp; omega
      have HPY := kp (HPX.out.trans (if_neg hm0))
      clear hm0
      go_upto_region 8 with (fail)
      obtain ⟨o7, ho7⟩ : ∃ o7, o ++ putV m = o7 := ⟨_, rfl⟩
      have hv10 := putV_len10 (n := m) (by have := HM2.out; omega)
      have hol7 : o7.length <= 910010 := by rw [<- ho7, List.length_append]; omega
      rw [ho7] at HI7
      have HO7 := kp ho7
      clear ho7 hv10
      obtain ⟨vb, hvb1, A7, c7, rfl, hvb2, hvb3⟩ := id HI7.out.buf
      have e0 : W7.drew.cell? ⟨Q, 0, none⟩ = some (.slice A7 o7.length c7) := hvb1.cell rfl
      have e1 : W7.drew.cell? ⟨wr.heap.size, 1, none⟩ = some (.slice Av nv cv) := HI7.out.row.cell (j := 1) rfl
      have e2 : W7.drew.cell? ⟨wr.heap.size, 2, none⟩ = some (.int .u64 ver) := HI7.out.row.cell (j := 2) rfl
      have e3 : W7.drew.cell? ⟨wr.heap.size, 3, none⟩ = some (.int .u64 dead) := HI7.out.row.cell (j := 3) rfl
      have hp1 := putV_len10 hver
      have hp2 := putV_len10 hdead
      have HP1 := kp (put_any A7 o7.length c7 o7 ver W7.drew rfl hver (by omega) hvb2)
      have HDR := kp (ItemAt.drew HI7.out)
      clear hvb1 hvb2 hvb3 r0
      go_region_law (first
       | ((with_reducible refine step_call_any (o := ⟨some 48, _, _, _, _, _⟩) rfl 233 _ _ rfl #[.slice A7 o7.length c7, .int .u64 ver] ?_ Tryz.f233 Tryz.func233 f233_name f233_body (fun u w8 => Own8 w8 W7.drew.heap.size u (o7 ++ putV ver) /\ Below W7.drew.heap.size W7.drew w8) ?_ ?_); (· simp only [y1, y2, y3]; rfl); (· exact HP1.out.mono fun e w' ⟨v, h1, h2, h3⟩ => ⟨v, h1, h2, h3⟩); rintro u8 w8 ⟨ho8, hb8⟩; obtain ⟨A8, L8, c8, rfl, hL8, hby8⟩ := ho8.gen; have HB8 := kp hb8; have HI8 := kp (HDR.out.below hb8); have e81 : w8.cell? ⟨wr.heap.size, 1, none⟩ = some (.slice Av nv cv) := HI8.out.row.cell (j := 1) rfl; have e83 : w8.cell? ⟨wr.heap.size, 3, none⟩ = some (.int .u64 dead) := HI8.out.row.cell (j := 3) rfl; have HP2 := kp (put_any A8 L8 c8 _ dead w8 hL8 hdead (by rw [<- hL8, List.length_append]; omega) hby8); have HL8 := kp hL8; clear ho8 hb8 hby8 hL8)
       | ((with_reducible refine step_call_any (o := ⟨some 51, _, _, _, _, _⟩) rfl 233 _ _ rfl #[.slice A8 L8 c8, .int .u64 dead] ?_ Tryz.f233 Tryz.func233 f233_name f233_body (fun u w9 => Own8 w9 w8.heap.size u (o7 ++ putV ver ++ putV dead) /\ Below w8.heap.size w8 w9) ?_ ?_); (· simp only [y1, y2, y3]; rfl); (· exact HP2.out.mono fun e w' ⟨v, h1, h2, h3⟩ => ⟨v, h1, h2, h3⟩); rintro u9 w9 ⟨ho9, hb9⟩; obtain ⟨A9, L9, c9, rfl, hL9, hby9⟩ := ho9.gen; have HB9 := kp (HB8.out.trans (hb9.mono HB8.out.size)); have HI9 := kp (HI8.out.below hb9); have e91 : w9.cell? ⟨wr.heap.size, 1, none⟩ = some (.slice Av nv cv) := HI9.out.row.cell (j := 1) rfl; have hs9 := hb9.size; have HP3 := kp (putBytes_any A9 Av L9 c9 nv cv _ iv w9 hL9 HI9.out.ln (by rw [<- hL9, List.length_append, List.length_append]; omega) (by omega) hby9 HI9.out.byt); clear ho9 hb9 hby9 hL9)
       | ((with_reducible refine step_call_any (o := ⟨some 54, _, _, _, _, _⟩) rfl 361 _ _ rfl #[.slice A9 L9 c9, .slice Av nv cv] ?_ Tryz.f361 Tryz.func361 f361_name f361_body (fun u w10 => Own8 w10 w9.heap.size u (o7 ++ putV ver ++ putV dead ++ putV nv ++ iv) /\ Below w9.heap.size w9 w10) ?_ ?_); (· simp only [y1, y2, y3]; rfl); (· exact HP3.out.mono fun e w' ⟨v, h1, h2, h3⟩ => ⟨v, h1, h2, h3⟩); rintro u10 w10 ⟨ho10, hb10⟩; obtain ⟨A10, L10, c10, rfl, _, _⟩ := ho10.gen; have HB10 := kp (HB9.out.trans (hb10.mono HB9.out.size)); have hQ10 : w10.cell? ⟨Q, 0, none⟩ = some (.slice A7 o7.length c7) := (HB10.out.cell (p := ⟨Q, 0, none⟩) HI7.out.buf.lt).trans e0; have f10 : w10.frozen? ⟨Q, 0, none⟩ = false := (by obtain ⟨v, h1, _⟩ := (HI9.out.below hb10).buf; exact h1.frozen 0); have HO10 := kp ho10; clear ho10 hb10))
      all_goals
       have HEND := kp (HDR.out.put HB10.out HO10.out (Nat.le_trans HB9.out.size (Nat.le_refl _)) (by have := HW.out.lt; omega))
       obtain ⟨W11, hW11⟩ : ∃ W11, w10.setCell ⟨Q, 0, none⟩ (.slice A10 L10 c10) = W11 := ⟨_, rfl⟩
       rw [hW11] at HEND ⊢
       clear hW11 hQ10 f10
       go_wp2_with fail
       go_roundw
       case rel => exact ⟨k + 1, by omega, by go_num, by rw [HNA.out, HOX.out], HEND.out.1.buf.cong (by rw [HNX2.out, HPY.out, <- HO7.out]; simp [List.append_assoc]), (kept_drew HK7.out).trans HEND.out.2⟩
       case measure => simp [intOf]; omega
  ·obtain rfl : k = n := by omega
   have hg : decide ((k : Int) < (k : Int)) = false := by simp
   have htk : xs.take k = xs := List.take_of_length_le (by rw [HNX.out]; exact Nat.le_refl _)
   rw [htk] at HW HALL
   go_wp2_with fail
   go_ret
   exact ⟨congrArg (fun b => Ending.returned (Value.bool b)) (HO.out.trans HALL.out).symm, fun _ => by rw [HP.out]; exact HW.out, HK.out⟩
/-- what lies below a bound is as it was, but for two blocks -/
structure KX (lo X R : Nat) (w w' : World) : Prop where
 os : w'.os = w.os
 tape : w'.tape = w.tape
 output : w'.output = w.output
 size : w.heap.size <= w'.heap.size
 block : ∀ k, k < lo -> k ≠ X -> k ≠ R -> w'.heap[k]? = w.heap[k]?
section
variable {w w' w'' : World} {lo X R : Nat}
theorem KX.refl (lo X R : Nat) (w : World) : KX lo X R w w := ⟨rfl, rfl, rfl, Nat.le_refl _, fun _ _ _ _ => rfl⟩
theorem KX.trans (h : KX lo X R w w') (h' : KX lo X R w' w'') : KX lo X R w w'' :=
 ⟨h'.os.trans h.os, h'.tape.trans h.tape, h'.output.trans h.output, Nat.le_trans h.size h'.size, fun k a b c => (h'.block k a b c).trans (h.block k a b c)⟩
theorem KX.of_kept {L : List Nat} (h : Kept L w w') (hlo : lo <= w.heap.size) (hL : ∀ k ∈ L, lo <= k ∨ k = X ∨ k = R) : KX lo X R w w' :=
 ⟨h.os, h.tape, h.output, h.size, fun k a b c => h.block k (Nat.lt_of_lt_of_le a hlo) fun hm => by rcases hL k hm with h1 | h1 | h1 <;> omega⟩
theorem KX.drew (h : KX lo X R w w') : KX lo X R w w'.drew := ⟨h.os, h.tape, h.output, h.size, h.block⟩
theorem KX.below {B : Nat} (h : KX lo X R w w') (h1 : B <= lo) (h2 : B <= X) (h3 : B <= R) : Below B w w' := ⟨h.os, h.tape, h.output, h.size, fun k hk => h.block k (by omega) (by omega) (by omega)⟩
theorem KX.row {b : Nat} {t : TypeId} {l : List Value} (h : KX lo X R w w') (hr : RowL w b t l) (h1 : b < lo) (h2 : b ≠ X) (h3 : b ≠ R) : RowL w' b t l := hr.of_block (h.block b h1 h2 h3)
end
/-- bytes in a value, in blocks from a bound on, but not in one of them -/
def SlG (w : World) (lo g : Nat) (v : Value) (xs : List Int) : Prop := ∃ A c, v = .slice A xs.length c /\ Byt w w.heap.size A c xs /\ ∀ b off, A = some ⟨b, off, none⟩ -> xs ≠ [] -> lo <= b /\ b ≠ g
theorem SlG.kept {w w' : World} {lo g : Nat} {L : List Nat} {v : Value} {xs : List Int} (h : SlG w lo g v xs) (hk : Kept L w w') (hL : ∀ k ∈ L, k < lo ∨ k = g ∨ w.heap.size <= k) : SlG w' lo g v xs := by
 obtain ⟨A, c, h1, h2, h3⟩ := h
 refine ⟨A, c, h1, ⟨h2.1, h2.2.1, fun i hi => ?_⟩, h3⟩
 obtain ⟨b, off, e, hlt, hc⟩ := h2.2.2 i hi
 have h4 := h3 b off e (by intro h; rw [h] at hi; simp at hi)
 exact ⟨b, off, e, Nat.lt_of_lt_of_le hlt hk.size, fun x hx => hk.cell (fun hm => by rcases hL _ hm with h | h | h <;> simp at h <;> omega) (hc x hx)⟩
/-- the rows of items that are read -/
def IRow (w : World) (lo X R : Nat) (vi : Value) (xs : List ItemR) : Prop :=
 (xs = [] /\ vi = .slice none 0 0) ∨ ∃ (g : Nat) (L : List (ItemR × Value)), vi = .slice (some ⟨g, 0, none⟩) xs.length xs.length /\ lo <= g /\ RowL w g 78 (L.flatMap fun p => itemL p.1.mark p.2 p.1.ver p.1.dead) /\ L.map (·.1) = xs /\ (∀ p ∈ L, SlG w lo g p.2 p.1.val) /\ xs ≠ []
/-- the bytes that are still to be read -/
def RdS (w : World) (X R : Nat) (vi vn : Value) (rest : List Int) : Prop :=
 ∃ A c, w.rowIs R 440 2 (rdF (.slice A rest.length c)) /\ Byt w w.heap.size A c rest /\ ∀ b off, A = some ⟨b, off, none⟩ -> rest ≠ [] -> b ≠ R /\ b ≠ X /\ vi.ownBlock ≠ some b /\ vn.ownBlock ≠ some b
structure XR (w : World) (lo X R : Nat) (x : RespR) (vi vn : Value) (rest : List Int) : Prop where
 row : RowL w X 40 (respC x vi vn)
 ne : X ≠ R
 hX : X < lo
 hR : R < lo
 hlo : lo <= w.heap.size
 rd : RdS w X R vi vn rest
 items : IRow w lo X R vi x.items
 nums : w.ownsRow lo 33 1 vn x.nums.length (x.nums.map (Value.int .u64))
def nlX (X R : Nat) (vi vn : Value) : List Nat := R :: X :: (vi.ownBlock.toList ++ vn.ownBlock.toList)
section
variable {w w' : World} {lo X R : Nat} {x : RespR} {vi vn : Value} {rest rest' : List Int}
theorem XR.cong (h : XR w lo X R x vi vn rest) (e : rest = rest') : XR w lo X R x vi vn rest' := by subst e; exact h
theorem IRow.kept {xs : List ItemR} {L : List Nat} (h : IRow w lo X R vi xs) (hk : Kept L w w') (hL : ∀ k ∈ L, (k = X ∨ k = R ∨ w.heap.size <= k)) (hX : X < lo) (hR : R < lo) : IRow w' lo X R vi xs := by
 rcases h with h | ⟨g, M, h1, h2, h3, h4, h5, h6⟩
 ·exact .inl h
 ·have hg := h3.lt
  refine .inr ⟨g, M, h1, h2, h3.kept hk (fun hm => ?_), h4, fun p hp => (h5 p hp).kept hk fun k hk1 => ?_, h6⟩
  ·rcases hL g hm with h | h | h <;> omega
  ·rcases hL k hk1 with h | h | h <;> omega
theorem IRow.own {xs : List ItemR} (h : IRow w lo X R vi xs) {b : Nat} (hb : vi.ownBlock = some b) : lo <= b /\ b < w.heap.size := by
 rcases h with ⟨_, h⟩ | ⟨g, M, h1, h2, h3, h4, h5⟩
 ·subst h; simp [Value.ownBlock] at hb
 ·subst h1
  simp [Value.ownBlock] at hb
  subst hb
  exact ⟨h2, h3.lt⟩
/-- what the reader is asked with -/
theorem XR.ask (h : XR w lo X R x vi vn rest) (hr : rest ≠ []) : ∃ v, w.rowIs R 440 2 (rdF v) /\ SlX w (nlX X R vi vn) v rest := by
 obtain ⟨A, c, h1, h2, h3⟩ := h.rd
 refine ⟨_, h1, A, c, rfl, h2, fun b off e hm => ?_⟩
 obtain ⟨a1, a2, a3, a4⟩ := h3 b off e hr
 simp only [nlX, List.mem_cons, List.mem_append, Option.mem_toList] at hm
 rcases hm with hm | hm | hm | hm
 ·exact a1 hm
 ·exact a2 hm
 ·exact a3 hm
 ·exact a4 hm
theorem XR.told (h : XR w lo X R x vi vn rest) (hk : Kept [R] w w') {v : Value} (hR : w'.rowIs R 440 2 (rdF v)) (hv : SlX w' (nlX X R vi vn) v rest') : XR w' lo X R x vi vn rest' := by
 have hX := h.hX
 have hRl := h.hR
 have hlo := h.hlo
 refine ⟨h.row.kept hk (by simp; exact h.ne), h.ne, hX, hRl, Nat.le_trans hlo hk.size, ?_, h.items.kept hk (fun k hk => by simp at hk; exact .inr (.inl hk)) hX hRl, hk.own2 h.nums fun k hk1 e => ?_⟩
 ·obtain ⟨A, c, rfl, h2, h3⟩ := hv
  refine ⟨A, c, hR, h2, fun b off e _ => ?_⟩
  have := h3 b off e
  simp only [nlX, List.mem_cons, List.mem_append, Option.mem_toList, not_or] at this
  exact ⟨this.1, this.2.1, this.2.2.1, this.2.2.2⟩
 ·simp at hk1
  subst hk1
  have := (h.nums.lt _ e).1
  omega
/-- a store to a number of the response -/
theorem XR.setF (h : XR w lo X R x vi vn rest) {j : Nat} {u : Value} {x' : RespR} (e : (respC x vi vn).set j u = respC x' vi vn) (e1 : x'.items = x.items) (e2 : x'.nums = x.nums) :
  XR (w.setCell ⟨X, j, none⟩ u) lo X R x' vi vn rest /\ KX lo X R w (w.setCell ⟨X, j, none⟩ u) := by
 have hk : Kept [X] w (w.setCell ⟨X, j, none⟩ u) := (Kept.refl _ _).setCell (by simp) _
 have hX := h.hX
 have hRl := h.hR
 have hnums := hk.own2 h.nums fun k hk1 e => by
  simp at hk1
  subst hk1
  have := (h.nums.lt _ e).1
  omega
 refine ⟨⟨by rw [<- e]; exact h.row.set j u, h.ne, hX, hRl, Nat.le_trans h.hlo hk.size, ?_, by rw [e1]; exact IRow.kept (L := [X]) h.items hk (fun k hk => by simp at hk; exact .inl hk) hX hRl, by rw [e2]; exact hnums⟩, KX.of_kept hk h.hlo (fun k hk => by simp at hk; exact .inr (.inl hk))⟩
 ·obtain ⟨A, c, h1, h2, h3⟩ := h.rd
  refine ⟨A, c, hk.row (by simp; exact fun e => h.ne e.symm) h1, ⟨h2.1, h2.2.1, fun i hi => ?_⟩, h3⟩
  obtain ⟨b, off, e, hlt, hc⟩ := h2.2.2 i hi
  exact ⟨b, off, e, Nat.lt_of_lt_of_le hlt hk.size, fun y hy => hk.cell (fun hm => (h3 b off e (by intro h0; rw [h0] at hi; simp at hi)).2.1 (by simpa using hm)) (hc y hy)⟩
end
theorem read305 (NL : List Nat) (R n most : Nat) (hRN : R ∈ NL) (v : Value) (rest : List Int) (w : World) (hn : n < 18446744073709551616) (hl : rest.length <= 950000)
  (hR : w.rowIs R 440 2 (rdF v)) (hv : SlX w NL v (putV n ++ rest)) :
  Calls Tryz.prog 305 #[.pointer (some ⟨R, 0, none⟩), .int .u64 most] w fun e w' => e = .returned (.tuple #[.int .u64 n, .bool (decide (n <= most))]) /\ ∃ v', w'.rowIs R 440 2 (rdF v') /\ SlX w' NL v' rest /\ Kept [R] w w' := by
 have h10 := putV_len10 hn
 have HN := kp (number145 NL R n hRN v rest w (get_any hn) (by rw [List.length_append]; omega) hR hv)
 clear hR hv
 by_cases hm : n <= most
 ·have g : decide ((n : Int) <= (most : Int)) = true := by simp; omega
  go_enter Tryz.func305, Tryz.ntmps305
  go_wp2_with fail
  refine HN.out.mono ?_
  rintro e w2 ⟨v', rfl, h1, h2, h3⟩
  have H1 := kp h1
  have H2 := kp h2
  have H3 := kp h3
  clear h1 h2 h3
  go_wp2_with fail
  go_ret2
  exact ⟨congrArg (fun b => Ending.returned (Value.tuple #[.int .u64 n, .bool b])) (decide_eq_true hm).symm, v', H1.out, H2.out, H3.out⟩
 ·have g : decide ((n : Int) <= (most : Int)) = false := by simp; omega
  go_enter Tryz.func305, Tryz.ntmps305
  go_wp2_with fail
  refine HN.out.mono ?_
  rintro e w2 ⟨v', rfl, h1, h2, h3⟩
  have H1 := kp h1
  have H2 := kp h2
  have H3 := kp h3
  clear h1 h2 h3
  go_wp2_with fail
  go_ret2
  exact ⟨congrArg (fun b => Ending.returned (Value.tuple #[.int .u64 n, .bool b])) (decide_eq_false hm).symm, v', H1.out, H2.out, H3.out⟩
def GetPost (w : World) (lo X R : Nat) (x : RespR) (rest : List Int) (e : Ending) (w' : World) : Prop := e = .returned (.bool true) /\ KX lo X R w w' /\ ∃ vi vn, XR w' lo X R x vi vn rest
theorem putV_ne (n : Nat) (rest : List Int) : putV n ++ rest ≠ [] := by
 have := putV_pos (m := n)
 intro h
 rw [List.append_eq_nil_iff] at h
 rw [h.1] at this
 simp at this
theorem get_ver {w : World} {lo X R : Nat} {x : RespR} {vi vn : Value} {rest : List Int} (n : Nat) (hn : n < 18446744073709551616) (h : XR w lo X R x vi vn (putV n ++ rest)) (hl : rest.length <= 950000) :
  Calls Tryz.prog 355 #[.pointer (some ⟨R, 0, none⟩), .pointer (some ⟨X, 0, none⟩)] w (GetPost w lo X R { x with ver := n } rest) := by
 obtain ⟨v, h1, h2⟩ := h.ask (putV_ne n rest)
 have HN := kp (read305 (nlX X R vi vn) R n 18446744073709551615 (by simp [nlX]) v rest w hn hl h1 h2)
 rw [show decide (n <= 18446744073709551615) = true by simp; omega] at HN
 have H := kp h
 clear h h1 h2
 go_enter Tryz.func355, Tryz.ntmps355
 go_wp2_with fail
 refine HN.out.mono ?_
 rintro e w2 ⟨rfl, v', h1, h2, h3⟩
 have h4 := H.out.told h3 h1 h2
 have c3 : w2.cell? ⟨X, 3, none⟩ = some (.int .u64 x.ver) := h4.row.cell rfl
 have f3 : w2.frozen? ⟨X, 3, none⟩ = false := h4.row.frozen 3
 have HE := kp (h4.setF (j := 3) (u := .int .u64 n) (x' := { x with ver := n }) rfl rfl rfl)
 have HK := kp (KX.of_kept (lo := lo) (X := X) (R := R) h3 H.out.hlo (by simp))
 clear h1 h2 h3 h4
 go_wp2_with fail
 go_ret
 exact ⟨rfl, HK.out.trans HE.out.2, vi, vn, HE.out.1⟩
theorem get_cnt {w : World} {lo X R : Nat} {x : RespR} {vi vn : Value} {rest : List Int} (n : Nat) (hn : n <= 1099511627776) (h : XR w lo X R x vi vn (putV n ++ rest)) (hl : rest.length <= 950000) :
  Calls Tryz.prog 357 #[.pointer (some ⟨R, 0, none⟩), .pointer (some ⟨X, 0, none⟩)] w (GetPost w lo X R { x with count := n } rest) := by
 obtain ⟨v, h1, h2⟩ := h.ask (putV_ne n rest)
 have HN := kp (read305 (nlX X R vi vn) R n 1099511627776 (by simp [nlX]) v rest w (by omega) hl h1 h2)
 rw [show decide (n <= 1099511627776) = true by simp; omega] at HN
 have hw : IntKind.i64.wrap (n : Int) = n := by simp [IntKind.wrap, IntKind.bits, IntKind.signed]; omega
 have H := kp h
 clear h h1 h2
 go_enter Tryz.func357, Tryz.ntmps357
 go_wp2_with fail
 refine HN.out.mono ?_
 rintro e w2 ⟨rfl, v', h1, h2, h3⟩
 have h4 := H.out.told h3 h1 h2
 have c3 : w2.cell? ⟨X, 4, none⟩ = some (.int .i64 x.count) := h4.row.cell rfl
 have f3 : w2.frozen? ⟨X, 4, none⟩ = false := h4.row.frozen 4
 have HE := kp (h4.setF (j := 4) (u := .int .i64 n) (x' := { x with count := n }) rfl rfl rfl)
 have HK := kp (KX.of_kept (lo := lo) (X := X) (R := R) h3 H.out.hlo (by simp))
 clear h1 h2 h3 h4
 go_wp2_with fail
 go_ret
 exact ⟨rfl, HK.out.trans HE.out.2, vi, vn, HE.out.1⟩
end Go.Proofs.YtnjhpgmbfblgaaaGreat.Ord
