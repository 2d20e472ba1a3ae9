/-
  Texts of mine, joined: LoadAsk2, RngBoth, LoadDirect. The conditions stand with each.
-/
import Derived.Test.YthdldooilcbmlaaGreatDoorK15
import Derived.RangeFuncCalls
import Derived.RangeFuncLeaves
import Derived.TacticsIn
import Derived.Scope
import Derived.Below
import Derived.Test.YthdldooilcbmlaaGreatDoorK06
import Derived.Sort.CutIn
set_option linter.unusedVariables false
set_option linter.unusedSimpArgs false
namespace Go.Proofs.YthdldooilcbmlaaGreatDoor
section
open Go.RowKit Go.Shelf

/-- What was loaded, opened. -/
structure Ld (w:World) (g:Nat) (r:List PStep) (l:List UInt8) (i:IdxM):Prop where
 at_:IdxAt w g l i
 ok:IdxOk l i
 is:IdxIs r l i
 right:(checkB r).1=0
 told:toldM l i=gotL r
 few:l.length≤16777216
 bks:∀ k∈i.books,k.2.length≤16777216
 txt:i.texts.length≤16777216
 tab:i.tabs.length≤16777216
 pth:i.paths.length≤16777216
 len:i.books.length=r.length
 nb:r.length≤513
theorem LoadedAt.ld {w:World}{g:Nat}{r:List PStep}(h:LoadedAt w g r):Ld w g r (bodyB r) (idxM (bodyB r)):=by
 obtain ⟨h1,h2,h3⟩:=h
 have hl:(bodyB r).length≤16777216:=by
  unfold bytesB at h3
  rw [List.length_append] at h3
  omega
 obtain ⟨a1,a2,a3⟩:=read_backL h2 (right_sm h2)
 have hf:=idx_few hl
 exact ⟨h1,read_good a1,a2,h2,a3,hl,hf.1,hf.2.1,hf.2.2.1,hf.2.2.2,by rw [a2.books,List.length_map],(checkB_ok h2).1⟩
theorem Ld.on {w W:World}{g:Nat}{r:List PStep}{l:List UInt8}{i:IdxM}(h:Ld w g r l i)(hb:Below w.heap.size w W):Ld W g r l i:=⟨h.at_.on hb,h.ok,h.is,h.right,h.told,h.few,h.bks,h.txt,h.tab,h.pth,h.len,h.nb⟩
theorem LoadedAt.on {w W:World}{g:Nat}{r:List PStep}(h:LoadedAt w g r)(hb:Below w.heap.size w W):LoadedAt W g r:=⟨h.1.on hb,h.2⟩
theorem Ld.bin {w:World}{g:Nat}{r:List PStep}{l:List UInt8}{i:IdxM}(h:Ld w g r l i):i.books.length≤513:=by rw [h.len];exact h.nb
set_option maxHeartbeats 8000000 in
theorem dname_any {W:World}{g bl j:Nat}{l:List UInt8}{i:IdxM}(hI:IdxAt W g l i)(hin:IdxIn l i)(hl:l.length≤16777216)(hbx:W.cell? ⟨bl,0,none⟩=some (.pointer (some ⟨g,0,none⟩)))(hN:i.books.length≤16777216)(hj:j<i.books.length) :
  Calls Tryz.prog 28 #[.int .i64 (j:Int),.pointer (some ⟨bl,0,none⟩)] W fun e w'=>e=.returned (.string (nmF l i j))∧Below W.heap.size W w':=by
 obtain ⟨⟨nm,gs⟩,hk⟩:∃ k,i.books[j]?=some k:=⟨_,List.getElem?_eq_getElem hj⟩
 obtain ⟨Ak,ck,hK0,hKB⟩:=hI.bks
 obtain ⟨bk,ok,Ag,cg,rfl,hgc,hgm,hfar⟩:=hKB j _ hk
 have hnm:=(hin.books _ (List.mem_of_getElem? hk)).1
 simp only at hgc hfar hnm
 have hbl:=World.block_lt_of_cell? _ _ hbx
 have HNM:=Lib.hid (show nmF l i j=textM l i nm from by unfold nmF;rw [List.getD_eq_getElem?_getD,hk];rfl)
 obtain ⟨nK,hnK⟩:∃ nK,i.books.length=nK:=⟨_,rfl⟩
 rw [hnK] at hK0 hj hN
 have HK:=Lib.hid (show ∀ W',Below W.heap.size W W'→W'.cell? ⟨bl,0,none⟩=some (.pointer (some ⟨g,0,none⟩))∧W'.cell? ⟨g,4,none⟩=some (.slice (some ⟨bk,ok,none⟩) nK ck)∧W'.cell? ⟨bk,ok+j*2,none⟩=some (.int .i64 (nm:Int)) from fun W' hb=>⟨(hb.cell (p:=⟨bl,0,none⟩) hbl).trans hbx,hK0 W' hb,(hfar W' hb).1⟩)
 have hd:=(Below.refl W.heap.size W).drew
 have HD:=Lib.hid hd
 have HTX:=Lib.hid (itext_any (hI.on hd) hin hnm hl)
 obtain ⟨z0,z1,z2⟩:=HK.out W (Below.refl _ _)
 have hj1:(j:Int)<(nK:Int):=by omega
 have hj0:(0:Int)≤(j:Int):=by omega
 have hN1:(nK:Int)≤16777216:=by omega
 clear hK0 hKB hfar hk hI hin hd hgc hgm hbx hbl hnK
 go_enter Tryz.func28,Tryz.ntmps28
 go_upto_region 1 with (fail)
 refine wp_region_M (fun W=>W.cell? ⟨bl,0,none⟩=some (.pointer (some ⟨g,0,none⟩))∧W.cell? ⟨g,4,none⟩=some (.slice (some ⟨bk,ok,none⟩) nK ck)∧W.cell? ⟨bk,ok+j*2,none⟩=some (.int .i64 (nm:Int))) 14 (by kernel_rfl) (by go_keep) (fun hHeld=>?_)
 refine wpAnyM_take (i:=0) (d:=(some 4)) (v:=?_) rfl rfl (by kernel_rfl) (by kernel_rfl) (by kernel_rfl) (by kernel_rfl) (by kernel_rfl) (fun _ _ _ h=>h) (Or.inl ⟨by rfl,?_⟩) (by assumption) ?_
 rotate_left
 ·intro w hSw
  (try dsimp only at hSw)
  go_simp
  (try with_reducible rfl)
 (try simp only [Act.put,List.setIfInBounds_toArray,List.set_cons_zero,List.set_cons_succ])
 refine wpAnyM_take (i:=1) (d:=(some 5)) (v:=?_) rfl rfl (by kernel_rfl) (by kernel_rfl) (by kernel_rfl) (by kernel_rfl) (by kernel_rfl) (fun _ _ _ h=>h) (Or.inl ⟨by rfl,?_⟩) (by assumption) ?_
 rotate_left
 ·intro w hSw
  (try dsimp only at hSw)
  go_simp
  (try with_reducible rfl)
 (try simp only [Act.put,List.setIfInBounds_toArray,List.set_cons_zero,List.set_cons_succ])
 refine wpAnyM_take (i:=2) (d:=(some 6)) (v:=?_) rfl rfl (by kernel_rfl) (by kernel_rfl) (by kernel_rfl) (by kernel_rfl) (by kernel_rfl) (fun _ _ _ h=>h) (Or.inl ⟨by rfl,?_⟩) (by assumption) ?_
 rotate_left
 ·intro w hSw
  (try dsimp only at hSw)
  go_simp
  (try with_reducible rfl)
 (try simp only [Act.put,List.setIfInBounds_toArray,List.set_cons_zero,List.set_cons_succ])
 refine wpAnyM_take (i:=3) (d:=(some 7)) (v:=?_) rfl rfl (by kernel_rfl) (by kernel_rfl) (by kernel_rfl) (by kernel_rfl) (by kernel_rfl) (fun _ _ _ h=>h) (Or.inl ⟨by rfl,?_⟩) (by assumption) ?_
 rotate_left
 ·intro w hSw
  (try dsimp only at hSw)
  go_simp
  (try with_reducible rfl)
 (try simp only [Act.put,List.setIfInBounds_toArray,List.set_cons_zero,List.set_cons_succ])
 refine wpAnyM_take (i:=4) (d:=(some 8)) (v:=?_) rfl rfl (by kernel_rfl) (by kernel_rfl) (by kernel_rfl) (by kernel_rfl) (by kernel_rfl) (fun _ _ _ h=>h) (Or.inl ⟨by rfl,?_⟩) (by assumption) ?_
 rotate_left
 ·intro w hSw
  (try dsimp only at hSw)
  go_simp
  (try with_reducible rfl)
 (try simp only [Act.put,List.setIfInBounds_toArray,List.set_cons_zero,List.set_cons_succ])
 refine wpAnyM_take (i:=5) (d:=(some 9)) (v:=?_) rfl rfl (by kernel_rfl) (by kernel_rfl) (by kernel_rfl) (by kernel_rfl) (by kernel_rfl) (fun _ _ _ h=>h) (Or.inl ⟨by rfl,?_⟩) (by assumption) ?_
 rotate_left
 ·intro w hSw
  (try dsimp only at hSw)
  go_simp
  (try with_reducible rfl)
 (try simp only [Act.put,List.setIfInBounds_toArray,List.set_cons_zero,List.set_cons_succ])
 refine wpAnyM_take (i:=6) (d:=(some 10)) (v:=?_) rfl rfl (by kernel_rfl) (by kernel_rfl) (by kernel_rfl) (by kernel_rfl) (by kernel_rfl) (fun _ _ _ h=>h) (Or.inl ⟨by rfl,?_⟩) (by assumption) ?_
 rotate_left
 ·intro w hSw
  (try dsimp only at hSw)
  go_simp
  (try with_reducible rfl)
 (try simp only [Act.put,List.setIfInBounds_toArray,List.set_cons_zero,List.set_cons_succ])
 refine wpAnyM_take (i:=7) (d:=(some 11)) (v:=?_) rfl rfl (by kernel_rfl) (by kernel_rfl) (by kernel_rfl) (by kernel_rfl) (by kernel_rfl) (fun _ _ _ h=>h) (Or.inl ⟨by rfl,?_⟩) (by assumption) ?_
 rotate_left
 ·intro w hSw
  (try dsimp only at hSw)
  go_simp
  (try with_reducible rfl)
 (try simp only [Act.put,List.setIfInBounds_toArray,List.set_cons_zero,List.set_cons_succ])
 refine wpAnyM_take (i:=8) (d:=(some 12)) (v:=?_) rfl rfl (by kernel_rfl) (by kernel_rfl) (by kernel_rfl) (by kernel_rfl) (by kernel_rfl) (fun _ _ _ h=>h) (Or.inl ⟨by rfl,?_⟩) (by assumption) ?_
 rotate_left
 ·intro w hSw
  (try dsimp only at hSw)
  go_simp
  (try with_reducible rfl)
 (try simp only [Act.put,List.setIfInBounds_toArray,List.set_cons_zero,List.set_cons_succ])
 refine wpAnyM_take (i:=9) (d:=(some 13)) (v:=?_) rfl rfl (by kernel_rfl) (by kernel_rfl) (by kernel_rfl) (by kernel_rfl) (by kernel_rfl) (fun _ _ _ h=>h) (Or.inl ⟨by rfl,?_⟩) (by assumption) ?_
 rotate_left
 ·intro w hSw
  (try dsimp only at hSw)
  go_simp
  (try with_reducible rfl)
 (try simp only [Act.put,List.setIfInBounds_toArray,List.set_cons_zero,List.set_cons_succ])
 refine wpAnyM_take (i:=10) (d:=(some 14)) (v:=?_) rfl rfl (by kernel_rfl) (by kernel_rfl) (by kernel_rfl) (by kernel_rfl) (by kernel_rfl) (fun _ _ _ h=>h) (Or.inl ⟨by rfl,?_⟩) (by assumption) ?_
 rotate_left
 ·intro w hSw
  (try dsimp only at hSw)
  go_simp
  (try with_reducible rfl)
 (try simp only [Act.put,List.setIfInBounds_toArray,List.set_cons_zero,List.set_cons_succ])
 refine wpAnyM_take (i:=11) (d:=(some 15)) (v:=?_) rfl rfl (by kernel_rfl) (by kernel_rfl) (by kernel_rfl) (by kernel_rfl) (by kernel_rfl) (fun _ _ _ h=>h) (Or.inl ⟨by rfl,?_⟩) (by assumption) ?_
 rotate_left
 ·intro w hSw
  (try dsimp only at hSw)
  go_simp
  (try with_reducible rfl)
 (try simp only [Act.put,List.setIfInBounds_toArray,List.set_cons_zero,List.set_cons_succ])
 refine wpAnyM_one (i:=12) (by kernel_rfl) ?_
 refine owe_early (i:=12) (d:=(some 16)) rfl rfl (fun K hK=>?_)
 go_simp
 refine HTX.out.mono ?_
 rintro en wa ⟨rfl,hb⟩
 have HA:=Lib.hid (HD.out.trans (hb.mono HD.out.size))
 obtain ⟨q0,q1,q2⟩:=HK.out wa HA.out
 clear hb
 refine hK.out _ _ (by go_keep) (fun hHeld=>?_)
 clear hK K
 (try simp only [Act.put,List.setIfInBounds_toArray,List.set_cons_zero,List.set_cons_succ])
 refine wpAnyM_take (i:=13) (d:=(some 3)) (v:=?_) rfl rfl (by kernel_rfl) (by kernel_rfl) (by kernel_rfl) (by kernel_rfl) (by kernel_rfl) (fun _ _ _ h=>h) (Or.inl ⟨by rfl,?_⟩) (by assumption) ?_
 rotate_left
 ·intro w hSw
  (try dsimp only at hSw)
  go_simp
  (try with_reducible rfl)
 (try simp only [Act.put,List.setIfInBounds_toArray,List.set_cons_zero,List.set_cons_succ])
 refine wpAnyM_done (by kernel_rfl) ?_ _
 (try simp only [Act.put,List.setIfInBounds_toArray,List.set_cons_zero,List.set_cons_succ])
 go_wp2
 go_ret
 exact ⟨by rw [HNM.out];rfl,HA.out⟩
set_option maxHeartbeats 8000000 in
theorem hname_any {W:World}{g bl j:Nat}{l:List UInt8}{i:IdxM}(hI:IdxAt W g l i)(hin:IdxIn l i)(hl:l.length≤16777216)(hbx:W.cell? ⟨bl,0,none⟩=some (.pointer (some ⟨g,0,none⟩)))(hN:i.books.length≤16777216)(hj:j<i.books.length) :
  Calls Tryz.prog 36 #[.int .i64 (j:Int),.pointer (some ⟨bl,0,none⟩)] W fun e w'=>e=.returned (.string (nmF l i j))∧Below W.heap.size W w':=by
 obtain ⟨⟨nm,gs⟩,hk⟩:∃ k,i.books[j]?=some k:=⟨_,List.getElem?_eq_getElem hj⟩
 obtain ⟨Ak,ck,hK0,hKB⟩:=hI.bks
 obtain ⟨bk,ok,Ag,cg,rfl,hgc,hgm,hfar⟩:=hKB j _ hk
 have hnm:=(hin.books _ (List.mem_of_getElem? hk)).1
 simp only at hgc hfar hnm
 have hbl:=World.block_lt_of_cell? _ _ hbx
 have HNM:=Lib.hid (show nmF l i j=textM l i nm from by unfold nmF;rw [List.getD_eq_getElem?_getD,hk];rfl)
 obtain ⟨nK,hnK⟩:∃ nK,i.books.length=nK:=⟨_,rfl⟩
 rw [hnK] at hK0 hj hN
 have HK:=Lib.hid (show ∀ W',Below W.heap.size W W'→W'.cell? ⟨bl,0,none⟩=some (.pointer (some ⟨g,0,none⟩))∧W'.cell? ⟨g,4,none⟩=some (.slice (some ⟨bk,ok,none⟩) nK ck)∧W'.cell? ⟨bk,ok+j*2,none⟩=some (.int .i64 (nm:Int)) from fun W' hb=>⟨(hb.cell (p:=⟨bl,0,none⟩) hbl).trans hbx,hK0 W' hb,(hfar W' hb).1⟩)
 have hd:=(Below.refl W.heap.size W).drew
 have HD:=Lib.hid hd
 have HTX:=Lib.hid (itext_any (hI.on hd) hin hnm hl)
 obtain ⟨z0,z1,z2⟩:=HK.out W (Below.refl _ _)
 have hj1:(j:Int)<(nK:Int):=by omega
 have hj0:(0:Int)≤(j:Int):=by omega
 have hN1:(nK:Int)≤16777216:=by omega
 clear hK0 hKB hfar hk hI hin hd hgc hgm hbx hbl hnK
 go_enter Tryz.func36,Tryz.ntmps36
 go_upto_region 1 with (fail)
 refine wp_region_M (fun W=>W.cell? ⟨bl,0,none⟩=some (.pointer (some ⟨g,0,none⟩))∧W.cell? ⟨g,4,none⟩=some (.slice (some ⟨bk,ok,none⟩) nK ck)∧W.cell? ⟨bk,ok+j*2,none⟩=some (.int .i64 (nm:Int))) 14 (by kernel_rfl) (by go_keep) (fun hHeld=>?_)
 refine wpAnyM_take (i:=0) (d:=(some 4)) (v:=?_) rfl rfl (by kernel_rfl) (by kernel_rfl) (by kernel_rfl) (by kernel_rfl) (by kernel_rfl) (fun _ _ _ h=>h) (Or.inl ⟨by rfl,?_⟩) (by assumption) ?_
 rotate_left
 ·intro w hSw
  (try dsimp only at hSw)
  go_simp
  (try with_reducible rfl)
 (try simp only [Act.put,List.setIfInBounds_toArray,List.set_cons_zero,List.set_cons_succ])
 refine wpAnyM_take (i:=1) (d:=(some 5)) (v:=?_) rfl rfl (by kernel_rfl) (by kernel_rfl) (by kernel_rfl) (by kernel_rfl) (by kernel_rfl) (fun _ _ _ h=>h) (Or.inl ⟨by rfl,?_⟩) (by assumption) ?_
 rotate_left
 ·intro w hSw
  (try dsimp only at hSw)
  go_simp
  (try with_reducible rfl)
 (try simp only [Act.put,List.setIfInBounds_toArray,List.set_cons_zero,List.set_cons_succ])
 refine wpAnyM_take (i:=2) (d:=(some 6)) (v:=?_) rfl rfl (by kernel_rfl) (by kernel_rfl) (by kernel_rfl) (by kernel_rfl) (by kernel_rfl) (fun _ _ _ h=>h) (Or.inl ⟨by rfl,?_⟩) (by assumption) ?_
 rotate_left
 ·intro w hSw
  (try dsimp only at hSw)
  go_simp
  (try with_reducible rfl)
 (try simp only [Act.put,List.setIfInBounds_toArray,List.set_cons_zero,List.set_cons_succ])
 refine wpAnyM_take (i:=3) (d:=(some 7)) (v:=?_) rfl rfl (by kernel_rfl) (by kernel_rfl) (by kernel_rfl) (by kernel_rfl) (by kernel_rfl) (fun _ _ _ h=>h) (Or.inl ⟨by rfl,?_⟩) (by assumption) ?_
 rotate_left
 ·intro w hSw
  (try dsimp only at hSw)
  go_simp
  (try with_reducible rfl)
 (try simp only [Act.put,List.setIfInBounds_toArray,List.set_cons_zero,List.set_cons_succ])
 refine wpAnyM_take (i:=4) (d:=(some 8)) (v:=?_) rfl rfl (by kernel_rfl) (by kernel_rfl) (by kernel_rfl) (by kernel_rfl) (by kernel_rfl) (fun _ _ _ h=>h) (Or.inl ⟨by rfl,?_⟩) (by assumption) ?_
 rotate_left
 ·intro w hSw
  (try dsimp only at hSw)
  go_simp
  (try with_reducible rfl)
 (try simp only [Act.put,List.setIfInBounds_toArray,List.set_cons_zero,List.set_cons_succ])
 refine wpAnyM_take (i:=5) (d:=(some 9)) (v:=?_) rfl rfl (by kernel_rfl) (by kernel_rfl) (by kernel_rfl) (by kernel_rfl) (by kernel_rfl) (fun _ _ _ h=>h) (Or.inl ⟨by rfl,?_⟩) (by assumption) ?_
 rotate_left
 ·intro w hSw
  (try dsimp only at hSw)
  go_simp
  (try with_reducible rfl)
 (try simp only [Act.put,List.setIfInBounds_toArray,List.set_cons_zero,List.set_cons_succ])
 refine wpAnyM_take (i:=6) (d:=(some 10)) (v:=?_) rfl rfl (by kernel_rfl) (by kernel_rfl) (by kernel_rfl) (by kernel_rfl) (by kernel_rfl) (fun _ _ _ h=>h) (Or.inl ⟨by rfl,?_⟩) (by assumption) ?_
 rotate_left
 ·intro w hSw
  (try dsimp only at hSw)
  go_simp
  (try with_reducible rfl)
 (try simp only [Act.put,List.setIfInBounds_toArray,List.set_cons_zero,List.set_cons_succ])
 refine wpAnyM_take (i:=7) (d:=(some 11)) (v:=?_) rfl rfl (by kernel_rfl) (by kernel_rfl) (by kernel_rfl) (by kernel_rfl) (by kernel_rfl) (fun _ _ _ h=>h) (Or.inl ⟨by rfl,?_⟩) (by assumption) ?_
 rotate_left
 ·intro w hSw
  (try dsimp only at hSw)
  go_simp
  (try with_reducible rfl)
 (try simp only [Act.put,List.setIfInBounds_toArray,List.set_cons_zero,List.set_cons_succ])
 refine wpAnyM_take (i:=8) (d:=(some 12)) (v:=?_) rfl rfl (by kernel_rfl) (by kernel_rfl) (by kernel_rfl) (by kernel_rfl) (by kernel_rfl) (fun _ _ _ h=>h) (Or.inl ⟨by rfl,?_⟩) (by assumption) ?_
 rotate_left
 ·intro w hSw
  (try dsimp only at hSw)
  go_simp
  (try with_reducible rfl)
 (try simp only [Act.put,List.setIfInBounds_toArray,List.set_cons_zero,List.set_cons_succ])
 refine wpAnyM_take (i:=9) (d:=(some 13)) (v:=?_) rfl rfl (by kernel_rfl) (by kernel_rfl) (by kernel_rfl) (by kernel_rfl) (by kernel_rfl) (fun _ _ _ h=>h) (Or.inl ⟨by rfl,?_⟩) (by assumption) ?_
 rotate_left
 ·intro w hSw
  (try dsimp only at hSw)
  go_simp
  (try with_reducible rfl)
 (try simp only [Act.put,List.setIfInBounds_toArray,List.set_cons_zero,List.set_cons_succ])
 refine wpAnyM_take (i:=10) (d:=(some 14)) (v:=?_) rfl rfl (by kernel_rfl) (by kernel_rfl) (by kernel_rfl) (by kernel_rfl) (by kernel_rfl) (fun _ _ _ h=>h) (Or.inl ⟨by rfl,?_⟩) (by assumption) ?_
 rotate_left
 ·intro w hSw
  (try dsimp only at hSw)
  go_simp
  (try with_reducible rfl)
 (try simp only [Act.put,List.setIfInBounds_toArray,List.set_cons_zero,List.set_cons_succ])
 refine wpAnyM_take (i:=11) (d:=(some 15)) (v:=?_) rfl rfl (by kernel_rfl) (by kernel_rfl) (by kernel_rfl) (by kernel_rfl) (by kernel_rfl) (fun _ _ _ h=>h) (Or.inl ⟨by rfl,?_⟩) (by assumption) ?_
 rotate_left
 ·intro w hSw
  (try dsimp only at hSw)
  go_simp
  (try with_reducible rfl)
 (try simp only [Act.put,List.setIfInBounds_toArray,List.set_cons_zero,List.set_cons_succ])
 refine wpAnyM_one (i:=12) (by kernel_rfl) ?_
 refine owe_early (i:=12) (d:=(some 16)) rfl rfl (fun K hK=>?_)
 go_simp
 refine HTX.out.mono ?_
 rintro en wa ⟨rfl,hb⟩
 have HA:=Lib.hid (HD.out.trans (hb.mono HD.out.size))
 obtain ⟨q0,q1,q2⟩:=HK.out wa HA.out
 clear hb
 refine hK.out _ _ (by go_keep) (fun hHeld=>?_)
 clear hK K
 (try simp only [Act.put,List.setIfInBounds_toArray,List.set_cons_zero,List.set_cons_succ])
 refine wpAnyM_take (i:=13) (d:=(some 3)) (v:=?_) rfl rfl (by kernel_rfl) (by kernel_rfl) (by kernel_rfl) (by kernel_rfl) (by kernel_rfl) (fun _ _ _ h=>h) (Or.inl ⟨by rfl,?_⟩) (by assumption) ?_
 rotate_left
 ·intro w hSw
  (try dsimp only at hSw)
  go_simp
  (try with_reducible rfl)
 (try simp only [Act.put,List.setIfInBounds_toArray,List.set_cons_zero,List.set_cons_succ])
 refine wpAnyM_done (by kernel_rfl) ?_ _
 (try simp only [Act.put,List.setIfInBounds_toArray,List.set_cons_zero,List.set_cons_succ])
 go_wp2
 go_ret
 exact ⟨by rw [HNM.out];rfl,HA.out⟩
set_option maxHeartbeats 8000000 in
theorem dgroup_any {W:World}{g bl bg cg q:Nat}{Ag:Option Addr}{gs:List RowI}{l:List UInt8}{i:IdxM}(hI:IdxAt W g l i)(hin:IdxIn l i)(hl:l.length≤16777216)(hbx:W.cell? ⟨bl,0,none⟩=some (.pointer (some ⟨g,0,none⟩)))(hgx:W.cell? ⟨bg,0,none⟩=some (.slice Ag gs.length cg))(hR:Reads W W.heap.size 2 Ag gs.length (rowCells gs))(hgs:∀ x∈gs,∃ a b:Nat,x=((a:Int),(b:Int))∧a<i.texts.length∧b<i.tabs.length)(hT:i.texts.length≤16777216)(hN:gs.length≤16777216)(hq:q<gs.length) :
  Calls Tryz.prog 31 #[.int .i64 (q:Int),.pointer (some ⟨bl,0,none⟩),.pointer (some ⟨bg,0,none⟩)] W fun e w'=>e=.returned (.string (gpF l i gs q))∧Below W.heap.size W w':=by
 have hbl:=World.block_lt_of_cell? _ _ hbx
 have hbg:=World.block_lt_of_cell? _ _ hgx
 obtain ⟨x,hx⟩:∃ x,gs[q]?=some x:=⟨_,List.getElem?_eq_getElem hq⟩
 obtain ⟨a,b,rfl,ha,hb⟩:=hgs x (List.mem_of_getElem? hx)
 obtain ⟨bk,ok,rfl,hbk,hcl⟩:=hR.spot (by omega) (by omega)
 have hc0:W.cell? ⟨bk,ok+q*2,none⟩=some (.int .u32 (a:Int)):=hcl _ _ (rowCells_at hx).1
 have HNM:=Lib.hid (show gpF l i gs q=textM l i a from by unfold gpF;rw [List.getD_eq_getElem?_getD,hx];rfl)
 obtain ⟨ng,hng⟩:∃ ng,gs.length=ng:=⟨_,rfl⟩
 rw [hng] at hgx hN hq
 have HK:=Lib.hid (show ∀ W',Below W.heap.size W W'→W'.cell? ⟨bl,0,none⟩=some (.pointer (some ⟨g,0,none⟩))∧W'.cell? ⟨bg,0,none⟩=some (.slice (some ⟨bk,ok,none⟩) ng cg)∧W'.cell? ⟨bk,ok+q*2,none⟩=some (.int .u32 (a:Int)) from fun W' hb=>⟨(hb.cell (p:=⟨bl,0,none⟩) hbl).trans hbx,(hb.cell (p:=⟨bg,0,none⟩) hbg).trans hgx,(hb.cell (p:=⟨bk,ok+q*2,none⟩) hbk).trans hc0⟩)
 have hd:=(Below.refl W.heap.size W).drew
 have HD:=Lib.hid hd
 have HTX:=Lib.hid (itext_any (hI.on hd) hin ha hl)
 obtain ⟨z0,z1,z2⟩:=HK.out W (Below.refl _ _)
 have hq1:(q:Int)<(ng:Int):=by omega
 have hq0:(0:Int)≤(q:Int):=by omega
 have hN1:(ng:Int)≤16777216:=by omega
 have ha1:(a:Int)≤16777216:=by omega
 have ha0:(0:Int)≤(a:Int):=by omega
 have hwr:IntKind.i64.wrap (a:Int)=(a:Int):=by rw [IntKind.wrap_i64];omega
 clear hbx hgx hR hcl hx hng hgs hI hin hd hbl hbg hbk hc0 hb
 go_enter Tryz.func31,Tryz.ntmps31
 go_upto_region 1 with (fail)
 refine wp_region_M (fun W=>W.cell? ⟨bl,0,none⟩=some (.pointer (some ⟨g,0,none⟩))∧W.cell? ⟨bg,0,none⟩=some (.slice (some ⟨bk,ok,none⟩) ng cg)∧W.cell? ⟨bk,ok+q*2,none⟩=some (.int .u32 (a:Int))) 11 (by kernel_rfl) (by go_keep) (fun hHeld=>?_)
 refine wpAnyM_take (i:=0) (d:=(some 5)) (v:=?_) rfl rfl (by kernel_rfl) (by kernel_rfl) (by kernel_rfl) (by kernel_rfl) (by kernel_rfl) (fun _ _ _ h=>h) (Or.inl ⟨by rfl,?_⟩) (by assumption) ?_
 rotate_left
 ·intro w hSw
  (try dsimp only at hSw)
  go_simp
  (try with_reducible rfl)
 (try simp only [Act.put,List.setIfInBounds_toArray,List.set_cons_zero,List.set_cons_succ])
 refine wpAnyM_take (i:=1) (d:=(some 6)) (v:=?_) rfl rfl (by kernel_rfl) (by kernel_rfl) (by kernel_rfl) (by kernel_rfl) (by kernel_rfl) (fun _ _ _ h=>h) (Or.inl ⟨by rfl,?_⟩) (by assumption) ?_
 rotate_left
 ·intro w hSw
  (try dsimp only at hSw)
  go_simp
  (try with_reducible rfl)
 (try simp only [Act.put,List.setIfInBounds_toArray,List.set_cons_zero,List.set_cons_succ])
 refine wpAnyM_take (i:=2) (d:=(some 7)) (v:=?_) rfl rfl (by kernel_rfl) (by kernel_rfl) (by kernel_rfl) (by kernel_rfl) (by kernel_rfl) (fun _ _ _ h=>h) (Or.inl ⟨by rfl,?_⟩) (by assumption) ?_
 rotate_left
 ·intro w hSw
  (try dsimp only at hSw)
  go_simp
  (try with_reducible rfl)
 (try simp only [Act.put,List.setIfInBounds_toArray,List.set_cons_zero,List.set_cons_succ])
 refine wpAnyM_take (i:=3) (d:=(some 8)) (v:=?_) rfl rfl (by kernel_rfl) (by kernel_rfl) (by kernel_rfl) (by kernel_rfl) (by kernel_rfl) (fun _ _ _ h=>h) (Or.inl ⟨by rfl,?_⟩) (by assumption) ?_
 rotate_left
 ·intro w hSw
  (try dsimp only at hSw)
  go_simp
  (try with_reducible rfl)
 (try simp only [Act.put,List.setIfInBounds_toArray,List.set_cons_zero,List.set_cons_succ])
 refine wpAnyM_take (i:=4) (d:=(some 9)) (v:=?_) rfl rfl (by kernel_rfl) (by kernel_rfl) (by kernel_rfl) (by kernel_rfl) (by kernel_rfl) (fun _ _ _ h=>h) (Or.inl ⟨by rfl,?_⟩) (by assumption) ?_
 rotate_left
 ·intro w hSw
  (try dsimp only at hSw)
  go_simp
  (try with_reducible rfl)
 (try simp only [Act.put,List.setIfInBounds_toArray,List.set_cons_zero,List.set_cons_succ])
 refine wpAnyM_take (i:=5) (d:=(some 10)) (v:=?_) rfl rfl (by kernel_rfl) (by kernel_rfl) (by kernel_rfl) (by kernel_rfl) (by kernel_rfl) (fun _ _ _ h=>h) (Or.inl ⟨by rfl,?_⟩) (by assumption) ?_
 rotate_left
 ·intro w hSw
  (try dsimp only at hSw)
  go_simp
  (try with_reducible rfl)
 (try simp only [Act.put,List.setIfInBounds_toArray,List.set_cons_zero,List.set_cons_succ])
 refine wpAnyM_take (i:=6) (d:=(some 11)) (v:=?_) rfl rfl (by kernel_rfl) (by kernel_rfl) (by kernel_rfl) (by kernel_rfl) (by kernel_rfl) (fun _ _ _ h=>h) (Or.inl ⟨by rfl,?_⟩) (by assumption) ?_
 rotate_left
 ·intro w hSw
  (try dsimp only at hSw)
  go_simp
  (try with_reducible rfl)
 (try simp only [Act.put,List.setIfInBounds_toArray,List.set_cons_zero,List.set_cons_succ])
 refine wpAnyM_take (i:=7) (d:=(some 12)) (v:=?_) rfl rfl (by kernel_rfl) (by kernel_rfl) (by kernel_rfl) (by kernel_rfl) (by kernel_rfl) (fun _ _ _ h=>h) (Or.inl ⟨by rfl,?_⟩) (by assumption) ?_
 rotate_left
 ·intro w hSw
  (try dsimp only at hSw)
  go_simp
  (try with_reducible rfl)
 (try simp only [Act.put,List.setIfInBounds_toArray,List.set_cons_zero,List.set_cons_succ])
 refine wpAnyM_one (i:=8) (by kernel_rfl) ?_
 refine owe_early (i:=8) (d:=(some 13)) rfl rfl (fun K hK=>?_)
 go_simp
 refine hK.out _ _ (by go_keep) (fun hHeld=>?_)
 clear hK K
 (try simp only [Act.put,List.setIfInBounds_toArray,List.set_cons_zero,List.set_cons_succ])
 refine wpAnyM_one (i:=9) (by kernel_rfl) ?_
 refine owe_early (i:=9) (d:=(some 14)) rfl rfl (fun K hK=>?_)
 go_simp
 refine HTX.out.mono ?_
 rintro en wa ⟨rfl,hb⟩
 have HA:=Lib.hid (HD.out.trans (hb.mono HD.out.size))
 obtain ⟨q0,q1,q2⟩:=HK.out wa HA.out
 clear hb
 refine hK.out _ _ (by go_keep) (fun hHeld=>?_)
 clear hK K
 (try simp only [Act.put,List.setIfInBounds_toArray,List.set_cons_zero,List.set_cons_succ])
 refine wpAnyM_take (i:=10) (d:=(some 4)) (v:=?_) rfl rfl (by kernel_rfl) (by kernel_rfl) (by kernel_rfl) (by kernel_rfl) (by kernel_rfl) (fun _ _ _ h=>h) (Or.inl ⟨by rfl,?_⟩) (by assumption) ?_
 rotate_left
 ·intro w hSw
  (try dsimp only at hSw)
  go_simp
  (try with_reducible rfl)
 (try simp only [Act.put,List.setIfInBounds_toArray,List.set_cons_zero,List.set_cons_succ])
 refine wpAnyM_done (by kernel_rfl) ?_ _
 (try simp only [Act.put,List.setIfInBounds_toArray,List.set_cons_zero,List.set_cons_succ])
 go_wp2
 go_ret
 exact ⟨by rw [HNM.out];rfl,HA.out⟩
set_option maxHeartbeats 8000000 in
theorem dpath_any {W:World}{g bl bt t q:Nat}{l:List UInt8}{i:IdxM}(hI:IdxAt W g l i)(hin:IdxIn l i)(hl:l.length≤16777216)(hbx:W.cell? ⟨bl,0,none⟩=some (.pointer (some ⟨g,0,none⟩)))(htx:W.cell? ⟨bt,0,none⟩=some (.int .i64 (t:Int)))(ht:t<i.tabs.length)(hq:q<nrowsM i t)(hT:i.texts.length≤16777216)(hP:i.paths.length≤16777216) :
  Calls Tryz.prog 33 #[.int .i64 (q:Int),.pointer (some ⟨bl,0,none⟩),.pointer (some ⟨bt,0,none⟩)] W fun e w'=>e=.returned (.string (ptF l i t q))∧Below W.heap.size W w':=by
 have hbl:=World.block_lt_of_cell? _ _ hbx
 have hbt:=World.block_lt_of_cell? _ _ htx
 have hd:=(Below.refl W.heap.size W).drew
 have HD:=Lib.hid hd
 have HRW:=Lib.hid (irow_any (hI.on hd) hin ht hq hl)
 have hvm:ptF l i t q=textM l i (i.paths.getD (rowM l i t q).1 0):=rfl
 obtain ⟨pr,hpr⟩:∃ pr,rowM l i t q=pr:=⟨_,rfl⟩
 obtain ⟨sp,hsp⟩:∃ sp,i.tabs[t]?=some sp:=⟨_,List.getElem?_eq_getElem ht⟩
 obtain ⟨k9,e1,e2,e3⟩:=hin.tabs sp (List.mem_of_getElem? hsp)
 have hpin:pr.1<i.paths.length:=by
  have hnk:nrowsM i t=k9:=by
   unfold nrowsM
   rw [List.getD_eq_getElem?_getD,hsp]
   simp only [Option.getD_some]
   omega
  have h:=(e3 q (by omega)).1
  rw [←hpr]
  unfold rowM
  rw [List.getD_eq_getElem?_getD,hsp]
  exact h
 rw [hpr] at HRW hvm
 obtain ⟨np,nt⟩:=pr
 simp only at hpin hvm HRW
 obtain ⟨tp,htp⟩:∃ tp,i.paths[np]?=some tp:=⟨_,List.getElem?_eq_getElem hpin⟩
 have hpt:=hin.paths tp (List.mem_of_getElem? htp)
 rw [List.getD_eq_getElem?_getD,htp] at hvm
 simp only [Option.getD_some] at hvm
 obtain ⟨nP,bp,op,cp,hnpl,hpf⟩:=hI.pth htp
 have HNM:=Lib.hid hvm
 have HTX:=Lib.hid (fun W' (hb:Below W.heap.size W W')=>itext_any (hI.on hb) hin hpt hl)
 have HK:=Lib.hid (show ∀ W',Below W.heap.size W W'→W'.cell? ⟨bl,0,none⟩=some (.pointer (some ⟨g,0,none⟩))∧W'.cell? ⟨bt,0,none⟩=some (.int .i64 (t:Int))∧W'.cell? ⟨g,2,none⟩=some (.slice (some ⟨bp,op,none⟩) nP cp)∧W'.cell? ⟨bp,op+np,none⟩=some (.int .i64 (tp:Int)) from fun W' hb=>⟨(hb.cell (p:=⟨bl,0,none⟩) hbl).trans hbx,(hb.cell (p:=⟨bt,0,none⟩) hbt).trans htx,hpf W' hb⟩)
 obtain ⟨z0,z1,z2,z3⟩:=HK.out W (Below.refl _ _)
 have hnp1:(np:Int)<(nP:Int):=by omega
 have hnp0:(0:Int)≤(np:Int):=by omega
 have hnp9:(np:Int)≤16777216:=by omega
 clear hbx htx hpr hsp e1 e2 e3 hvm htp hpf hI hin hd hbl hbt
 go_enter Tryz.func33,Tryz.ntmps33
 go_upto_region 1 with (fail)
 refine wp_region_M (fun W=>W.cell? ⟨bl,0,none⟩=some (.pointer (some ⟨g,0,none⟩))∧W.cell? ⟨bt,0,none⟩=some (.int .i64 (t:Int))∧W.cell? ⟨g,2,none⟩=some (.slice (some ⟨bp,op,none⟩) nP cp)∧W.cell? ⟨bp,op+np,none⟩=some (.int .i64 (tp:Int))) 11 (by kernel_rfl) (by go_keep) (fun hHeld=>?_)
 refine wpAnyM_take (i:=0) (d:=(some 8)) (v:=?_) rfl rfl (by kernel_rfl) (by kernel_rfl) (by kernel_rfl) (by kernel_rfl) (by kernel_rfl) (fun _ _ _ h=>h) (Or.inl ⟨by rfl,?_⟩) (by assumption) ?_
 rotate_left
 ·intro w hSw
  (try dsimp only at hSw)
  go_simp
  (try with_reducible rfl)
 (try simp only [Act.put,List.setIfInBounds_toArray,List.set_cons_zero,List.set_cons_succ])
 refine wpAnyM_take (i:=1) (d:=(some 9)) (v:=?_) rfl rfl (by kernel_rfl) (by kernel_rfl) (by kernel_rfl) (by kernel_rfl) (by kernel_rfl) (fun _ _ _ h=>h) (Or.inl ⟨by rfl,?_⟩) (by assumption) ?_
 rotate_left
 ·intro w hSw
  (try dsimp only at hSw)
  go_simp
  (try with_reducible rfl)
 (try simp only [Act.put,List.setIfInBounds_toArray,List.set_cons_zero,List.set_cons_succ])
 refine wpAnyM_take (i:=2) (d:=(some 10)) (v:=?_) rfl rfl (by kernel_rfl) (by kernel_rfl) (by kernel_rfl) (by kernel_rfl) (by kernel_rfl) (fun _ _ _ h=>h) (Or.inl ⟨by rfl,?_⟩) (by assumption) ?_
 rotate_left
 ·intro w hSw
  (try dsimp only at hSw)
  go_simp
  (try with_reducible rfl)
 (try simp only [Act.put,List.setIfInBounds_toArray,List.set_cons_zero,List.set_cons_succ])
 refine wpAnyM_take (i:=3) (d:=(some 11)) (v:=?_) rfl rfl (by kernel_rfl) (by kernel_rfl) (by kernel_rfl) (by kernel_rfl) (by kernel_rfl) (fun _ _ _ h=>h) (Or.inl ⟨by rfl,?_⟩) (by assumption) ?_
 rotate_left
 ·intro w hSw
  (try dsimp only at hSw)
  go_simp
  (try with_reducible rfl)
 (try simp only [Act.put,List.setIfInBounds_toArray,List.set_cons_zero,List.set_cons_succ])
 refine wpAnyM_take (i:=4) (d:=(some 12)) (v:=?_) rfl rfl (by kernel_rfl) (by kernel_rfl) (by kernel_rfl) (by kernel_rfl) (by kernel_rfl) (fun _ _ _ h=>h) (Or.inl ⟨by rfl,?_⟩) (by assumption) ?_
 rotate_left
 ·intro w hSw
  (try dsimp only at hSw)
  go_simp
  (try with_reducible rfl)
 (try simp only [Act.put,List.setIfInBounds_toArray,List.set_cons_zero,List.set_cons_succ])
 refine wpAnyM_one (i:=5) (by kernel_rfl) ?_
 refine owe_early (i:=5) (d:=(some 13)) rfl rfl (fun K hK=>?_)
 go_simp
 refine HRW.out.mono ?_
 rintro en wa ⟨rfl,hb⟩
 have HA:=Lib.hid (HD.out.trans (hb.mono HD.out.size))
 obtain ⟨q0,q1,q2,q3⟩:=HK.out wa HA.out
 clear hb
 refine hK.out _ _ (by go_keep) (fun hHeld=>?_)
 clear hK K
 (try simp only [Act.put,List.setIfInBounds_toArray,List.set_cons_zero,List.set_cons_succ])
 refine wpAnyM_take (i:=6) (d:=(some 7)) (v:=?_) rfl rfl (by kernel_rfl) (by kernel_rfl) (by kernel_rfl) (by kernel_rfl) (by kernel_rfl) (fun _ _ _ h=>h) (Or.inl ⟨by rfl,?_⟩) (by assumption) ?_
 rotate_left
 ·intro w hSw
  (try dsimp only at hSw)
  go_simp
  (try with_reducible rfl)
 (try simp only [Act.put,List.setIfInBounds_toArray,List.set_cons_zero,List.set_cons_succ])
 refine wpAnyM_take (i:=7) (d:=(some 14)) (v:=?_) rfl rfl (by kernel_rfl) (by kernel_rfl) (by kernel_rfl) (by kernel_rfl) (by kernel_rfl) (fun _ _ _ h=>h) (Or.inl ⟨by rfl,?_⟩) (by assumption) ?_
 rotate_left
 ·intro w hSw
  (try dsimp only at hSw)
  go_simp
  (try with_reducible rfl)
 (try simp only [Act.put,List.setIfInBounds_toArray,List.set_cons_zero,List.set_cons_succ])
 refine wpAnyM_take (i:=8) (d:=(some 15)) (v:=?_) rfl rfl (by kernel_rfl) (by kernel_rfl) (by kernel_rfl) (by kernel_rfl) (by kernel_rfl) (fun _ _ _ h=>h) (Or.inl ⟨by rfl,?_⟩) (by assumption) ?_
 rotate_left
 ·intro w hSw
  (try dsimp only at hSw)
  go_simp
  (try with_reducible rfl)
 (try simp only [Act.put,List.setIfInBounds_toArray,List.set_cons_zero,List.set_cons_succ])
 refine wpAnyM_take (i:=9) (d:=(some 5)) (v:=?_) rfl rfl (by kernel_rfl) (by kernel_rfl) (by kernel_rfl) (by kernel_rfl) (by kernel_rfl) (fun _ _ _ h=>h) (Or.inl ⟨by rfl,?_⟩) (by assumption) ?_
 rotate_left
 ·intro w hSw
  (try dsimp only at hSw)
  go_simp
  (try with_reducible rfl)
 (try simp only [Act.put,List.setIfInBounds_toArray,List.set_cons_zero,List.set_cons_succ])
 refine wpAnyM_take (i:=10) (d:=(some 6)) (v:=?_) rfl rfl (by kernel_rfl) (by kernel_rfl) (by kernel_rfl) (by kernel_rfl) (by kernel_rfl) (fun _ _ _ h=>h) (Or.inl ⟨by rfl,?_⟩) (by assumption) ?_
 rotate_left
 ·intro w hSw
  (try dsimp only at hSw)
  go_simp
  (try with_reducible rfl)
 (try simp only [Act.put,List.setIfInBounds_toArray,List.set_cons_zero,List.set_cons_succ])
 refine wpAnyM_done (by kernel_rfl) ?_ _
 (try simp only [Act.put,List.setIfInBounds_toArray,List.set_cons_zero,List.set_cons_succ])
 have HA1:=Lib.hid HA.out.drew
 have HTX2:=Lib.hid (HTX.out wa.drew HA1.out)
 go_upto_region 2 with (fail)
 refine wp_region_M (fun W=>W.cell? ⟨bl,0,none⟩=some (.pointer (some ⟨g,0,none⟩))∧W.cell? ⟨bt,0,none⟩=some (.int .i64 (t:Int))∧W.cell? ⟨g,2,none⟩=some (.slice (some ⟨bp,op,none⟩) nP cp)∧W.cell? ⟨bp,op+np,none⟩=some (.int .i64 (tp:Int))) 13 (by kernel_rfl) (by go_keep) (fun hHeld=>?_)
 refine wpAnyM_take (i:=0) (d:=(some 16)) (v:=?_) rfl rfl (by kernel_rfl) (by kernel_rfl) (by kernel_rfl) (by kernel_rfl) (by kernel_rfl) (fun _ _ _ h=>h) (Or.inl ⟨by rfl,?_⟩) (by assumption) ?_
 rotate_left
 ·intro w hSw
  (try dsimp only at hSw)
  go_simp
  (try with_reducible rfl)
 (try simp only [Act.put,List.setIfInBounds_toArray,List.set_cons_zero,List.set_cons_succ])
 refine wpAnyM_take (i:=1) (d:=(some 17)) (v:=?_) rfl rfl (by kernel_rfl) (by kernel_rfl) (by kernel_rfl) (by kernel_rfl) (by kernel_rfl) (fun _ _ _ h=>h) (Or.inl ⟨by rfl,?_⟩) (by assumption) ?_
 rotate_left
 ·intro w hSw
  (try dsimp only at hSw)
  go_simp
  (try with_reducible rfl)
 (try simp only [Act.put,List.setIfInBounds_toArray,List.set_cons_zero,List.set_cons_succ])
 refine wpAnyM_take (i:=2) (d:=(some 18)) (v:=?_) rfl rfl (by kernel_rfl) (by kernel_rfl) (by kernel_rfl) (by kernel_rfl) (by kernel_rfl) (fun _ _ _ h=>h) (Or.inl ⟨by rfl,?_⟩) (by assumption) ?_
 rotate_left
 ·intro w hSw
  (try dsimp only at hSw)
  go_simp
  (try with_reducible rfl)
 (try simp only [Act.put,List.setIfInBounds_toArray,List.set_cons_zero,List.set_cons_succ])
 refine wpAnyM_take (i:=3) (d:=(some 19)) (v:=?_) rfl rfl (by kernel_rfl) (by kernel_rfl) (by kernel_rfl) (by kernel_rfl) (by kernel_rfl) (fun _ _ _ h=>h) (Or.inl ⟨by rfl,?_⟩) (by assumption) ?_
 rotate_left
 ·intro w hSw
  (try dsimp only at hSw)
  go_simp
  (try with_reducible rfl)
 (try simp only [Act.put,List.setIfInBounds_toArray,List.set_cons_zero,List.set_cons_succ])
 refine wpAnyM_take (i:=4) (d:=(some 20)) (v:=?_) rfl rfl (by kernel_rfl) (by kernel_rfl) (by kernel_rfl) (by kernel_rfl) (by kernel_rfl) (fun _ _ _ h=>h) (Or.inl ⟨by rfl,?_⟩) (by assumption) ?_
 rotate_left
 ·intro w hSw
  (try dsimp only at hSw)
  go_simp
  (try with_reducible rfl)
 (try simp only [Act.put,List.setIfInBounds_toArray,List.set_cons_zero,List.set_cons_succ])
 refine wpAnyM_take (i:=5) (d:=(some 21)) (v:=?_) rfl rfl (by kernel_rfl) (by kernel_rfl) (by kernel_rfl) (by kernel_rfl) (by kernel_rfl) (fun _ _ _ h=>h) (Or.inl ⟨by rfl,?_⟩) (by assumption) ?_
 rotate_left
 ·intro w hSw
  (try dsimp only at hSw)
  go_simp
  (try with_reducible rfl)
 (try simp only [Act.put,List.setIfInBounds_toArray,List.set_cons_zero,List.set_cons_succ])
 refine wpAnyM_take (i:=6) (d:=(some 22)) (v:=?_) rfl rfl (by kernel_rfl) (by kernel_rfl) (by kernel_rfl) (by kernel_rfl) (by kernel_rfl) (fun _ _ _ h=>h) (Or.inl ⟨by rfl,?_⟩) (by assumption) ?_
 rotate_left
 ·intro w hSw
  (try dsimp only at hSw)
  go_simp
  (try with_reducible rfl)
 (try simp only [Act.put,List.setIfInBounds_toArray,List.set_cons_zero,List.set_cons_succ])
 refine wpAnyM_take (i:=7) (d:=(some 23)) (v:=?_) rfl rfl (by kernel_rfl) (by kernel_rfl) (by kernel_rfl) (by kernel_rfl) (by kernel_rfl) (fun _ _ _ h=>h) (Or.inl ⟨by rfl,?_⟩) (by assumption) ?_
 rotate_left
 ·intro w hSw
  (try dsimp only at hSw)
  go_simp
  (try with_reducible rfl)
 (try simp only [Act.put,List.setIfInBounds_toArray,List.set_cons_zero,List.set_cons_succ])
 refine wpAnyM_take (i:=8) (d:=(some 24)) (v:=?_) rfl rfl (by kernel_rfl) (by kernel_rfl) (by kernel_rfl) (by kernel_rfl) (by kernel_rfl) (fun _ _ _ h=>h) (Or.inl ⟨by rfl,?_⟩) (by assumption) ?_
 rotate_left
 ·intro w hSw
  (try dsimp only at hSw)
  go_simp
  (try with_reducible rfl)
 (try simp only [Act.put,List.setIfInBounds_toArray,List.set_cons_zero,List.set_cons_succ])
 refine wpAnyM_take (i:=9) (d:=(some 25)) (v:=?_) rfl rfl (by kernel_rfl) (by kernel_rfl) (by kernel_rfl) (by kernel_rfl) (by kernel_rfl) (fun _ _ _ h=>h) (Or.inl ⟨by rfl,?_⟩) (by assumption) ?_
 rotate_left
 ·intro w hSw
  (try dsimp only at hSw)
  go_simp
  (try with_reducible rfl)
 (try simp only [Act.put,List.setIfInBounds_toArray,List.set_cons_zero,List.set_cons_succ])
 refine wpAnyM_take (i:=10) (d:=(some 26)) (v:=?_) rfl rfl (by kernel_rfl) (by kernel_rfl) (by kernel_rfl) (by kernel_rfl) (by kernel_rfl) (fun _ _ _ h=>h) (Or.inl ⟨by rfl,?_⟩) (by assumption) ?_
 rotate_left
 ·intro w hSw
  (try dsimp only at hSw)
  go_simp
  (try with_reducible rfl)
 (try simp only [Act.put,List.setIfInBounds_toArray,List.set_cons_zero,List.set_cons_succ])
 refine wpAnyM_one (i:=11) (by kernel_rfl) ?_
 refine owe_early (i:=11) (d:=(some 27)) rfl rfl (fun K hK=>?_)
 go_simp
 refine HTX2.out.mono ?_
 rintro en wb ⟨rfl,hb⟩
 have HA2:=Lib.hid (HA1.out.trans (hb.mono HA1.out.size))
 obtain ⟨q0,q1,q2,q3⟩:=HK.out wb HA2.out
 clear hb
 refine hK.out _ _ (by go_keep) (fun hHeld=>?_)
 clear hK K
 (try simp only [Act.put,List.setIfInBounds_toArray,List.set_cons_zero,List.set_cons_succ])
 refine wpAnyM_take (i:=12) (d:=(some 4)) (v:=?_) rfl rfl (by kernel_rfl) (by kernel_rfl) (by kernel_rfl) (by kernel_rfl) (by kernel_rfl) (fun _ _ _ h=>h) (Or.inl ⟨by rfl,?_⟩) (by assumption) ?_
 rotate_left
 ·intro w hSw
  (try dsimp only at hSw)
  go_simp
  (try with_reducible rfl)
 (try simp only [Act.put,List.setIfInBounds_toArray,List.set_cons_zero,List.set_cons_succ])
 refine wpAnyM_done (by kernel_rfl) ?_ _
 (try simp only [Act.put,List.setIfInBounds_toArray,List.set_cons_zero,List.set_cons_succ])
 go_wp2
 go_ret
 exact ⟨by rw [HNM.out];rfl,HA2.out⟩
/-- A search among the Books' names. -/
theorem tells_names {w:World}{g bl:Nat}{r:List PStep}{l:List UInt8}{i:IdxM}(h:Ld w g r l i)(hbx:w.cell? ⟨bl,0,none⟩=some (.pointer (some ⟨g,0,none⟩))):Tells 28 #[.pointer (some ⟨bl,0,none⟩)] r.length (nmF l i) w:=fun W j hj hb=>by
 have hl:=World.block_lt_of_cell? _ _ hbx
 exact dname_any (h.at_.on hb) h.ok.toIdxIn h.few ((hb.cell (p:=⟨bl,0,none⟩) hl).trans hbx) (by have:=h.bin;omega) (by rw [h.len];exact hj)
theorem tells_has {w:World}{g bl:Nat}{r:List PStep}{l:List UInt8}{i:IdxM}(h:Ld w g r l i)(hbx:w.cell? ⟨bl,0,none⟩=some (.pointer (some ⟨g,0,none⟩))):Tells 36 #[.pointer (some ⟨bl,0,none⟩)] r.length (nmF l i) w:=fun W j hj hb=>by
 have hl:=World.block_lt_of_cell? _ _ hbx
 exact hname_any (h.at_.on hb) h.ok.toIdxIn h.few ((hb.cell (p:=⟨bl,0,none⟩) hl).trans hbx) (by have:=h.bin;omega) (by rw [h.len];exact hj)
/-- Is there a Book of a name? -/
def hasB (r:List PStep)(n:ByteArray):Bool:=r.any fun b=>decide (b.1=n)
theorem seek_has {r:List PStep}{l:List UInt8}{i:IdxM}{n:ByteArray}{k:Int}(h:IdxIs r l i)(hs:HuntIs (nmF l i) r.length n k):(k ≥ 0↔hasB r n=true)∧k≤1000000000+r.length:=by
 rcases hs with ⟨j,hj,rfl,he⟩ | ⟨rfl,hn⟩
 ·refine ⟨⟨fun _=>?_,fun _=>by omega⟩,by omega⟩
  have hb:r[j]?=some r[j]:=List.getElem?_eq_getElem hj
  rw [(h.nm hb).2] at he
  exact List.any_eq_true.2 ⟨_,List.getElem_mem hj,decide_eq_true he⟩
 ·refine ⟨⟨fun h=>absurd h (by decide),fun h2=>?_⟩,by omega⟩
  obtain ⟨b,hb,he⟩:=List.any_eq_true.1 h2
  obtain ⟨j,hj,rfl⟩:=List.getElem_of_mem hb
  have hb2:r[j]?=some r[j]:=List.getElem?_eq_getElem hj
  have h3:=hn j hj
  rw [(h.nm hb2).2] at h3
  exact absurd (of_decide_eq_true he) h3
set_option maxHeartbeats 8000000 in
theorem has_any {w:World}{g:Nat}{r:List PStep}(h:LoadedAt w g r)(n:ByteArray) :
  Calls Tryz.prog 12 #[.pointer (some ⟨g,0,none⟩),.string n] w fun e w'=>e=.returned (.bool (hasB r n))∧Below w.heap.size w w':=by
 have hL:=h.ld
 generalize bodyB r=l at hL
 generalize idxM l=i at hL
 have hb0:=(Below.refl w.heap.size w).alloc (Nat.le_refl _) (.cells #[.pointer (some ⟨g,0,none⟩)] 29)
 have hB1:=Blk.new w 29 #[.pointer (some ⟨g,0,none⟩)]
 have HS:=Lib.hid (seek_any 36 #[.pointer (some ⟨w.heap.size,0,none⟩)] r.length (nmF l i) n _ (enters_of Tryz.func36 (by kernel_rfl) rfl) (by have:=hL.nb;omega) (tells_has (hL.on hb0) (hB1.cell 0)) (hL.is.nm_rise (checkB_ok hL.right).2.1))
 have HSK:=Lib.hid (fun k=>seek_has (n:=n) (k:=k) hL.is)
 have HB0:=Lib.hid hb0
 obtain ⟨Ak,ck,hK0,-⟩:=hL.at_.bks
 have k0:=hK0 _ hb0
 rw [hL.len] at k0
 have hnr:(r.length:Int)≤513:=by have:=hL.nb;omega
 generalize hasB r n=hs at *
 generalize r.length=nr at *
 clear hL h hK0 hb0 hB1
 go_enter Tryz.func12,Tryz.ntmps12
 go_wp2_with fail
 refine HS.out.mono ?_
 rintro en w1 ⟨⟨k,rfl,hk⟩,hb⟩
 have hk2:=HSK.out k hk
 have HB1:=Lib.hid (HB0.out.trans (hb.mono HB0.out.size))
 clear hk hb k0
 have HD:=Lib.hid (show decide (0≤k)=hs from by
  cases hs with
  | true=>exact decide_eq_true (hk2.1.2 rfl)
  | false=>exact decide_eq_false fun h=>by have:=hk2.1.1 h;cases this)
 clear hk2 HSK
 go_wp2
 go_ret
 exact ⟨by rw [←HD.out];rfl,HB1.out⟩
/-- What was loaded, as a bundle again. -/
def LBunPost (r:List PStep)(w:World)(e:Ending)(w':World):Prop:=∃ A c us,e=.returned (.agg #[.slice A r.length c])∧BunOwn w' w.heap.size (.slice A r.length c) r us∧Below w.heap.size w w'
theorem lbundle_result {tmps:Array Value}{w:World}{r0:Nat}{v:Value}(hB:Blk w r0 24 #[v])(hp:tmps.getD 2 undef=.pointer (some ⟨r0,0,none⟩)) :
  (results Tryz.f17 tmps).run Tryz.prog w=.ok (.agg #[v]) w :=
 results_row Tryz.results17 tmps w r0 24 #[v] _ hp hB Tryz.underlying24 rfl (by kernel_rfl)
set_option maxHeartbeats 16000000 in
theorem lbundle_any {w:World}{g:Nat}{r:List PStep}(h:LoadedAt w g r):Calls Tryz.prog 17 #[.pointer (some ⟨g,0,none⟩)] w (LBunPost r w):=by
 have hL:=h.ld
 generalize bodyB r=l at hL
 generalize idxM l=i at hL
 have hb0:=(Below.refl w.heap.size w).alloc (Nat.le_refl _) (.cells #[.slice none 0 0] 24)
 have HB0:=Lib.hid hb0
 have HG2:=Lib.hid (Blk.new w 24 #[.slice none 0 0])
 have HIB:=Lib.hid (show Calls Tryz.prog 26 #[.pointer (some ⟨g,0,none⟩)] _ _ from ibundle_any (hL.at_.on hb0) hL.ok hL.few hL.bks hL.txt hL.tab hL.pth)
 have HST:=Lib.hid (told_srt hL.ok hL.few)
 have HUN:=Lib.hid (show ∀ r' e a,SortIs (toldM l i) r' e a→r'=r from fun r' e a hs=>by
  rw [hL.told] at hs
  exact (got_sorted hL.right hs).1)
 clear hL h hb0
 go_enter Tryz.func17,Tryz.ntmps17
 go_upto_region 4 with (first | (go_at_call 26;go_must (refine HIB.out.mono ?_;rintro en w4 ⟨u,us,rfl,ho4,hb4⟩;have HO4:=Lib.hid ho4;have HB4:=Lib.hid hb4;clear ho4 hb4)) | (go_at_call 20;go_must (refine (bsort_any u _ us w4 HO4.out.steps HST.out).mono ?_;rintro en w5 ⟨⟨ur0,r5,rs,e1,a1,rfl,hsi,hor⟩,hb5⟩;have hrr:=HUN.out r5 e1 a1 hsi;subst hrr;obtain ⟨Ar,cr,rfl,-,-,-⟩:=own_form hor.1;obtain ⟨nr,hnr⟩:∃ nr,r5.length=nr:=⟨_,rfl⟩;rw [hnr] at hor ⊢;have HNR:=Lib.hid hnr;have HOR:=Lib.hid hor;have HBS:=Lib.hid (HB4.out.trans (hb5.mono HB4.out.size));clear hsi hor hb5 hnr)))
 have HTV:=Lib.hid (two_vars w5 (.slice Ar nr cr) e1 a1)
 have HOR6:=Lib.hid ((HOR.out.on HTV.out.1).base (show w.heap.size≤w4.heap.size from by have:=HB0.out.size;have:=HB4.out.size;omega))
 have HB6:=Lib.hid (HB0.out.trans ((HBS.out.trans (HTV.out.1.mono HBS.out.size)).mono HB0.out.size))
 have HG6:=Lib.hid (HG2.out.below (HBS.out.trans (HTV.out.1.mono HBS.out.size)) HG2.out.lt)
 clear HOR HBS HO4 HB4 HIB HST HUN
 generalize (w5.alloc (.cells #[.slice Ar nr cr] 24)).alloc (.cells #[.int .i64 e1,.int .i64 a1] 54)=w6 at *
 generalize w5.heap.size=g1 at *
 have k0:w6.cell? ⟨g1,0,none⟩=some (.slice Ar nr cr):=HTV.out.2.1.cell 0
 have k1:w6.cell? ⟨w.heap.size,0,none⟩=some (.slice none 0 0):=HG6.out.cell 0
 have k2:w6.frozen? ⟨w.heap.size,0,none⟩=false:=HG6.out.frozen 0
 have hs:=grown_set w6 w.heap.size 0 (.slice Ar nr cr)
 have HFB:=Lib.hid (HG6.out.set_ 0 (.slice Ar nr cr))
 clear HTV hs
 go_wp2
 (try simp only [Exit.inBlock,Exit.then])
 refine bodyPost_ret (lbundle_result HFB.out rfl) rfl ⟨Ar,cr,rs,by rw [HNR.out],?_,HB6.out.setCell (p:=⟨w.heap.size,0,none⟩) (Nat.le_refl _) _⟩
 rw [HNR.out]
 exact bunown_set HG6.out HOR6.out
end
section
open Go.RowKit

theorem wpIn_both {F:Fence}{n:Nat}{P:Program}{c:Code}{Q:Exit→Act→World→Prop}{a:Act}{w:World}(M:Nat→World→Prop)(hq:∀ a w,Q .normal a w→Q (.exit 0) a w)
  (h:c.wpIn F n P (fun e a' W=>(e=.normal∨e=.exit 0)∧∃ D,a'={ a with defers:={ target:=.collected D,args:=#[] }::a.defers }∧M D W) a w)
  (hr:∀ D W,M D W→Q .normal { a with defers:={ target:=.collected D,args:=#[] }::a.defers } W):c.wpIn F n P Q a w :=
 wpIn_mono h fun e a' W ⟨he,D,ha,hm⟩=>by
  subst ha
  rcases he with rfl | rfl
  ·exact hr D W hm
  ·exact hq _ _ (hr D W hm)
theorem marks_stay {X Y:World}{D:Nat}(h:X.heap[D]?=some (.deferred (some [])))(hb:Below X.heap.size X Y):Y.heap[D]?=some (.deferred (some [])):=(hb.block D (Array.getElem?_eq_some_iff.1 h).1).trans h
theorem wpIn_scope_wide {n:Nat}{P:Program}{c:Code}{Q:Exit→Act→World→Prop}{a:Act}{w:World}(h:c.wpIn Fence.wide n P (Exit.noGoto Q) a w):(Code.scope c).wpIn Fence.wide n P Q a w:=wpIn_wide.2 (wp_scope_straight (wpIn_wide.1 h))
/-- No way out but the end. -/
def OnlyN (K:Act→World→Prop):Exit→Act→World→Prop
 | .normal,a,w=>K a w
 | _,_,_=>False
theorem wp_onlyN {P:Program}{c:Code}{Q:Exit→Act→World→Prop}{a:Act}{w:World}(h:c.wp P (OnlyN (Q .normal)) a w):c.wp P Q a w:=wp_mono h fun e a w hq=>by
 cases e with
 | normal=>exact hq
 | _=>exact hq.elim
end
section
open Go.RowKit Go.Shelf

attribute [local go_sem] Oper.semAt_some
/-- The end of Direct behind the mark of its loop. -/
theorem direct_end {tmps:Array Value}{w W:World}{D:Nat}{x:ByteArray}{b:Bool}{R:Ending→World→Prop}{n:Nat}(h6:tmps[6]?.getD undef=.string x)(h7:tmps[7]?.getD undef=.bool b)(hD:W.heap[D]?=some (.deferred (some [])))(hl:w.heap.size≤D)(hb:Below w.heap.size w W)
  (hR:∀ W',Below w.heap.size w W'→R (.returned (.tuple #[.string x,.bool b])) W') :
  bodyPostM Fence.wide n Tryz.prog Tryz.f9 R .ret { tmps:=tmps,defers:=[{ target:=.collected D,args:=#[] }] } W:=by
 refine ⟨by simp,.inl ⟨_,_,rfl,run_takeDeferred hD,?_⟩⟩
 refine ⟨.tuple #[.string x,.bool b],?_,hR _ (hb.trans (belowK_b (w:=w) (Nat.le_refl _) _ D _ _ hl hD rfl rfl))⟩
 simp [results,Tryz.f9,h6,h7]
/-- What is told of a Book's values. -/
theorem findB_no {r:List PStep}{k:Nat}{b:PStep}{n p:ByteArray}(hc:(checkB r).1=0)(hb:r[k]?=some b)(hn:b.1=n)(h:∀ v∈b.2,v.1≠p):findB r n p=(ByteArray.empty,false):=findB_none (checkB_ok hc).2.1 hb hn h
theorem no_group {b:PStep}{p:ByteArray}(h:∀ k,k<(groupsB b.2).length→∀ g,(groupsB b.2)[k]?=some g→g≠grp p):∀ v∈b.2,v.1≠p:=fun v hv e=>by
 obtain ⟨k,hk⟩:=List.mem_iff_getElem?.1 (in_group hv)
 exact h k (List.getElem?_eq_some_iff.1 hk).1 _ hk (by rw [e])
theorem no_row {b:PStep}{p:ByteArray}(h:∀ k,k<(inG b (grp p)).length→∀ v,(inG b (grp p))[k]?=some v→v.1≠p):∀ v∈b.2,v.1≠p:=fun v hv e=>by
 have h1:=in_inG hv
 rw [e] at h1
 obtain ⟨k,hk⟩:=List.mem_iff_getElem?.1 h1
 exact h k (List.getElem?_eq_some_iff.1 hk).1 _ hk e
theorem tells_groups {w:World}{g bl bg cg j:Nat}{r:List PStep}{l:List UInt8}{i:IdxM}{Ag:Option Addr}{k:Nat×List RowI}(h:Ld w g r l i)(hbx:w.cell? ⟨bl,0,none⟩=some (.pointer (some ⟨g,0,none⟩)))(hk:i.books[j]?=some k)(hgx:w.cell? ⟨bg,0,none⟩=some (.slice Ag k.2.length cg))(hR:Reads w w.heap.size 2 Ag k.2.length (rowCells k.2)) :
  Tells 31 #[.pointer (some ⟨bl,0,none⟩),.pointer (some ⟨bg,0,none⟩)] k.2.length (gpF l i k.2) w:=fun W q hq hb=>by
 have hl:=World.block_lt_of_cell? _ _ hbx
 have hg:=World.block_lt_of_cell? _ _ hgx
 have hm:=List.mem_of_getElem? hk
 exact dgroup_any (h.at_.on hb) h.ok.toIdxIn h.few ((hb.cell (p:=⟨bl,0,none⟩) hl).trans hbx) ((hb.cell (p:=⟨bg,0,none⟩) hg).trans hgx) ((hR.below hb).more hb.size) (h.ok.books k hm).2 h.txt (h.bks k hm) hq
theorem tells_rows {w:World}{g bl bt t:Nat}{r:List PStep}{l:List UInt8}{i:IdxM}(h:Ld w g r l i)(hbx:w.cell? ⟨bl,0,none⟩=some (.pointer (some ⟨g,0,none⟩)))(htx:w.cell? ⟨bt,0,none⟩=some (.int .i64 (t:Int)))(ht:t<i.tabs.length) :
  Tells 33 #[.pointer (some ⟨bl,0,none⟩),.pointer (some ⟨bt,0,none⟩)] (nrowsM i t) (ptF l i t) w:=fun W q hq hb=>by
 have hl:=World.block_lt_of_cell? _ _ hbx
 have hg:=World.block_lt_of_cell? _ _ htx
 exact dpath_any (h.at_.on hb) h.ok.toIdxIn h.few ((hb.cell (p:=⟨bl,0,none⟩) hl).trans hbx) ((hb.cell (p:=⟨bt,0,none⟩) hg).trans htx) ht hq h.txt h.pth
/-- What the search among the groups tells. -/
theorem groups_none {r:List PStep}{l:List UInt8}{i:IdxM}{b:PStep}{n p:ByteArray}{j:Nat}(his:IdxIs r l i)(hc:(checkB r).1=0)(hb:r[j]?=some b)(hn:b.1=n)(hs:∀ k,k<(bookM (textsP r) (pathsP r) (tabsB r) b).2.length→gpF l i (bookM (textsP r) (pathsP r) (tabsB r) b).2 k≠grp p):findB r n p=(ByteArray.empty,false) :=
 findB_no hc hb hn (no_group fun k hk g hg=>by
  have h1:=hs k (by rw [bookM_len];exact hk)
  rw [(his.gp (List.mem_of_getElem? hb) hg).2] at h1
  exact h1)
theorem groups_some {r:List PStep}{l:List UInt8}{i:IdxM}{b:PStep}{p:ByteArray}{j k:Nat}(his:IdxIs r l i)(hb:r[j]?=some b)(hk:k<(bookM (textsP r) (pathsP r) (tabsB r) b).2.length)(he:gpF l i (bookM (textsP r) (pathsP r) (tabsB r) b).2 k=grp p) :
  ∃ a t:Nat,(bookM (textsP r) (pathsP r) (tabsB r) b).2[k]?=some ((a:Int),(t:Int))∧t<i.tabs.length∧nrowsM i t=(inG b (grp p)).length∧∀(q:Nat) (v:PKey),(inG b (grp p))[q]?=some v→valM l i t q=v:=by
 rw [bookM_len] at hk
 have hg:(groupsB b.2)[k]?=some (groupsB b.2)[k]:=List.getElem?_eq_getElem hk
 have hbm:=List.mem_of_getElem? hb
 obtain ⟨h1,h2⟩:=his.gp hbm hg
 rw [h2] at he
 rw [he] at h1 hg
 have hgm:=List.mem_of_getElem? hg
 have h3:=his.row_at hbm hgm
 refine ⟨_,_,h1,?_,h3.1,h3.2⟩
 rw [his.nX]
 exact tix_lt ((poolL_mem _ _).2 (List.mem_flatMap.2 ⟨b,hbm,List.mem_map.2 ⟨_,hgm,rfl⟩⟩))
theorem rows_none {r:List PStep}{l:List UInt8}{i:IdxM}{b:PStep}{n p:ByteArray}{j t:Nat}(hc:(checkB r).1=0)(hb:r[j]?=some b)(hn:b.1=n)(hv:∀(q:Nat) (v:PKey),(inG b (grp p))[q]?=some v→valM l i t q=v)(hs:∀ k,k<(inG b (grp p)).length→ptF l i t k≠p):findB r n p=(ByteArray.empty,false) :=
 findB_no hc hb hn (no_row fun k hk v hkv=>by
  have h1:=hs k hk
  unfold ptF at h1
  rw [hv k v hkv] at h1
  exact h1)
theorem rows_some {r:List PStep}{l:List UInt8}{i:IdxM}{b:PStep}{n p:ByteArray}{j t q:Nat}(hc:(checkB r).1=0)(hb:r[j]?=some b)(hn:b.1=n)(hv:∀(q:Nat) (v:PKey),(inG b (grp p))[q]?=some v→valM l i t q=v)(hq:q<(inG b (grp p)).length)(he:ptF l i t q=p):findB r n p=(textM l i (rowM l i t q).2,true):=by
 have hx:(inG b (grp p))[q]?=some (inG b (grp p))[q]:=List.getElem?_eq_getElem hq
 have h1:=hv q _ hx
 have h2:(inG b (grp p))[q].1=p:=by
  have h5:=he
  unfold ptF at h5
  rw [h1] at h5
  exact h5
 have h3:textM l i (rowM l i t q).2=(inG b (grp p))[q].2:=by rw [←h1];rfl
 obtain ⟨k,hk⟩:=List.mem_iff_getElem?.1 (List.mem_filter.1 (List.mem_of_getElem? hx)).1
 obtain ⟨-,c2,c3⟩:=checkB_ok hc
 rw [h3]
 exact findB_some c2 hb hn (c3 b (List.mem_of_getElem? hb)).2.1 hk h2
/-- Direct's answer. -/
def DirPost (r:List PStep)(n p:ByteArray)(w:World)(e:Ending)(w':World):Prop:=e=.returned (.tuple #[.string (findB r n p).1,.bool (findB r n p).2])∧Below w.heap.size w w'
set_option maxRecDepth 100000 in
set_option maxHeartbeats 32000000 in
theorem direct_any {w:World}{g:Nat}{r:List PStep}(h:LoadedAt w g r)(n p:ByteArray)(hp:p.size≤140737488355328) :
  Calls Tryz.prog 9 #[.pointer (some ⟨g,0,none⟩),.string n,.string p] w (DirPost r n p w):=by
 have hL:=h.ld
 generalize bodyB r=l at hL
 generalize idxM l=i at hL
 obtain ⟨wA,hwA⟩:∃ wA,w.alloc (.cells #[.pointer (some ⟨g,0,none⟩)] 29)=wA:=⟨_,rfl⟩
 have hbA:Below w.heap.size w wA:=by rw [←hwA];exact (Below.refl w.heap.size w).alloc (Nat.le_refl _) _
 have hB1:Blk wA w.heap.size 29 #[.pointer (some ⟨g,0,none⟩)]:=by rw [←hwA];exact Blk.new w _ _
 have HS:=Lib.hid (seek_any 28 #[.pointer (some ⟨w.heap.size,0,none⟩)] r.length (nmF l i) n wA (enters_of Tryz.func28 (by kernel_rfl) rfl) (by have:=hL.nb;omega) (tells_names (hL.on hbA) (hB1.cell 0)) (hL.is.nm_rise (checkB_ok hL.right).2.1))
 have HL:=Lib.hid (hL.on hbA)
 obtain ⟨Ak,ck,hK0,-⟩:=hL.at_.bks
 have k0:=hK0 _ hbA
 rw [hL.len] at k0
 have hnr0:=hL.nb
 have HNM:=Lib.hid (fun j (b:PStep) (hb:r[j]?=some b)=>(hL.is.nm hb).2)
 have HBA:=Lib.hid hbA
 have HG1:=Lib.hid hB1
 have kb:=hB1.cell 0
 obtain ⟨nr,hnr⟩:∃ nr,r.length=nr:=⟨_,rfl⟩
 rw [hnr] at HS k0 hnr0
 have hnr1:(nr:Int)≤513:=by omega
 have HNR:=Lib.hid hnr
 clear hL h hK0 hbA hB1 hnr
 refine (callsIn_wide (n:=9)).1 ?_
 refine callsIn_of_wp_marks Tryz.func9 rfl trivial ?_ rfl
 simp only [Tryz.ntmps9,List.size_toArray,List.length_cons,List.length_nil,Nat.reduceAdd,Nat.reduceSub,Array.replicate_succ,Array.replicate_zero,List.push_toArray,List.append_toArray,List.nil_append,List.cons_append]
 gi_upto_region 4 with (first | (refine ⟨trivial,?_⟩;gi_at_call 27;go_loud (refine (callsIn_wide.2 HS.out).mono ?_;rintro en w1 ⟨⟨k,rfl,hk⟩,hb⟩;have HK:=Lib.hid hk;have HB1:=Lib.hid hb;clear hk hb)) | (rw [hwA]))
 clear hwA k0
 have HB1w:=Lib.hid (HBA.out.trans (HB1.out.mono HBA.out.size))
 have HL1:=Lib.hid (HL.out.on HB1.out)
 have HG2:=Lib.hid (HG1.out.below HB1.out HG1.out.lt)
 clear HL HG1 HS kb
 obtain ⟨bl,hbl⟩:∃ bl,w.heap.size=bl:=⟨_,rfl⟩
 rw [hbl] at HG2
 rw [hbl]
 have HBL:=Lib.hid hbl
 clear hbl
 rcases HK.out with ⟨j,hj,rfl,he⟩ | ⟨rfl,hn⟩
 case inr =>
  have HF:=Lib.hid (show findB r n p=(ByteArray.empty,false) from findB_book fun b hb e=>by
   obtain ⟨j,hj,rfl⟩:=List.getElem_of_mem hb
   have h1:=hn j (by rw [←HNR.out];exact hj)
   rw [HNM.out j _ (List.getElem?_eq_getElem hj)] at h1
   exact h1 e)
  clear hn HNM
  gi_wp2
  exact ⟨.tuple #[.string ⟨#[]⟩,.bool false],by simp [results,Tryz.f9,go_sem],by rw [HF.out];rfl,HB1w.out⟩
 case inl =>
  obtain ⟨b,hb⟩:∃ b,r[j]?=some b:=⟨_,List.getElem?_eq_getElem (by rw [HNR.out];exact hj)⟩
  have HBB:=Lib.hid hb
  have HBN:=Lib.hid (show b.1=n from (HNM.out j b hb).symm.trans he)
  have HBM:=Lib.hid (HL1.out.is.nm hb).1
  have hj1:¬ (j:Int)<0:=by omega
  have hj2:decide ((j:Int)<0)=false:=by simp
  have hj3:(j:Int)<(nr:Int):=by omega
  have hj4:(0:Int)≤(j:Int):=by omega
  have hjn:j<nr:=hj
  clear hb he hj HK HNM
  gi_wp2_with (refine ⟨trivial,?_⟩;gi_at_call 30;go_loud (refine (callsIn_wide.2 (names_any _ _)).mono ?_;rintro e w2 ⟨rfl,rfl⟩))
  obtain ⟨W0,hW0⟩:∃ W0,(w1.alloc (.cells #[.string ⟨#[]⟩] 9)).alloc (.cells #[.string p] 9)=W0:=⟨_,rfl⟩
  have bR:Boxed W0 w1.heap.size 9 (.string ⟨#[]⟩):=by rw [←hW0];exact (Boxed.new w1 _ _).alloc _
  have bN:W0.cell? ⟨w1.heap.size+1,0,none⟩=some (.string p):=by
   rw [←hW0]
   have:=(Boxed.new (w1.alloc (.cells #[.string ⟨#[]⟩] 9)) 9 (.string p)).cell
   rw [World.size_alloc] at this
   exact this
  have hsz:W0.heap.size=w1.heap.size+2:=by rw [←hW0];simp
  have hB0:Below w1.heap.size w1 W0:=by rw [←hW0];exact ((Below.refl _ w1).alloc (Nat.le_refl _) _).alloc (by simp) _
  rw [hW0]
  clear hW0
  obtain ⟨gb,hgb⟩:∃ gb,w1.heap.size=gb:=⟨_,rfl⟩
  rw [hgb] at bR bN hsz ⊢
  have HGB:=Lib.hid hgb
  clear hgb
  refine wpIn_both (fun D W=>W0.heap.size≤D∧W.heap[D]?=some (.deferred (some []))∧Boxed W gb 9 (.string (grp p))∧Below w1.heap.size w1 W) (fun _ _ h=>h) ?_ ?_
  ·refine wpIn_rangeFunc_ownH rfl (by decide) (gf:=59) (lb:=#[.pointer (some ⟨gb+1,0,none⟩)]) rfl trivial (enters_of Tryz.func59 (by kernel_rfl) rfl)
    (names_stops 8 (by decide) (gb+1) W0.heap.size p hp W0 (Nat.le_refl _) bN) cellsFrom_t (fun W l o o' _ h hc _=>cellsFrom_b W l o o' h hc) (Below.refl _ _) (fun _=>rfl)
    (fun pre W=>pre=[]∧Boxed W gb 9 (.string ⟨#[]⟩)∧Below W0.heap.size W0 W)
    (fun cd pre W=>(cd=Code.exit 0∧pre.length=1)∧Boxed W gb 9 (.string (nmOf (namesOf p) pre))∧Below w1.heap.size w1 W)
    (OwnFrom.and (ownFrom_pure _ _) (OwnFrom.and (Own.from (boxed_own _ _ _) _) (ownFrom_below (Nat.le_refl _) (Nat.le_refl _))))
    (fun cd=>OwnFrom.and (ownFrom_pure _ _) (OwnFrom.and (Own.from (boxed_own _ _ _) _) (ownFrom_below (Nat.le_refl _) (by have:=HGB.out;omega))))
    ⟨rfl,bR,Below.refl _ _⟩
    (fun x a' W=>a'={ tmps:=#[.pointer (some ⟨g,0,none⟩),.string n,.string p,.pointer (some ⟨bl,0,none⟩),undef,undef,.string ⟨#[]⟩,.bool false,.int .i64 (j:Int),.pointer (some ⟨gb,0,none⟩),undef,.string ((namesOf p).get x).1,undef,undef,undef,undef,undef,undef,.pointer (some ⟨g,0,none⟩),.bool false,.pointer (some ⟨g,0,none⟩),.pointer (some ⟨g,0,none⟩),.pointer (some ⟨g,0,none⟩),.pointer (some ⟨g,4,none⟩),.slice Ak nr ck,.int .i64 (nr:Int),.func (.func 28) #[] #[.pointer (some ⟨bl,0,none⟩)],.string n,.int .i64 (j:Int),.int .i64 (j:Int),.bool false,.string p,.func (.func 59) #[] #[.pointer (some ⟨gb+1,0,none⟩)],.int .i64 (x.val:Int),.string ((namesOf p).get x).1,undef,undef,undef,undef,undef,undef,undef,undef,undef,undef,undef,undef,undef,undef,undef,undef,undef,undef,undef,undef,undef,undef,undef,undef,undef,undef,undef,undef,undef,undef,undef,undef,undef,undef,undef,undef,undef,undef,undef,undef,undef,undef,undef,undef,undef,undef,undef],defers:=[] })
    (fun x a'=>ownFrom_pure _ _)
    ?assign ?body ?done ?stop
   case assign =>
    rintro lp pre i W K hI hK
    have HI:=Lib.hid hI
    clear hI
    simp only [nmEnc]
    gi_wp2
    exact hK _ _ (KeepsFrom.refl _ _) (cellsFrom_refl _ _) HI.out rfl
   case body =>
    rintro lp pre i a' W hl ⟨rr,hr⟩ ⟨rfl,bk,hB⟩ rfl hlt
    have HB:=Lib.hid hB
    have HK:=Lib.hid bk
    have f1:=bk.cell
    have f2:=bk.frozen
    have HN:=Lib.hid (show nmOf (namesOf p) ([]++[i])=((namesOf p).get i).1 from rfl)
    clear hr hB bk hlt hl
    generalize ((namesOf p).get i).1=nm at *
    gi_wp2
    refine ⟨(KeepsOthers.setCell _ _ _).from _,⟨rfl,rfl⟩,?_,?_⟩
    ·rw [HN.out]
     exact HK.out.set (.string nm)
    ·exact (hB0.trans (HB.out.mono (by have:=HGB.out;omega))).setCell (p:=⟨gb,0,none⟩) (by have:=HGB.out;simp;omega) _
   case done =>
    rintro D xs W hD ⟨hDs,hlen⟩ ⟨rfl,bk,hB⟩ hK
    have HG:=show grp p=ByteArray.empty from by
     have hl:(namesOf p).length=0:=hlen.symm
     rw [grp_names,List.eq_nil_of_length_eq_zero hl]
     rfl
    refine ⟨.inl rfl,D,rfl,hD,hK,?_,hB0.trans (hB.mono (by have:=HGB.out;omega))⟩
    rw [HG]
    exact bk
   case stop =>
    rintro D cd pre W hD hDs ⟨⟨rfl,hl1⟩,bk,hB⟩ hK
    have HG:nmOf (namesOf p) pre=grp p:=by
     obtain ⟨x,rfl⟩:∃ x,pre=[x]:=by
      match pre,hl1 with
      | [x],_=>exact ⟨x,rfl⟩
     rw [grp_names]
     exact nm_first _ x (hDs.1 0 x rfl)
    rw [HG] at bk
    exact wpIn_exit ⟨.inr rfl,D,rfl,hD,hK,bk,hB⟩
  ·rintro D W ⟨hD,hK,bG,hB⟩
   (try dsimp only)
   have hD0:w.heap.size≤D:=by have:=HB1w.out.size;have:=HGB.out;omega
   have HK:=Lib.hid hK
   have HBW:=Lib.hid (HB1w.out.trans (hB.mono HB1w.out.size))
   have HLW:=Lib.hid (HL1.out.on hB)
   have HGL:=Lib.hid (HG2.out.below hB HG2.out.lt)
   have HGG:=Lib.hid bG
   clear HB1w HL1 HG2 hK hB bG bR bN hB0 hsz hD HB1
   obtain ⟨bm,hbm⟩:∃ bm,bookM (textsP r) (pathsP r) (tabsB r) b=bm:=⟨_,rfl⟩
   have HBQ:=Lib.hid hbm
   rw [hbm] at HBM
   obtain ⟨Ak',ck',hK0,hKB⟩:=HLW.out.at_.bks
   obtain ⟨bk,ok,Ag,cg,rfl,hgc,hgm,hfar⟩:=hKB j _ HBM.out
   obtain ⟨nm,gs⟩:=bm
   simp only at hgc hfar
   have HFR:=Lib.hid hfar
   obtain ⟨ng,hng⟩:∃ ng,gs.length=ng:=⟨_,rfl⟩
   have HNG:=Lib.hid hng
   have hng9:ng≤16777216:=by
    have:=HLW.out.bks _ (List.mem_of_getElem? HBM.out)
    simp only at this
    omega
   rw [hng] at hgc HFR
   have x0:W.cell? ⟨bl,0,none⟩=some (.pointer (some ⟨g,0,none⟩)):=HGL.out.cell 0
   have x1:W.cell? ⟨g,4,none⟩=some (.slice (some ⟨bk,ok,none⟩) nr ck'):=by
    have h:=hK0 W (Below.refl _ _)
    rw [HLW.out.len,HNR.out] at h
    exact h
   have x2:W.cell? ⟨bk,ok+j*2+1,none⟩=some (.slice Ag ng cg):=(HFR.out W (Below.refl _ _)).2.1
   clear hbm hK0 hKB hfar hng
   gi_upto_region 11 with (fail)
   obtain ⟨W1,hW1⟩:∃ W1,W.alloc (.cells #[.slice Ag ng cg] 74)=W1:=⟨_,rfl⟩
   have hb1:Below W.heap.size W W1:=by rw [←hW1];exact (Below.refl _ W).alloc (Nat.le_refl _) _
   have b1:Blk W1 W.heap.size 74 #[.slice Ag ng cg]:=by rw [←hW1];exact Blk.new W _ _
   rw [hW1]
   clear hW1 x0 x1 x2
   have HL2:=Lib.hid (HLW.out.on hb1)
   have HGL2:=Lib.hid (HGL.out.below hb1 HGL.out.lt)
   have HK2:=Lib.hid (marks_stay HK.out hb1)
   have HB2:=Lib.hid (HBW.out.trans (hb1.mono HBW.out.size))
   have y0:W1.cell? ⟨gb,0,none⟩=some (.string (grp p)):=(hb1.cell (p:=⟨gb,0,none⟩) (World.block_lt_of_cell? _ _ HGG.out.cell)).trans HGG.out.cell
   obtain ⟨gg,hgg⟩:∃ gg,W.heap.size=gg:=⟨_,rfl⟩
   rw [hgg] at b1 ⊢
   have HBG:=Lib.hid b1
   have y1:W1.cell? ⟨gg,0,none⟩=some (.slice Ag ng cg):=b1.cell 0
   have HS2:=Lib.hid (seek_any 31 #[.pointer (some ⟨bl,0,none⟩),.pointer (some ⟨gg,0,none⟩)] ng (gpF l i gs) (grp p) W1 (enters_of Tryz.func31 (by kernel_rfl) rfl) hng9
    (by
     have h:=tells_groups (k:=(nm,gs)) HL2.out (HGL2.out.cell 0) HBM.out (by rw [HNG.out];exact y1) (by
      have h3:=(HFR.out W1 hb1).2.2
      rw [HNG.out]
      exact h3.more hb1.size)
     rw [HNG.out] at h
     exact h)
    (by
     have h:=HL2.out.is.gp_rise (List.mem_of_getElem? HBB.out)
     rw [HBQ.out,←bookM_len (textsP r) (pathsP r) (tabsB r) b,HBQ.out,HNG.out] at h
     exact h))
   have HB01:=Lib.hid hb1
   clear hb1 hgg b1 HLW HGL HK HBW HGG
   gi_upto_region 12 with (refine ⟨trivial,?_⟩;gi_at_call 27;go_loud (refine (callsIn_wide.2 HS2.out).mono ?_;rintro en w3 ⟨⟨k2,rfl,hk⟩,hb⟩;have HH2:=Lib.hid hk;have HB3:=Lib.hid (HB2.out.trans (hb.mono HB2.out.size));have HL3:=Lib.hid (HL2.out.on hb);have HGL3:=Lib.hid (HGL2.out.below hb HGL2.out.lt);have HK3:=Lib.hid (marks_stay HK2.out hb);have HBG3:=Lib.hid (HBG.out.below hb HBG.out.lt);have HBX:=Lib.hid (HB01.out.trans (hb.mono HB01.out.size));clear hk hb))
   clear y0 y1 HS2 HL2 HGL2 HK2 HB2 HBG HB01
   have HCK:=Lib.hid HL3.out.right
   rcases HH2.out with ⟨q,hq,rfl,he⟩ | ⟨rfl,hn⟩
   case inr =>
    have HF:=Lib.hid (show findB r n p=(ByteArray.empty,false) from groups_none HL3.out.is HL3.out.right HBB.out HBN.out (fun k hk=>by rw [HBQ.out];rw [HBQ.out,HNG.out] at hk;exact hn k hk))
    clear hn HH2
    gi_wp2
    exact direct_end rfl rfl HK3.out hD0 HB3.out fun W' hb'=>⟨by rw [HF.out];rfl,hb'⟩
   case inl =>
    obtain ⟨ta,tt,hx,htl,hnr,hv⟩:=groups_some HL3.out.is HBB.out (k:=q) (p:=p) (by rw [HBQ.out,HNG.out];exact hq) (by rw [HBQ.out];exact he)
    rw [HBQ.out] at hx
    obtain ⟨bg,og,rfl,hbg,hcl⟩:=(HFR.out w3 HBX.out).2.2.spot (by omega) (by omega)
    have z0:w3.cell? ⟨bg,og+q*2+1,none⟩=some (.int .u32 (tt:Int)):=hcl _ _ (rowCells_at hx).2
    have z1:w3.cell? ⟨gg,0,none⟩=some (.slice (some ⟨bg,og,none⟩) ng cg):=HBG3.out.cell 0
    have HV:=Lib.hid hv
    have HNR2:=Lib.hid hnr
    have hq1:¬ (q:Int)<0:=by omega
    have hq2:decide ((q:Int)<0)=false:=by simp
    have hq3:(q:Int)<(ng:Int):=by omega
    have hq4:(0:Int)≤(q:Int):=by omega
    have htl9:tt≤16777216:=by have:=HL3.out.tab;omega
    have htw:IntKind.i64.wrap (tt:Int)=(tt:Int):=by rw [IntKind.wrap_i64];omega
    have ht1:(tt:Int)≤16777216:=by omega
    have ht0:(0:Int)≤(tt:Int):=by omega
    clear hx hcl hv hnr he hq HH2 hbg
    gi_upto_region 15 with (fail)
    obtain ⟨W4,hW4⟩:∃ W4,w3.alloc (.cells #[.int .i64 (tt:Int)] 3)=W4:=⟨_,rfl⟩
    have hb4:Below w3.heap.size w3 W4:=by rw [←hW4];exact (Below.refl _ w3).alloc (Nat.le_refl _) _
    have b4:Blk W4 w3.heap.size 3 #[.int .i64 (tt:Int)]:=by rw [←hW4];exact Blk.new w3 _ _
    rw [hW4]
    clear hW4 z0 z1
    obtain ⟨gt,hgt⟩:∃ gt,w3.heap.size=gt:=⟨_,rfl⟩
    rw [hgt] at b4 ⊢
    have HL4:=Lib.hid (HL3.out.on hb4)
    have HGL4:=Lib.hid (HGL3.out.below hb4 HGL3.out.lt)
    have HK4:=Lib.hid (marks_stay HK3.out hb4)
    have HB4:=Lib.hid (HB3.out.trans (hb4.mono HB3.out.size))
    have HGT:=Lib.hid b4
    have x0:W4.cell? ⟨bl,0,none⟩=some (.pointer (some ⟨g,0,none⟩)):=HGL4.out.cell 0
    have x1:W4.cell? ⟨gt,0,none⟩=some (.int .i64 (tt:Int)):=b4.cell 0
    have hd4:=(Below.refl W4.heap.size W4).drew
    have HD4:=Lib.hid hd4
    have HRW:=Lib.hid (rows_any (HL4.out.on hd4).at_ HL4.out.ok.toIdxIn htl HL4.out.few)
    rw [HNR2.out] at HRW
    obtain ⟨nv,hnv⟩:∃ nv,(inG b (grp p)).length=nv:=⟨_,rfl⟩
    rw [hnv] at HRW
    have HNV:=Lib.hid hnv
    have HRI:=Lib.hid (show RiseF (ptF l i tt) nv from by
     obtain ⟨-,-,c3⟩:=checkB_ok HCK.out
     have hvr:=(c3 b (List.mem_of_getElem? HBB.out)).2.1
     rw [←hnv]
     intro x y hxy hy
     have h1:(inG b (grp p))[y]?=some (inG b (grp p))[y]:=List.getElem?_eq_getElem hy
     have h2:(inG b (grp p))[x]?=some ((inG b (grp p))[x]'(by omega)):=List.getElem?_eq_getElem (by omega)
     unfold ptF
     rw [HV.out _ _ h1,HV.out _ _ h2]
     exact rise_at (lt:=fun x y:PKey=>Go.Proofs.YthdldooilcbmlaaGreatDoor.bl x.1 y.1) (List.Pairwise.filter _ hvr) h2 h1 hxy)
    have hnv9:nv≤16777216:=by
     have h1:=check_few HCK.out b (List.mem_of_getElem? HBB.out)
     have h2:(inG b (grp p)).length≤b.2.length:=List.length_filter_le _ _
     omega
    have HS3:=Lib.hid (fun W' (hb:Below W4.heap.size W4 W')=>seek_any 33 #[.pointer (some ⟨bl,0,none⟩),.pointer (some ⟨gt,0,none⟩)] nv (ptF l i tt) p W' (enters_of Tryz.func33 (by kernel_rfl) rfl) hnv9
     (by
      have h:=tells_rows (HL4.out.on hb) ((HGL4.out.below hb HGL4.out.lt).cell 0) ((HGT.out.below hb HGT.out.lt).cell 0) htl
      rw [HNR2.out,HNV.out] at h
      exact h) HRI.out)
    clear hb4 hgt b4 HL3 HGL3 HK3 HB3 hd4 hnv HBG3 HFR HBX
    refine wpIn_wide.2 (wp_onlyN ?_)
    refine wp_region_M (fun W=>W.cell? ⟨bl,0,none⟩=some (.pointer (some ⟨g,0,none⟩))∧W.cell? ⟨gt,0,none⟩=some (.int .i64 (tt:Int))) 9 (by kernel_rfl) (by go_keep) (fun hHeld=>?_)
    refine wpAnyM_take (i:=0) (d:=(some 58)) (v:=?_) rfl rfl (by kernel_rfl) (by kernel_rfl) (by kernel_rfl) (by kernel_rfl) (by kernel_rfl) (fun _ _ _ h=>h) (Or.inl ⟨by rfl,?_⟩) (by assumption) ?_
    rotate_left
    ·intro w hSw
     (try dsimp only at hSw)
     go_simp
     (try with_reducible rfl)
    (try simp only [Act.put,List.setIfInBounds_toArray,List.set_cons_zero,List.set_cons_succ])
    refine wpAnyM_take (i:=1) (d:=(some 59)) (v:=?_) rfl rfl (by kernel_rfl) (by kernel_rfl) (by kernel_rfl) (by kernel_rfl) (by kernel_rfl) (fun _ _ _ h=>h) (Or.inl ⟨by rfl,?_⟩) (by assumption) ?_
    rotate_left
    ·intro w hSw
     (try dsimp only at hSw)
     go_simp
     (try with_reducible rfl)
    (try simp only [Act.put,List.setIfInBounds_toArray,List.set_cons_zero,List.set_cons_succ])
    refine wpAnyM_take (i:=2) (d:=(some 60)) (v:=?_) rfl rfl (by kernel_rfl) (by kernel_rfl) (by kernel_rfl) (by kernel_rfl) (by kernel_rfl) (fun _ _ _ h=>h) (Or.inl ⟨by rfl,?_⟩) (by assumption) ?_
    rotate_left
    ·intro w hSw
     (try dsimp only at hSw)
     go_simp
     (try with_reducible rfl)
    (try simp only [Act.put,List.setIfInBounds_toArray,List.set_cons_zero,List.set_cons_succ])
    refine wpAnyM_take (i:=3) (d:=(some 61)) (v:=?_) rfl rfl (by kernel_rfl) (by kernel_rfl) (by kernel_rfl) (by kernel_rfl) (by kernel_rfl) (fun _ _ _ h=>h) (Or.inl ⟨by rfl,?_⟩) (by assumption) ?_
    rotate_left
    ·intro w hSw
     (try dsimp only at hSw)
     go_simp
     (try with_reducible rfl)
    (try simp only [Act.put,List.setIfInBounds_toArray,List.set_cons_zero,List.set_cons_succ])
    refine wpAnyM_take (i:=5) (d:=(some 63)) (v:=?_) rfl rfl (by kernel_rfl) (by kernel_rfl) (by kernel_rfl) (by kernel_rfl) (by kernel_rfl) (fun _ _ _ h=>h) (Or.inl ⟨by rfl,?_⟩) (by assumption) ?_
    rotate_left
    ·intro w hSw
     (try dsimp only at hSw)
     go_simp
     (try with_reducible rfl)
    (try simp only [Act.put,List.setIfInBounds_toArray,List.set_cons_zero,List.set_cons_succ])
    refine wpAnyM_take (i:=6) (d:=(some 64)) (v:=?_) rfl rfl (by kernel_rfl) (by kernel_rfl) (by kernel_rfl) (by kernel_rfl) (by kernel_rfl) (fun _ _ _ h=>h) (Or.inl ⟨by rfl,?_⟩) (by assumption) ?_
    rotate_left
    ·intro w hSw
     (try dsimp only at hSw)
     go_simp
     (try with_reducible rfl)
    (try simp only [Act.put,List.setIfInBounds_toArray,List.set_cons_zero,List.set_cons_succ])
    refine wpAnyM_one (i:=4) (by kernel_rfl) ?_
    refine owe_early (i:=4) (d:=(some 62)) rfl rfl (fun K hK=>?_)
    go_simp
    refine HRW.out.mono ?_
    rintro en wa ⟨rfl,kd,hwa⟩
    have hda:Below W4.drew.heap.size W4.drew wa:=hwa ▸ below_drawsK W4.drew kd
    have HA1:=Lib.hid (HD4.out.trans (hda.mono HD4.out.size))
    have u0:wa.cell? ⟨bl,0,none⟩=some (.pointer (some ⟨g,0,none⟩)):=(HGL4.out.below HA1.out HGL4.out.lt).cell 0
    have u1:wa.cell? ⟨gt,0,none⟩=some (.int .i64 (tt:Int)):=(HGT.out.below HA1.out HGT.out.lt).cell 0
    clear hwa hda
    refine hK.out _ _ (by go_keep) (fun hHeld=>?_)
    clear hK K
    (try simp only [Act.put,List.setIfInBounds_toArray,List.set_cons_zero,List.set_cons_succ])
    refine wpAnyM_one (i:=7) (by kernel_rfl) ?_
    refine owe_early (i:=7) (d:=(some 65)) rfl rfl (fun K hK=>?_)
    go_simp
    refine (HS3.out wa HA1.out).mono ?_
    rintro en wb ⟨⟨k3,rfl,hk3⟩,hb⟩
    have HH3:=Lib.hid hk3
    have HA2:=Lib.hid (HA1.out.trans (hb.mono HA1.out.size))
    have v0:wb.cell? ⟨bl,0,none⟩=some (.pointer (some ⟨g,0,none⟩)):=(HGL4.out.below HA2.out HGL4.out.lt).cell 0
    have v1:wb.cell? ⟨gt,0,none⟩=some (.int .i64 (tt:Int)):=(HGT.out.below HA2.out HGT.out.lt).cell 0
    clear hk3 hb
    refine hK.out _ _ (by go_keep) (fun hHeld=>?_)
    clear hK K
    (try simp only [Act.put,List.setIfInBounds_toArray,List.set_cons_zero,List.set_cons_succ])
    refine wpAnyM_take (i:=8) (d:=(some 15)) (v:=?_) rfl rfl (by kernel_rfl) (by kernel_rfl) (by kernel_rfl) (by kernel_rfl) (by kernel_rfl) (fun _ _ _ h=>h) (Or.inl ⟨by rfl,?_⟩) (by assumption) ?_
    rotate_left
    ·intro w hSw
     (try dsimp only at hSw)
     go_simp
     (try with_reducible rfl)
    (try simp only [Act.put,List.setIfInBounds_toArray,List.set_cons_zero,List.set_cons_succ])
    refine wpAnyM_done (by kernel_rfl) ?_ _
    (try simp only [Act.put,List.setIfInBounds_toArray,List.set_cons_zero,List.set_cons_succ])
    simp only [OnlyN]
    have HK5:=Lib.hid (marks_stay HK4.out HA2.out)
    have HL5:=Lib.hid (HL4.out.on HA2.out)
    have HGL5:=Lib.hid (HGL4.out.below HA2.out HGL4.out.lt)
    have HB5:=Lib.hid (HB4.out.trans (HA2.out.mono HB4.out.size))
    have HGT5:=Lib.hid (HGT.out.below HA2.out HGT.out.lt)
    clear HS3 HRW HL4 HGL4 HK4 HB4 HGT HD4 HA2 x0 x1
    rcases HH3.out with ⟨q5,hq5,rfl,he5⟩ | ⟨rfl,hn5⟩
    case inr =>
     have HF:=Lib.hid (show findB r n p=(ByteArray.empty,false) from rows_none (t:=tt) HCK.out HBB.out HBN.out HV.out (fun k hk=>by rw [HNV.out] at hk;exact hn5 k hk))
     clear hn5 HH3 HV
     gi_wp2
     exact direct_end rfl rfl HK5.out hD0 HB5.out fun W' hb'=>⟨by rw [HF.out];rfl,hb'⟩
    case inl =>
     have HF:=Lib.hid (rows_some (t:=tt) (q:=q5) HCK.out HBB.out HBN.out HV.out (by rw [HNV.out];exact hq5) he5)
     have hq6:¬ (q5:Int)<0:=by omega
     have hq7:decide ((q5:Int)<0)=false:=by simp
     have hdw:=(Below.refl wb.heap.size wb).drew
     have HDW:=Lib.hid hdw
     have HRX:=Lib.hid (irow_any (HL5.out.on hdw).at_ HL5.out.ok.toIdxIn htl (q:=q5) (by rw [HNR2.out,HNV.out];exact hq5) HL5.out.few)
     have HNT:=Lib.hid (show (rowM l i tt q5).2<i.texts.length from by
      obtain ⟨sp,hsp⟩:∃ sp,i.tabs[tt]?=some sp:=⟨_,List.getElem?_eq_getElem htl⟩
      obtain ⟨k9,e1,e2,e3⟩:=HL5.out.ok.tabs sp (List.mem_of_getElem? hsp)
      have hnk:nv=k9:=by
       rw [←HNV.out,←HNR2.out]
       unfold nrowsM
       rw [List.getD_eq_getElem?_getD,hsp]
       simp only [Option.getD_some]
       omega
      have h:=(e3 q5 (by omega)).2
      unfold rowM
      rw [List.getD_eq_getElem?_getD,hsp]
      exact h)
     obtain ⟨pr,hpr⟩:∃ pr,rowM l i tt q5=pr:=⟨_,rfl⟩
     rw [hpr] at HRX HNT HF
     obtain ⟨np,nt⟩:=pr
     simp only at HRX HNT HF
     have z0:wb.cell? ⟨bl,0,none⟩=some (.pointer (some ⟨g,0,none⟩)):=HGL5.out.cell 0
     have z1:wb.cell? ⟨gt,0,none⟩=some (.int .i64 (tt:Int)):=HGT5.out.cell 0
     clear hpr he5 hq5 HH3 HV hdw
     gi_upto_region 18 with (fail)
     refine wpIn_wide.2 (wp_onlyN ?_)
     refine wp_region_M (fun W=>W.cell? ⟨bl,0,none⟩=some (.pointer (some ⟨g,0,none⟩))∧W.cell? ⟨gt,0,none⟩=some (.int .i64 (tt:Int))) 11 (by kernel_rfl) (by go_keep) (fun hHeld=>?_)
     refine wpAnyM_take (i:=0) (d:=(some 69)) (v:=?_) rfl rfl (by kernel_rfl) (by kernel_rfl) (by kernel_rfl) (by kernel_rfl) (by kernel_rfl) (fun _ _ _ h=>h) (Or.inl ⟨by rfl,?_⟩) (by assumption) ?_
     rotate_left
     ·intro w hSw
      (try dsimp only at hSw)
      go_simp
      (try with_reducible rfl)
     (try simp only [Act.put,List.setIfInBounds_toArray,List.set_cons_zero,List.set_cons_succ])
     refine wpAnyM_take (i:=1) (d:=(some 70)) (v:=?_) rfl rfl (by kernel_rfl) (by kernel_rfl) (by kernel_rfl) (by kernel_rfl) (by kernel_rfl) (fun _ _ _ h=>h) (Or.inl ⟨by rfl,?_⟩) (by assumption) ?_
     rotate_left
     ·intro w hSw
      (try dsimp only at hSw)
      go_simp
      (try with_reducible rfl)
     (try simp only [Act.put,List.setIfInBounds_toArray,List.set_cons_zero,List.set_cons_succ])
     refine wpAnyM_take (i:=2) (d:=(some 71)) (v:=?_) rfl rfl (by kernel_rfl) (by kernel_rfl) (by kernel_rfl) (by kernel_rfl) (by kernel_rfl) (fun _ _ _ h=>h) (Or.inl ⟨by rfl,?_⟩) (by assumption) ?_
     rotate_left
     ·intro w hSw
      (try dsimp only at hSw)
      go_simp
      (try with_reducible rfl)
     (try simp only [Act.put,List.setIfInBounds_toArray,List.set_cons_zero,List.set_cons_succ])
     refine wpAnyM_take (i:=3) (d:=(some 72)) (v:=?_) rfl rfl (by kernel_rfl) (by kernel_rfl) (by kernel_rfl) (by kernel_rfl) (by kernel_rfl) (fun _ _ _ h=>h) (Or.inl ⟨by rfl,?_⟩) (by assumption) ?_
     rotate_left
     ·intro w hSw
      (try dsimp only at hSw)
      go_simp
      (try with_reducible rfl)
     (try simp only [Act.put,List.setIfInBounds_toArray,List.set_cons_zero,List.set_cons_succ])
     refine wpAnyM_take (i:=4) (d:=(some 73)) (v:=?_) rfl rfl (by kernel_rfl) (by kernel_rfl) (by kernel_rfl) (by kernel_rfl) (by kernel_rfl) (fun _ _ _ h=>h) (Or.inl ⟨by rfl,?_⟩) (by assumption) ?_
     rotate_left
     ·intro w hSw
      (try dsimp only at hSw)
      go_simp
      (try with_reducible rfl)
     (try simp only [Act.put,List.setIfInBounds_toArray,List.set_cons_zero,List.set_cons_succ])
     refine wpAnyM_one (i:=5) (by kernel_rfl) ?_
     refine owe_early (i:=5) (d:=(some 74)) rfl rfl (fun K hK=>?_)
     go_simp
     refine HRX.out.mono ?_
     rintro en wc ⟨rfl,hb⟩
     have HAC:=Lib.hid (HDW.out.trans (hb.mono HDW.out.size))
     have HL6:=Lib.hid (HL5.out.on HAC.out)
     have HK6:=Lib.hid (marks_stay HK5.out HAC.out)
     have HB6:=Lib.hid (HB5.out.trans (HAC.out.mono HB5.out.size))
     have HGL6:=Lib.hid (HGL5.out.below HAC.out HGL5.out.lt)
     have HGT6:=Lib.hid (HGT5.out.below HAC.out HGT5.out.lt)
     have w0:wc.cell? ⟨bl,0,none⟩=some (.pointer (some ⟨g,0,none⟩)):=HGL6.out.cell 0
     have w1:wc.cell? ⟨gt,0,none⟩=some (.int .i64 (tt:Int)):=HGT6.out.cell 0
     clear hb
     refine hK.out _ _ (by go_keep) (fun hHeld=>?_)
     clear hK K
     (try simp only [Act.put,List.setIfInBounds_toArray,List.set_cons_zero,List.set_cons_succ])
     refine wpAnyM_take (i:=6) (d:=(some 68)) (v:=?_) rfl rfl (by kernel_rfl) (by kernel_rfl) (by kernel_rfl) (by kernel_rfl) (by kernel_rfl) (fun _ _ _ h=>h) (Or.inl ⟨by rfl,?_⟩) (by assumption) ?_
     rotate_left
     ·intro w hSw
      (try dsimp only at hSw)
      go_simp
      (try with_reducible rfl)
     (try simp only [Act.put,List.setIfInBounds_toArray,List.set_cons_zero,List.set_cons_succ])
     refine wpAnyM_take (i:=7) (d:=(some 75)) (v:=?_) rfl rfl (by kernel_rfl) (by kernel_rfl) (by kernel_rfl) (by kernel_rfl) (by kernel_rfl) (fun _ _ _ h=>h) (Or.inl ⟨by rfl,?_⟩) (by assumption) ?_
     rotate_left
     ·intro w hSw
      (try dsimp only at hSw)
      go_simp
      (try with_reducible rfl)
     (try simp only [Act.put,List.setIfInBounds_toArray,List.set_cons_zero,List.set_cons_succ])
     refine wpAnyM_take (i:=8) (d:=(some 76)) (v:=?_) rfl rfl (by kernel_rfl) (by kernel_rfl) (by kernel_rfl) (by kernel_rfl) (by kernel_rfl) (fun _ _ _ h=>h) (Or.inl ⟨by rfl,?_⟩) (by assumption) ?_
     rotate_left
     ·intro w hSw
      (try dsimp only at hSw)
      go_simp
      (try with_reducible rfl)
     (try simp only [Act.put,List.setIfInBounds_toArray,List.set_cons_zero,List.set_cons_succ])
     refine wpAnyM_take (i:=9) (d:=(some 16)) (v:=?_) rfl rfl (by kernel_rfl) (by kernel_rfl) (by kernel_rfl) (by kernel_rfl) (by kernel_rfl) (fun _ _ _ h=>h) (Or.inl ⟨by rfl,?_⟩) (by assumption) ?_
     rotate_left
     ·intro w hSw
      (try dsimp only at hSw)
      go_simp
      (try with_reducible rfl)
     (try simp only [Act.put,List.setIfInBounds_toArray,List.set_cons_zero,List.set_cons_succ])
     refine wpAnyM_take (i:=10) (d:=(some 17)) (v:=?_) rfl rfl (by kernel_rfl) (by kernel_rfl) (by kernel_rfl) (by kernel_rfl) (by kernel_rfl) (fun _ _ _ h=>h) (Or.inl ⟨by rfl,?_⟩) (by assumption) ?_
     rotate_left
     ·intro w hSw
      (try dsimp only at hSw)
      go_simp
      (try with_reducible rfl)
     (try simp only [Act.put,List.setIfInBounds_toArray,List.set_cons_zero,List.set_cons_succ])
     refine wpAnyM_done (by kernel_rfl) ?_ _
     (try simp only [Act.put,List.setIfInBounds_toArray,List.set_cons_zero,List.set_cons_succ])
     simp only [OnlyN]
     have HTX:=Lib.hid (itext_any (HL6.out.on (Below.refl _ _)).at_ HL6.out.ok.toIdxIn HNT.out HL6.out.few)
     have z0:wc.cell? ⟨bl,0,none⟩=some (.pointer (some ⟨g,0,none⟩)):=HGL6.out.cell 0
     gi_wp2_with (refine ⟨trivial,?_⟩;gi_at_call 29;go_loud (refine (callsIn_wide.2 HTX.out).mono ?_;rintro en wd ⟨rfl,hb⟩;have HB7:=Lib.hid (HB6.out.trans (hb.mono HB6.out.size));have HK7:=Lib.hid (marks_stay HK6.out hb);clear hb))
     exact direct_end rfl rfl HK7.out hD0 HB7.out fun W' hb'=>⟨by rw [HF.out],hb'⟩
end
end Go.Proofs.YthdldooilcbmlaaGreatDoor
