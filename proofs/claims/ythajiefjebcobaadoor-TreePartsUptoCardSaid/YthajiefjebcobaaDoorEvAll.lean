/-
  All operations.
-/
import Derived.Test.YthajiefjebcobaaDoorEvLoc
import Derived.Test.YthajiefjebcobaaDoorEvIter
set_option linter.all false
set_option linter.unusedSimpArgs false
set_option linter.unusedVariables false
namespace Go.Ev
open Go

section
variable {P : Program} {C : Cfg} {G : List (List V)} {g : Gh} {σ : Store} {w : World} {o : Oper} {a : Act} {v : V} {tm : List V}

theorem s_all (hT : C.tys.Nodup) (hI : Inv C g σ w G) (ht : VRels C g σ w tm a.tmps.toList) (dr : Bool) {nid : Nat} {σ' : Store} {op : IOp} (hr : allocs op = true → Room σ nid)
    (hc : chkOp P C o.op op = true) (h : ev1 (rdV G tm) dr σ nid op = some (v, σ')) : Out P C G g σ w o a v σ' := by
  cases op with
  | mov => exact s_mov hI ht dr nid hc h
  | pick => exact s_pick hI ht dr nid hc h
  | alloc => exact s_alloc hI ht dr nid (hr rfl) hc h
  | box => exact s_box hI ht dr nid (hr rfl) hc h
  | build => exact s_build hI ht dr nid hc h
  | bslice mu => exact s_bslice hI ht dr nid (fun e => hr (by rw [e]; rfl)) hc h
  | load => exact s_load hI ht dr nid hc h
  | store => exact s_store hI ht dr nid hc h
  | nilck => exact s_nilck hI ht dr nid hc h
  | ari => exact s_ari hI ht dr nid hc h
  | eq ng k x y =>
    cases k with
    | bool => exact s_eq_bool hI ht dr nid hc h
    | nil => exact s_eq_nil hI ht dr nid hc h
    | cells ks => exact s_eq_cells hI ht dr nid hc h
  | un => exact s_un hI ht dr nid hc h
  | conv => exact s_conv hI ht dr nid hc h
  | mki => exact s_mki hI ht dr nid hc h
  | asrt => exact s_asrt hI ht dr nid hT hc h
  | asrt1 => exact s_asrt1 hI ht dr nid hc h
  | mkf => exact s_mkf hI ht dr nid hc h
  | slc => exact s_slc hI ht dr nid hc h
  | slcs => exact s_slcs hI ht dr nid hc h
  | faddr => exact s_faddr hI ht dr nid hc h
  | fld => exact s_fld hI ht dr nid hc h
  | iaddr => exact s_iaddr hI ht dr nid hc h
  | aaddr => exact s_aaddr hI ht dr nid hc h
  | idxs => exact s_idxs hI ht dr nid hc h
  | idxa => exact s_idxa hI ht dr nid hc h
  | ext => exact s_ext hI ht dr nid hc h
  | app => exact s_app hI ht dr nid (hr rfl) hc h
  | len => exact s_len hI ht dr nid hc h
  | mn => exact s_mn hI ht dr nid hc h
  | mx => exact s_mx hI ht dr nid hc h
  | clr => exact s_clr hI ht dr nid hc h
  | mkmap => exact s_mkmap hI ht dr nid (hr rfl) hc h
  | ins => exact s_ins hI ht dr nid hc h
  | lkup => exact s_lkup hI ht dr nid hc h
  | rng => exact s_rng hI ht dr nid (hr rfl) hc h
  | nxt => exact s_nxt hI ht dr nid hc h
  | call => cases h
  | panic => cases h
  | defer => cases h
  | recover => cases h
end
end Go.Ev
